/- AE, part 4: the model's small operations on memory, run beside the abstract ones. -/
import Derived.Test.YtheaofepenbcgaaDoorAe3
namespace Go.Proofs.YtheaofepenbcgaaDoor
open Go
namespace AE
variable [Sig]

/-- What a computation gives that touches no memory. -/
def pureRun {α : Type} (P : Program) : Sem α → Option α
  | .pure a => some a
  | .program k => pureRun P (k P)
  | .mark _ k => pureRun P k
  | _ => none

omit [Sig] in
theorem pureRun_run {α : Type} {P : Program} {s : Sem α} {a : α} (h : pureRun P s = some a) (w : World) : s.run P w = .ok a w := by
  induction s with
  | pure b => simp only [pureRun, Option.some.injEq] at h; subst h; rfl
  | program k ih => exact ih P h
  | mark m k ih => exact ih h
  | _ => cases h

def isPoison : Value → Bool
  | .complex .. => true
  | _ => false

def oneCell : Value → Bool
  | .agg _ | .tuple _ | .complex .f32 _ _ => false
  | _ => true

def cellsOf : Value → Option (List Value)
  | .agg ⟨l⟩ => some l
  | .tuple _ | .complex .f32 _ _ => none
  | v => some [v]

theorem VRel.oneCell {φ : Emb} {v v' : Value} (h : VRel φ v v') (h1 : oneCell v = true) : ∀ cs, v' ≠ .agg cs ∧ v' ≠ .tuple cs := by
  intro cs
  cases h
  case sym k => exact Sig.one k cs
  all_goals simp_all [AE.oneCell, AE.poison]

theorem VRel.cells {φ : Emb} {v v' : Value} {l : List Value} (h : VRel φ v v') (hl : cellsOf v = some l) :
    l.length = v'.cells.size ∧ ∀ j, j < l.length → VRel φ (l.getD j undef) (v'.cells.getD j undef) := by
  have one : ∀ {v v' : Value}, VRel φ v v' → (∀ cs, v' ≠ .agg cs) → l = [v] → l.length = v'.cells.size ∧ ∀ j, j < l.length → VRel φ (l.getD j undef) (v'.cells.getD j undef) := by
    intro v v' h hn e
    subst e
    have : v'.cells = #[v'] := by cases v' <;> first | rfl | exact absurd rfl (hn _)
    rw [this]
    refine ⟨rfl, fun j hj => ?_⟩
    have : j = 0 := by simpa using hj
    subst this
    simpa using h
  cases h with
  | poison => cases hl
  | sym k => exact one (.sym k) (fun cs => (Sig.one k cs).1) (by simpa [cellsOf, symv] using hl.symm)
  | agg cs cs' h1 h2 =>
    obtain ⟨l0⟩ := cs
    simp only [cellsOf, Option.some.injEq] at hl
    subst hl
    exact ⟨by simpa [Value.cells] using h1, fun j hj => by simpa [Value.cells] using h2 j (by simpa using hj)⟩
  | tuple => cases hl
  | bool b => exact one (.bool b) (fun _ => by simp) (by simpa [cellsOf] using hl.symm)
  | int k n => exact one (.int k n) (fun _ => by simp) (by simpa [cellsOf] using hl.symm)
  | float k b => exact one (.float k b) (fun _ => by simp) (by simpa [cellsOf] using hl.symm)
  | string s => exact one (.string s) (fun _ => by simp) (by simpa [cellsOf] using hl.symm)
  | pnil => exact one .pnil (fun _ => by simp) (by simpa [cellsOf] using hl.symm)
  | ptr h => exact one (.ptr h) (fun _ => by simp) (by simpa [cellsOf] using hl.symm)
  | slnil a b => exact one (.slnil a b) (fun _ => by simp) (by simpa [cellsOf] using hl.symm)
  | slz b h => exact one (.slz b h) (fun _ => by simp) (by simpa [cellsOf] using hl.symm)
  | slx n c h => exact one (.slx n c h) (fun _ => by simp) (by simpa [cellsOf] using hl.symm)
  | slg n c c' h a b d => exact one (.slg n c c' h a b d) (fun _ => by simp) (by simpa [cellsOf] using hl.symm)
  | mapnil => exact one .mapnil (fun _ => by simp) (by simpa [cellsOf] using hl.symm)
  | map h => exact one (.map h) (fun _ => by simp) (by simpa [cellsOf] using hl.symm)
  | chan => exact one .chan (fun _ => by simp) (by simpa [cellsOf] using hl.symm)
  | func fs fs' cs cs' a b c d e => exact one (.func fs fs' cs cs' a b c d e) (fun _ => by simp) (by simpa [cellsOf] using hl.symm)
  | yld h => exact one (.yld h) (fun _ => by simp) (by simpa [cellsOf] using hl.symm)
  | nilFunc => exact one .nilFunc (fun _ => by simp) (by simpa [cellsOf] using hl.symm)
  | nilIface => exact one .nilIface (fun _ => by simp) (by simpa [cellsOf] using hl.symm)
  | iface t h => exact one (.iface t h) (fun _ => by simp) (by simpa [cellsOf] using hl.symm)

omit [Sig] in
theorem Addr.add_at (b o i : Nat) : (⟨b, o, none⟩ : Addr).add i = ⟨b, o + i, none⟩ := by
  unfold Go.Addr.add
  split
  · rename_i h; subst h; rfl
  · rfl

/- SEVERAL CELLS -/

def AS.loadN (A : AS) (b off n : Nat) : Option (List Value) :=
  match A.bl.get b with
  | some { obj := .cells c, .. } => bif Nat.ble (off + n) c.length then some ((c.drop off).take n) else none
  | _ => none

omit [Sig] in
theorem loadN_spec {A : AS} {b off n : Nat} {vs : List Value} (h : A.loadN b off n = some vs) : vs.length = n ∧ ∀ j, j < n → A.load b (off + j) = some (vs.getD j undef) := by
  unfold AS.loadN at h
  unfold AS.load
  cases hk : A.bl.get b with
  | none => rw [hk] at h; cases h
  | some k =>
    rw [hk] at h
    obtain ⟨ob, fam, pos, st, ro, ty⟩ := k
    cases ob with
    | map es cl => cases h
    | oth x => cases h
    | cells c =>
      simp only at h ⊢
      cases hb : Nat.ble (off + n) c.length with
      | false => rw [hb] at h; cases h
      | true =>
        rw [hb, cond_true, Option.some.injEq] at h
        have hle := Nat.ble_eq.mp hb
        subst h
        refine ⟨by simp; omega, fun j hj => ?_⟩
        rw [List.getD_eq_getElem?_getD, List.getElem?_take, if_pos hj, List.getElem?_drop]
        rw [List.getElem?_eq_getElem (by omega)]
        rfl

theorem run_loadN {φ : Emb} {A : AS} {w : World} (hr : Rel φ A w) (P : Program) {b off n : Nat} {vs : List Value} {e : Em} (h : A.loadN b off n = some vs) (he : φ b = some e) :
    ∃ vs' : Array Value, (loadCells ⟨e.blk, e.sh + off, none⟩ n).run P w = .ok vs' w ∧ vs'.size = vs.length ∧ ∀ j, j < vs.length → VRel φ (vs.getD j undef) (vs'.getD j undef) := by
  obtain ⟨hl, hj⟩ := loadN_spec h
  have hex : ∀ j, j < n → ∃ v', w.cell? ⟨e.blk, e.sh + off + j, none⟩ = some v' ∧ VRel φ (vs.getD j undef) v' := fun j hjn => by
    obtain ⟨v', h1, h2⟩ := rel_load hr (hj j hjn) he
    exact ⟨v', by rw [show e.sh + off + j = e.sh + (off + j) by omega]; exact h1, h2⟩
  let f : Nat → Value := fun j => (w.cell? ⟨e.blk, e.sh + off + j, none⟩).getD undef
  have hf : ∀ j, j < n → w.cell? ((⟨e.blk, e.sh + off, none⟩ : Addr).add j) = some (f j) := fun j hjn => by
    obtain ⟨v', h1, _⟩ := hex j hjn
    rw [Addr.add_at, h1]
    simp [f, h1]
  refine ⟨_, run_loadCells _ _ n f hf, by simp [hl], fun j hjn => ?_⟩
  obtain ⟨v', h1, h2⟩ := hex j (by omega)
  have : f j = v' := by simp [f, h1]
  simp only [Array.getD_eq_getD_getElem?]
  simp [show j < n by omega, this]
  simpa using h2

def AS.storeN : AS → Nat → Nat → List Value → Option AS
  | A, _, _, [] => some A
  | A, b, off, v :: r => bif oneCell v then match A.store b off v with
      | some A1 => A1.storeN b (off + 1) r
      | none => none
    else none

omit [Sig] in
theorem run_store {P : Program} {w : World} {a : Addr} {v u : Value} (hv : ∀ cs, v ≠ .agg cs ∧ v ≠ .tuple cs) (h1 : w.cell? a = some u) (h2 : w.frozen? a = false) : (Go.store a v).run P w = .ok () (w.setCell a v) := by
  unfold Go.store
  cases v <;> first | (exfalso; exact (hv _).1 rfl) | (exfalso; exact (hv _).2 rfl) | (simp [Sem.run, h1, h2])

theorem run_storeN {φ : Emb} (P : Program) {b : Nat} {e : Em} (he : φ b = some e) : ∀ (vs : List Value) (A A' : AS) (w : World) (off i : Nat) (vs' : List Value), Rel φ A w → A.storeN b (off + i) vs = some A' →
    vs'.length = vs.length → (∀ j, j < vs.length → VRel φ (vs.getD j undef) (vs'.getD j undef)) →
    ∃ w', (storeCells ⟨e.blk, e.sh + off, none⟩ vs' i).run P w = .ok () w' ∧ Step φ A w φ A' w'
  | [], A, A', w, off, i, vs', hr, h, hl, hv => by
    simp only [AS.storeN, Option.some.injEq] at h
    subst h
    have : vs' = [] := by simpa using hl
    subst this
    exact ⟨w, rfl, Step.refl hr⟩
  | v :: r, A, A', w, off, i, vs', hr, h, hl, hv => by
    cases vs' with
    | nil => simp at hl
    | cons v' r' =>
      unfold AS.storeN at h
      cases h1 : AE.oneCell v with
      | false => rw [h1] at h; cases h
      | true =>
        rw [h1, cond_true] at h
        cases hs : A.store b (off + i) v with
        | none => rw [hs] at h; cases h
        | some A1 =>
          rw [hs] at h
          simp only at h
          have hv0 : VRel φ v v' := by simpa using hv 0 (by simp)
          obtain ⟨st, ⟨u, hu⟩, hfr⟩ := step_store hr hs he hv0
          rw [← Nat.add_assoc] at st hu hfr
          obtain ⟨w', hw', st2⟩ := run_storeN P he r A1 A' _ off (i + 1) r' (by rw [Nat.add_assoc] at st; exact st.rel) (by rw [← Nat.add_assoc]; exact h) (by simpa using hl) (fun j hj => by simpa using hv (j + 1) (by simpa using hj))
          refine ⟨w', ?_, ?_⟩
          · unfold storeCells
            rw [Addr.add_at]
            simp only [Sem.run_bind, run_store (hv0.oneCell h1) hu hfr, Result.andThen_ok]
            rw [Nat.add_assoc]
            exact hw'
          · exact Step.trans hr (by rw [Nat.add_assoc] at st; exact st) st2

/- ROWS OF NEW VARIABLES -/

theorem run_newRow {φ : Emb} {A A' : AS} {w : World} (hr : Rel φ A w) (P : Program) {c : List Value} {c' : Array Value} {r st : Nat} (t : TypeId) (hp : A.push (.cells c) st t = some (r, A')) (hl : c.length ≤ c'.size) (hx : st = 0 → c.length = c'.size)
    (hv : ∀ j, j < c.length → VRel φ (c.getD j undef) (c'.getD j undef)) :
    ∃ φ' w', (newRow t c').run P w = .ok ⟨w.heap.size, 0, none⟩ w' ∧ φ' r = some ⟨w.heap.size, 0, st, c'.size⟩ ∧ Step φ A w φ' A' w' ∧ w' = { w with heap := w.heap.push (.cells c' t) } := by
  have hr' := (hr.wf.push hp).2.1
  have hmono : ∀ b e, φ b = some e → upd φ r ⟨w.heap.size, 0, st, c'.size⟩ b = some e := fun b e hb => by
    unfold upd; rw [if_neg (by have := hr.lt hb; omega)]; exact hb
  refine ⟨upd φ r ⟨w.heap.size, 0, st, c'.size⟩, { w with heap := w.heap.push (.cells c' t) }, ?_, by simp [upd], ?_, rfl⟩
  · simp [newRow, newObj, Sem.run]
  · refine step_push hr hp rfl rfl ?_
    simp only [ORel]
    refine ⟨c', (0, 0), by simp, rfl, by simp; exact ⟨hl, hx⟩, fun j hj => ?_, fun _ i _ => by simp⟩
    simp only [Nat.zero_add]
    exact (hv j hj).mono hmono

end AE
end Go.Proofs.YtheaofepenbcgaaDoor

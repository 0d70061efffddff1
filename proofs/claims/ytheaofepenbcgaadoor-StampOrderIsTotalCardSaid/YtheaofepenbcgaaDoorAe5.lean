/- AE, part 5: operations: the plain ones, and those that move values or touch memory cell by cell. -/
import Derived.Test.YtheaofepenbcgaaDoorAe4
namespace Go.Proofs.YtheaofepenbcgaaDoor
open Go
namespace AE
variable [Sig]

mutual
theorem VRel.eq_of_plain {φ : Emb} : ∀ (v : Value) {v' : Value}, plain v = true → VRel φ v v' → v' = v
  | .bool b, _, _, h => by cases h; rfl
  | .int k n, _, _, h => by cases h; rfl
  | .float k b, _, _, h => by cases h; rfl
  | .string s, _, _, h => by cases h; rfl
  | .pointer none, _, _, h => by cases h; rfl
  | .map none, _, _, h => by cases h; rfl
  | .chan none, _, _, h => by cases h; rfl
  | .nilFunc, _, _, h => by cases h; rfl
  | .nilIface, _, _, h => by cases h; rfl
  | .slice none l c, _, _, h => by cases h; rfl
  | .func (.func f) ⟨[]⟩ ⟨[]⟩, _, _, h => by
      cases h with
      | func fs fs' cs cs' hn h1 h2 hf hc =>
        have e1 : fs' = #[] := Array.eq_empty_of_size_eq_zero h1.symm
        have e2 : cs' = #[] := Array.eq_empty_of_size_eq_zero h2.symm
        rw [e1, e2]
  | .iface t v, _, hp, h => by
      cases h with
      | iface t h => rw [VRel.eq_of_plain v (by simpa [plain] using hp) h]
  | .agg ⟨l⟩, _, hp, h => by
      cases h with
      | agg cs cs' h1 h2 =>
        obtain ⟨l'⟩ := cs'
        rw [VRel.eq_of_plainL l l' (by simpa [plain] using hp) (by simpa using h1) (fun i hi => by simpa using h2 i (by simpa using hi))]
  | .tuple ⟨l⟩, _, hp, h => by
      cases h with
      | tuple cs cs' h1 h2 =>
        obtain ⟨l'⟩ := cs'
        rw [VRel.eq_of_plainL l l' (by simpa [plain] using hp) (by simpa using h1) (fun i hi => by simpa using h2 i (by simpa using hi))]
theorem VRel.eq_of_plainL {φ : Emb} : ∀ (l l' : List Value), plainL l = true → l.length = l'.length → (∀ i, i < l.length → VRel φ (l.getD i Go.undef) (l'.getD i Go.undef)) → l' = l
  | [], [], _, _, _ => rfl
  | [], _ :: _, _, h, _ => by simp at h
  | _ :: _, [], _, h, _ => by simp at h
  | v :: r, v' :: r', hp, hl, h => by
      have h1 := VRel.eq_of_plain v (by simp [plainL] at hp; exact hp.1) (by simpa using h 0 (by simp))
      have h2 := VRel.eq_of_plainL r r' (by simp [plainL] at hp; exact hp.2) (by simpa using hl) (fun i hi => by simpa using h (i + 1) (by simpa using hi))
      rw [h1, h2]
end

/-- A computation beside its abstract result. -/
def Snd {α : Type} (R : Emb → α → Prop) (P : Program) (φ : Emb) (A : AS) (w : World) (s : Sem α) (A' : AS) : Prop :=
  ∃ φ' w' a, s.run P w = .ok a w' ∧ R φ' a ∧ Step φ A w φ' A' w'

theorem Snd.pure_run {α : Type} {R : Emb → α → Prop} {P : Program} {φ : Emb} {A : AS} {w : World} (hr : Rel φ A w) {s : Sem α} {a : α} (h : pureRun P s = some a) (hR : R φ a) : Snd R P φ A w s A :=
  ⟨φ, w, a, pureRun_run h w, hR, Step.refl hr⟩

theorem Snd.bind {α β : Type} {R : Emb → α → Prop} {S : Emb → β → Prop} {P : Program} {φ : Emb} {A A1 A2 : AS} {w : World} (hr : Rel φ A w) {s : Sem α} {k : α → Sem β} (h : Snd R P φ A w s A1)
    (hk : ∀ φ1 w1 a, Rel φ1 A1 w1 → (∀ b e, φ b = some e → φ1 b = some e) → R φ1 a → Snd S P φ1 A1 w1 (k a) A2) : Snd S P φ A w (s >>= k) A2 := by
  obtain ⟨φ1, w1, a, h1, h2, h3⟩ := h
  obtain ⟨φ2, w2, b, g1, g2, g3⟩ := hk φ1 w1 a h3.rel (h3.ext hr) h2
  exact ⟨φ2, w2, b, by rw [Sem.run_bind, h1]; exact g1, g2, Step.trans hr h3 g3⟩

theorem Snd.map {α β : Type} {R : Emb → α → Prop} {S : Emb → β → Prop} {P : Program} {φ : Emb} {A A1 : AS} {w : World} {s : Sem α} {f : α → β} (h : Snd R P φ A w s A1) (hf : ∀ φ a, R φ a → S φ (f a)) : Snd S P φ A w (s >>= fun a => pure (f a)) A1 := by
  obtain ⟨φ1, w1, a, h1, h2, h3⟩ := h
  exact ⟨φ1, w1, f a, by rw [Sem.run_bind, h1]; rfl, hf _ _ h2, h3⟩

/-- .. with a fact by a pure computation ahead. -/
theorem Snd.pre {α β : Type} {S : Emb → β → Prop} {P : Program} {φ : Emb} {A A2 : AS} {w : World} {s : Sem α} {a : α} {k : α → Sem β} (h : pureRun P s = some a) (hk : Snd S P φ A w (k a) A2) : Snd S P φ A w (s >>= k) A2 := by
  obtain ⟨φ2, w2, b, g1, g2, g3⟩ := hk
  exact ⟨φ2, w2, b, by rw [Sem.run_bind, pureRun_run h w]; exact g1, g2, g3⟩

theorem Snd.ret {α : Type} {R : Emb → α → Prop} {P : Program} {φ : Emb} {A : AS} {w : World} (hr : Rel φ A w) {a : α} (hR : R φ a) : Snd R P φ A w (pure a) A := ⟨φ, w, a, rfl, hR, Step.refl hr⟩

abbrev RV (v : Value) : Emb → Value → Prop := fun φ v' => VRel φ v v'
abbrev RL (l : List Value) : Emb → Array Value → Prop := fun φ a => a.size = l.length ∧ ∀ j, j < l.length → VRel φ (l.getD j undef) (a.getD j undef)
abbrev RA (b off : Nat) : Emb → Addr → Prop := fun φ a => ∃ e, φ b = some e ∧ a = ⟨e.blk, e.sh + off, none⟩

section
variable {P : Program} {φ : Emb} {A A' : AS} {w : World}

theorem snd_loadN (hr : Rel φ A w) {b off n : Nat} {vs : List Value} {e : Em} (h : A.loadN b off n = some vs) (he : φ b = some e) : Snd (RL vs) P φ A w (loadCells ⟨e.blk, e.sh + off, none⟩ n) A := by
  obtain ⟨vs', h1, h2, h3⟩ := run_loadN hr P h he
  exact ⟨φ, w, vs', h1, ⟨h2, h3⟩, Step.refl hr⟩

/- VARIABLES -/

def aLoad (P : Program) (A : AS) (t : TypeId) : Value → Option Value
  | .pointer (some ⟨b, off, none⟩) => match pureRun P (isAgg t) with
    | some true => match pureRun P (sizeOf t) with
      | some n => (A.loadN b off n).map fun l => .agg ⟨l⟩
      | none => none
    | some false => A.load b off
    | none => none
  | _ => none

theorem snd_load (hr : Rel φ A w) {t : TypeId} {p p' v : Value} (hp : VRel φ p p') (h : aLoad P A t p = some v) : Snd (RV v) P φ A w (Instr.loadAt t p') A := by
  unfold aLoad at h
  split at h
  · rename_i b off
    cases hp with
    | ptr he =>
      unfold Instr.loadAt
      refine Snd.pre (a := (⟨_, _, none⟩ : Addr)) rfl ?_
      unfold loadVar
      cases hag : pureRun P (isAgg t) with
      | none => rw [hag] at h; cases h
      | some ag =>
        rw [hag] at h
        refine Snd.pre hag ?_
        cases ag with
        | false =>
          simp only at h
          obtain ⟨v', h1, h2⟩ := rel_load hr h he
          refine ⟨φ, w, v', ?_, h2, Step.refl hr⟩
          simp [Go.load, Sem.run, h1]
        | true =>
          simp only at h
          cases hsz : pureRun P (sizeOf t) with
          | none => rw [hsz] at h; cases h
          | some n =>
            rw [hsz] at h
            simp only at h
            obtain ⟨l, hl, rfl⟩ := Option.map_eq_some_iff.1 h
            simp only [if_true]
            refine Snd.pre hsz ?_
            refine Snd.map (snd_loadN hr hl he) fun φ a ⟨h1, h2⟩ => ?_
            exact .agg _ _ (by simp [h1]) fun i hi => by simpa using h2 i (by simpa using hi)
  · cases h

def aStore (P : Program) (A : AS) (t : TypeId) (v : Value) : Value → Option AS
  | .pointer (some ⟨b, off, none⟩) => match cellsOf v, pureRun P (sizeOf t) with
    | some l, some n => bif Nat.beq l.length n then A.storeN b off l else none
    | _, _ => none
  | _ => none

theorem snd_storeVar (hr : Rel φ A w) {t : TypeId} {b off : Nat} {e : Em} {v v' : Value} (he : φ b = some e) (hv : VRel φ v v') {l : List Value} {n : Nat} (hl : cellsOf v = some l) (hn : pureRun P (sizeOf t) = some n)
    (hln : l.length = n) (h : A.storeN b off l = some A') : Snd (fun _ _ => True) P φ A w (storeVar t ⟨e.blk, e.sh + off, none⟩ v') A' := by
  obtain ⟨c1, c2⟩ := hv.cells hl
  unfold storeVar
  refine Snd.pre hn ?_
  rw [if_neg (by omega)]
  obtain ⟨w', h1, h2⟩ := run_storeN P he l A A' w off 0 v'.cells.toList hr h (by simpa using c1.symm) (fun j hj => by
    have := c2 j hj
    simp only [Array.getD_eq_getD_getElem?] at this
    simpa [List.getD_eq_getElem?_getD] using this)
  refine ⟨φ, w', (), ?_, trivial, h2⟩
  simpa using h1

theorem snd_store (hr : Rel φ A w) {t : TypeId} {p p' v v' : Value} (hp : VRel φ p p') (hv : VRel φ v v') (h : aStore P A t v p = some A') : Snd (fun _ _ => True) P φ A w (Instr.storeAt t p' v') A' := by
  unfold aStore at h
  split at h
  · rename_i b off
    split at h
    · rename_i l n hl hn
      cases hb : Nat.beq l.length n with
      | false => rw [hb] at h; cases h
      | true =>
        rw [hb, cond_true] at h
        cases hp with
        | ptr he =>
          unfold Instr.storeAt
          refine Snd.pre (a := (⟨_, _, none⟩ : Addr)) rfl ?_
          exact snd_storeVar hr he hv hl hn (Nat.eq_of_beq_eq_true hb) h
    · cases h
  · cases h

def aBox (A : AS) (t : TypeId) (v : Value) : Option (Value × AS) :=
  match cellsOf v with
  | some l => match A.push (.cells l) 0 t with
    | some (r, A1) => some (.pointer (some ⟨r, 0, none⟩), A1)
    | none => none
  | none => none

theorem snd_box (hr : Rel φ A w) {t : TypeId} {v v' p : Value} (hv : VRel φ v v') (h : aBox A t v = some (p, A')) : Snd (RV p) P φ A w (do pure (.pointer (some (← newVar t v')))) A' := by
  unfold aBox at h
  cases hl : cellsOf v with
  | none => rw [hl] at h; cases h
  | some l =>
    rw [hl] at h
    simp only at h
    cases hp : A.push (.cells l) 0 t with
    | none => rw [hp] at h; cases h
    | some q =>
      obtain ⟨r, A1⟩ := q
      rw [hp] at h
      simp only [Option.some.injEq, Prod.mk.injEq] at h
      obtain ⟨rfl, rfl⟩ := h
      obtain ⟨c1, c2⟩ := hv.cells hl
      obtain ⟨φ', w', h1, h2, h3, _⟩ := run_newRow hr P t hp (Nat.le_of_eq c1) (fun _ => c1) c2
      refine ⟨φ', w', _, by rw [Sem.run_bind, newVar, h1]; rfl, ?_, h3⟩
      have := VRel.ptr (φ := φ') (b := r) (o := 0) h2
      simpa using this

def aAlloc (P : Program) (A : AS) (t : TypeId) : Option (Value × AS) :=
  match pureRun P (zeroValue t) with
  | some z => bif plain z then aBox A t z else none
  | none => none

theorem snd_alloc (hr : Rel φ A w) {t : TypeId} {p old : Value} (h : aAlloc P A t = some (p, A')) : Snd (RV p) P φ A w (Instr.alloc t true old) A' := by
  unfold aAlloc at h
  cases hz : pureRun P (zeroValue t) with
  | none => rw [hz] at h; cases h
  | some z =>
    rw [hz] at h
    simp only at h
    cases hp : plain z with
    | false => rw [hp] at h; cases h
    | true =>
      rw [hp, cond_true] at h
      unfold Instr.alloc
      refine Snd.pre hz ?_
      exact snd_box hr (VRel.of_plain φ z hp) h

/- ADDRESSES -/

def aField (P : Program) (s : TypeId) (f : Nat) : Value → Option Value
  | .pointer (some ⟨b, off, none⟩) => match pureRun P (underlying s) with
    | some (.struct fields) => match fields[f]? with
      | some fl => match pureRun P (sizeOf fl.type) with
        | some n => bif n == 0 then none else some (.pointer (some ⟨b, off + fl.offset, none⟩))
        | none => none
      | none => none
    | _ => none
  | _ => none

theorem snd_fieldAddr (hr : Rel φ A w) {s : TypeId} {f : Nat} {p p' v : Value} (hp : VRel φ p p') (h : aField P s f p = some v) : Snd (RV v) P φ A w (Instr.fieldAt s p' f) A := by
  unfold aField at h
  split at h
  · rename_i b off
    split at h
    · rename_i fields hu
      split at h
      · rename_i fl hf
        split at h
        · rename_i n hn
          cases h0 : (n == 0) with
          | true => rw [h0] at h; cases h
          | false =>
            rw [h0, cond_false, Option.some.injEq] at h
            subst h
            cases hp with
            | ptr he =>
              unfold Instr.fieldAt
              refine Snd.pre hu ?_
              simp only [hf]
              refine Snd.pre (a := (⟨_, _, none⟩ : Addr)) rfl ?_
              unfold fieldPlace
              rename_i e
              have hne : n ≠ 0 := by simpa using h0
              refine ⟨φ, w, .pointer (some ⟨e.blk, e.sh + (off + fl.offset), none⟩), ?_, .ptr he, Step.refl hr⟩
              simp only [Sem.run_bind, pureRun_run hn w, Result.andThen_ok, if_neg hne, Addr.add_at]
              rw [Nat.add_assoc]
              rfl
        · cases h
      · cases h
    · cases h
  · cases h

def aIndexAddr (P : Program) (t : TypeId) (x : Value) (i : Value) : Option Value :=
  match i with
  | .int _ i => match pureRun P (underlying t), x with
    | some (.array len elem), .pointer (some ⟨b, off, none⟩) => match pureRun P (sizeOf elem) with
      | some n => bif decide (0 ≤ i) && decide (i < (len : Int)) then some (.pointer (some ⟨b, off + i.toNat * n, none⟩)) else none
      | none => none
    | some (.slice elem), .slice (some ⟨b, off, none⟩) len _ => match pureRun P (sizeOf elem) with
      | some n => bif decide (0 ≤ i) && decide (i < (len : Int)) then some (.pointer (some ⟨b, off + i.toNat * n, none⟩)) else none
      | none => none
    | _, _ => none
  | _ => none

theorem snd_indexAddr (hr : Rel φ A w) {t : TypeId} {x x' i v : Value} (hx : VRel φ x x') (h : aIndexAddr P t x i = some v) : Snd (RV v) P φ A w (Instr.indexAt t x' i) A := by
  unfold aIndexAddr at h
  split at h
  · rename_i k i
    unfold Instr.indexAt
    refine Snd.pre (a := (k, i)) rfl ?_
    simp only
    split at h
    · rename_i len elem b off hu
      split at h
      · rename_i n hn
        cases hb : (decide (0 ≤ i) && decide (i < (len : Int))) with
        | false => rw [hb] at h; cases h
        | true =>
          rw [hb, cond_true, Option.some.injEq] at h
          subst h
          have hbd : 0 ≤ i ∧ i < (len : Int) := by simpa using hb
          cases hx with
          | ptr he =>
            rename_i e
            refine ⟨φ, w, .pointer (some ⟨e.blk, e.sh + (off + i.toNat * n), none⟩), ?_, .ptr he, Step.refl hr⟩
            simp only [Sem.run_bind, pureRun_run hu w, Result.andThen_ok, Instr.sureAddr]
            have e1 : ∀ a : Addr, (pure a : Sem Addr).run P w = .ok a w := fun _ => rfl
            simp [hbd, pureRun_run hn w, pureRun_run hu w, Addr.add_at, Nat.add_assoc, e1]
      · cases h
    · rename_i elem b off len cap hu
      split at h
      · rename_i n hn
        cases hb : (decide (0 ≤ i) && decide (i < (len : Int))) with
        | false => rw [hb] at h; cases h
        | true =>
          rw [hb, cond_true, Option.some.injEq] at h
          subst h
          have hbd : 0 ≤ i ∧ i < (len : Int) := by simpa using hb
          cases hx with
          | slx n' c' he =>
            rename_i e
            refine ⟨φ, w, .pointer (some ⟨e.blk, e.sh + (off + i.toNat * n), none⟩), ?_, .ptr he, Step.refl hr⟩
            simp [hbd, pureRun_run hn w, pureRun_run hu w, Addr.add_at, Nat.add_assoc]
          | slg n' c1 c2 he q1 q2 q3 =>
            rename_i e
            refine ⟨φ, w, .pointer (some ⟨e.blk, e.sh + (off + i.toNat * n), none⟩), ?_, .ptr he, Step.refl hr⟩
            simp [hbd, pureRun_run hn w, pureRun_run hu w, Addr.add_at, Nat.add_assoc]
          | slz => omega
      · cases h
    · cases h
  · cases h

end
end AE
end Go.Proofs.YtheaofepenbcgaaDoor

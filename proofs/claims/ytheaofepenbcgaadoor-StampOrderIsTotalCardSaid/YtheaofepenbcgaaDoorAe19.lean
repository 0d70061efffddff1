/- AE, part 19: objects that are no cells, rewritten; the marks of a frame; code. -/
import Derived.Test.YtheaofepenbcgaaDoorAe18
namespace Go.Proofs.YtheaofepenbcgaaDoor
open Go
namespace AE
variable [Sig]

/- OBJECTS THAT ARE NO CELLS -/

def AS.setOth (A : AS) (b : Nat) (x : AOth) : Option AS :=
  match A.bl.get b with
  | some k => match k.obj, A.mem.get k.fam with
    | .oth _, some [m] => bif Nat.beq m b && !k.ro then
        match Tr.set { k with obj := .oth x } depth A.bl b with
        | some t => some { A with bl := t, low := Nat.min A.low b }
        | none => none
      else none
    | _, _ => none
  | none => none

def AS.getLoop (A : AS) (b : Nat) : Option ALoop :=
  match A.bl.get b with
  | some k => match k.obj with
    | .oth (.loop lp) => some lp
    | _ => none
  | none => none

section
variable {P : Program} {φ : Emb} {A A' : AS} {w : World}

theorem step_setOth (hr : Rel φ A w) {b : Nat} {x : AOth} {e : Em} {o' : Obj} (he : φ b = some e) (h : A.setOth b x = some A') (ho : OthRel φ x o') : Step φ A w φ A' { w with heap := w.heap.setIfInBounds e.blk o' } := by
  unfold AS.setOth at h
  split at h
  · rename_i k hk
    split at h
    · rename_i x0 m hobj hmem
      cases hc : (Nat.beq m b && !k.ro) with
      | false => rw [hc] at h; cases h
      | true =>
        rw [hc, cond_true] at h
        simp only [Bool.and_eq_true, Bool.not_eq_true'] at hc
        have hmb : m = b := Nat.eq_of_beq_eq_true hc.1
        subst hmb
        have hro := hc.2
        split at h
        · rename_i t ht
          cases h
          have hget := fun j => Tr.get_set _ _ _ _ _ j ht
          obtain ⟨k0, hk0, hst, hor⟩ := hr.dom m e he
          rw [hk] at hk0
          cases hk0
          have hlt := hor.lt
          have halone : ∀ j kj, A.bl.get j = some kj → kj.fam = k.fam → j = m := by
            intro j kj hj hf
            obtain ⟨l, q1, q2⟩ := hr.wf.mem j kj hj
            rw [hf, hmem] at q1
            cases q1
            simpa using q2
          have hne : ∀ j ej, j ≠ m → φ j = some ej → ej.blk ≠ e.blk := by
            intro j ej hj hφ
            obtain ⟨kj, hkj, _, _⟩ := hr.dom j ej hφ
            exact hr.apart j ej kj m e k hφ he hkj hk fun hf => hj (halone j kj hkj hf)
          have hwo : ∀ i, i ≠ e.blk → (w.heap.setIfInBounds e.blk o')[i]? = w.heap[i]? := fun i hi => by
            rw [Array.getElem?_setIfInBounds_ne (Ne.symm hi)]
          have hnew : ∀ j kj', t.get j = some kj' → ∃ kj, A.bl.get j = some kj ∧ kj'.fam = kj.fam ∧ kj'.pos = kj.pos ∧ kj'.ro = kj.ro := by
            intro j kj' hj
            rw [hget] at hj
            by_cases hjm : j = m
            · rw [if_pos hjm] at hj
              cases hj
              subst hjm
              exact ⟨k, hk, rfl, rfl, rfl⟩
            · rw [if_neg hjm] at hj
              exact ⟨kj', hj, rfl, rfl, rfl⟩
          refine { rel := ⟨⟨?_, ?_, ?_, ?_⟩, ?_, ?_, ?_, fun i o hi => ⟨by rw [hwo i (Ne.symm ((hr.imm i o hi).2 _ _ he))]; exact (hr.imm i o hi).1, (hr.imm i o hi).2⟩⟩, dom := fun _ _ => rfl, newm := fun b h1 h2 => absurd h2 (by show ¬ b < A.n; omega), new := fun b e h1 h2 => absurd (hr.lt h2) (by omega), n_le := Nat.le_refl _, low := Nat.min_le_left _ _, same := ?_, ro := ?_, keep := ?_, hsize := by simp, os := rfl, tape := rfl, output := rfl }
          · intro j kj' hj
            obtain ⟨kj, q1, _⟩ := hnew j kj' hj
            exact hr.wf.lt j kj q1
          · intro j kj' hj
            obtain ⟨kj, q1, q2, _⟩ := hnew j kj' hj
            rw [q2]; exact hr.wf.famlt j kj q1
          · intro j kj' hj
            obtain ⟨kj, q1, q2, _⟩ := hnew j kj' hj
            rw [q2]; exact hr.wf.mem j kj q1
          · intro j kj1 j' kj1' hj hj' hf
            obtain ⟨kj, q1, q2, _, q3⟩ := hnew j kj1 hj
            obtain ⟨kj', q1', q2', _, q3'⟩ := hnew j' kj1' hj'
            rw [q3, q3']
            exact hr.wf.rofam j kj j' kj' q1 q1' (by rw [← q2, ← q2']; exact hf)
          · intro j ej hj
            by_cases hjm : j = m
            · subst hjm
              rw [he] at hj
              cases hj
              refine ⟨{ k with obj := .oth x }, by rw [hget, if_pos rfl], hst, ?_⟩
              unfold ORel at hor
              simp only [hobj] at hor
              simp only [ORel]
              exact ⟨hor.1, o', by rw [Array.getElem?_setIfInBounds_self_of_lt hlt], ho⟩
            · obtain ⟨kj, hkj, hsj, hoj⟩ := hr.dom j ej hj
              exact ⟨kj, by rw [hget, if_neg hjm]; exact hkj, hsj, hoj.mono (fun _ _ h => h) (hwo _ (hne j ej hjm hj))⟩
          · intro j ej kj1 j' ej' kj1' q1 q2 hj hj' hnf
            obtain ⟨kj, r1, r2, _⟩ := hnew j kj1 hj
            obtain ⟨kj', r1', r2', _⟩ := hnew j' kj1' hj'
            exact hr.apart j ej kj j' ej' kj' q1 q2 r1 r1' (by rw [← r2, ← r2']; exact hnf)
          · intro j ej kj1 j' ej' kj1' q1 q2 hj hj' hf hb
            obtain ⟨kj, r1, r2, r3, _⟩ := hnew j kj1 hj
            obtain ⟨kj', r1', r2', r3', _⟩ := hnew j' kj1' hj'
            rw [r3, r3']
            exact hr.along j ej kj j' ej' kj' q1 q2 r1 r1' (by rw [← r2, ← r2']; exact hf) hb
          · intro j hj hjl
            show t.get j = _
            rw [hget, if_neg]
            intro hjm
            subst hjm
            exact absurd (Nat.lt_of_lt_of_le hjl (Nat.min_le_right A.low j)) (Nat.lt_irrefl j)
          · intro j kj hkj hrj
            show t.get j = _
            rw [hget, if_neg]
            · exact hkj
            · intro hjm
              subst hjm
              rw [hk] at hkj
              cases hkj
              rw [hro] at hrj
              cases hrj
          · intro i hi hall
            refine hwo i fun hie => ?_
            have := hall m e k he hie.symm hk
            rw [hro] at this
            cases this
        · cases h
    · cases h
  · cases h

theorem rel_getLoop (hr : Rel φ A w) {b : Nat} {lp : ALoop} {e : Em} (h : A.getLoop b = some lp) (he : φ b = some e) : ∃ r, w.heap[e.blk]? = some (.loop r) ∧ OthRel φ (.loop lp) (.loop r) ∧ (Instr.getLoop e.blk).run P w = .ok r w ∧
    ∀ r', (setObj e.blk (.loop r')).run P w = .ok () { w with heap := w.heap.setIfInBounds e.blk (.loop r') } := by
  unfold AS.getLoop at h
  split at h
  · rename_i k hk
    split at h
    · rename_i lp' hobj
      cases h
      obtain ⟨k', hk', _, ho⟩ := hr.dom b e he
      rw [hk] at hk'
      cases hk'
      unfold ORel at ho
      simp only [hobj] at ho
      obtain ⟨_, o', h1, h2⟩ := ho
      obtain ⟨r, rfl, _⟩ := id h2
      refine ⟨r, h1, h2, ?_, fun r' => ?_⟩
      · unfold Instr.getLoop
        exact run_then (a := .loop r) (w1 := w) (run_getObj h1 (fun _ _ _ h => by cases h)) rfl
      · simp only [setObj, Sem.run, h1]
    · cases h
  · cases h

/- MARKS -/

/-- The marks of a frame: of the blocks for the deferred calls of rounds. -/
inductive MRel (φ : Emb) : List Nat → List Deferred → Prop where
  | nil : MRel φ [] []
  | cons {b : Nat} {e : Em} {ms : List Nat} {ds : List Deferred} (h : φ b = some e) (hm : MRel φ ms ds) : MRel φ (b :: ms) ({ target := .collected e.blk, args := #[] } :: ds)

omit [Sig] in
theorem MRel.mono {φ φ' : Emb} {ms : List Nat} {ds : List Deferred} (hφ : ∀ b e, φ b = some e → φ' b = some e) (h : MRel φ ms ds) : MRel φ' ms ds := by
  induction h with
  | nil => exact .nil
  | cons h _ ih => exact .cons (hφ _ _ h) ih

def aleave (A : AS) : List Nat → Option AS
  | [] => some A
  | b :: r => match A.bl.get b with
    | some k => match k.obj with
      | .oth .deferred => match A.setOth b .gone with
        | some A1 => aleave A1 r
        | none => none
      | _ => none
    | none => none

theorem leaves_aleave {fn : Func} {tmps : Array Value} {R : Ending → World → Prop} : ∀ (ms : List Nat) (ds : List Deferred) (A A' : AS) (w : World), Rel φ A w → MRel φ ms ds → aleave A ms = some A' →
    (∀ w', Step φ A w φ A' w' → LeavesInM (Fr none) 0 P fn tmps R [] .returning w') → LeavesInM (Fr none) 0 P fn tmps R ds .returning w
  | [], ds, A, A', w, hr, hm, h, hQ => by
    cases hm
    cases h
    exact hQ w (Step.refl hr)
  | b :: ms, ds, A, A', w, hr, hm, h, hQ => by
    cases hm with
    | cons he hm =>
      rename_i e ds
      unfold aleave at h
      split at h
      · rename_i k hk
        split at h
        · rename_i hobj
          split at h
          · rename_i A1 hs
            obtain ⟨k', hk', _, ho⟩ := hr.dom b e he
            rw [hk] at hk'
            cases hk'
            unfold ORel at ho
            simp only [hobj] at ho
            obtain ⟨_, o', h1, h2⟩ := ho
            cases h2
            have hst := step_setOth (o' := .deferred none) hr he hs rfl
            refine ⟨by simp, .inl ⟨e.blk, _, rfl, ?_, leaves_aleave ms ds A1 A' _ hst.rel (hm.mono (hst.ext hr)) h fun w' hw => hQ w' (Step.trans hr hst hw)⟩⟩
            unfold Instr.takeDeferred
            refine run_then (a := .deferred (some [])) (w1 := w) (run_getObj h1 (fun _ _ _ h => by cases h)) ?_
            exact run_then (a := ()) (by simp only [setObj, Sem.run, h1]) rfl
          · cases h
        · cases h
      · cases h

/- CODE -/

inductive AX where
  | normal
  | exit (id : Nat)
  | goto (l : Nat)
  | ret

def AX.exit' : AX → Exit
  | .normal => .normal
  | .exit id => .exit id
  | .goto l => .goto l
  | .ret => .ret

structure ASt where
  sl : Sl
  ms : List Nat
  A : AS

def XPost (φ : Emb) (A : AS) (w : World) (N : Nat) (x : AX) (s : ASt) (e : Exit) (a' : Act) (w' : World) : Prop :=
  e = x.exit' ∧ ∃ φ' ds, MRel φ' s.ms ds ∧ SR N ds φ' s.sl a' ∧ Step φ A w φ' s.A w'

theorem XPost.trans {φ φ1 : Emb} {A A1 : AS} {w w1 : World} {N : Nat} {x : AX} {s : ASt} {e : Exit} {a2 : Act} {w2 : World} (hr : Rel φ A w) (h1 : Step φ A w φ1 A1 w1) (h2 : XPost φ1 A1 w1 N x s e a2 w2) : XPost φ A w N x s e a2 w2 := by
  obtain ⟨h, φ2, ds, q0, q1, q2⟩ := h2
  exact ⟨h, φ2, ds, q0, q1, Step.trans hr h1 q2⟩

end

def aloop (f : ASt → Option (AX × ASt)) : Nat → ASt → Option (AX × ASt)
  | 0, _ => none
  | n + 1, s => match f s with
    | some (x, s1) => match x with
      | .normal => aloop f n s1
      | .exit id => some (.exit id, s1)
      | .goto l => some (.goto l, s1)
      | .ret => some (.ret, s1)
    | none => none

def jumpX : Option Code → Option AX
  | none => some .normal
  | some .ret => some .ret
  | some (.exit id) => some (.exit id)
  | some (.goto l) => some (.goto l)
  | _ => none

def isBusy : LoopState → Bool
  | .busy => true
  | _ => false

def arange (P : Program) [Lib P] [Facts P] (C : ACalls) (gl : Tr Nat) (N : Nat) (g : Operand) (ps : Array Tmp) (as_ body : Code) (s : ASt) : Option (AX × ASt) :=
  match evs gl s.sl g with
  | .func (.func f) ⟨first⟩ ⟨capt⟩ => bif enters P f then
      match s.A.push (.oth .deferred) 0 0 with
      | some (d, A1) => match A1.push (.oth (.loop { state := .ready, pending := none, sl := s.sl, N, params := ps.toList, assign := as_, body, dfr := d })) 0 0 with
        | some (l, A2) => match C.call f (first ++ [.func (.yield l) ⟨[]⟩ ⟨[]⟩] ++ capt) A2 with
          | some (_, A3) => match A3.getLoop l with
            | some lp => bif isBusy lp.state then none else
              match A3.setOth l (.loop { lp with state := .exhausted }), jumpX lp.pending with
              | some A4, some x => some (x, { sl := s.sl, ms := d :: s.ms, A := A4 })
              | _, _ => none
            | none => none
          | none => none
        | none => none
      | none => none
    else none
  | _ => none

def acode (P : Program) [Lib P] [Facts P] (C : ACalls) (gl : Tr Nat) (N : Nat) (rnd : Bool) (fuel : Nat) : Code → ASt → Option (AX × ASt)
  | .skip, s => some (.normal, s)
  | .label _, s => some (.normal, s)
  | .exit id, s => some (.exit id, s)
  | .goto l, s => some (.goto l, s)
  | .ret, s => some (.ret, s)
  | .region _ ops d, s => match (bif d then adraw P C gl N rnd ops s.sl s.A else aregion P C gl N ops ops.toList s.sl s.A) with
    | some (sl1, A1) => some (.normal, { sl := sl1, ms := s.ms, A := A1 })
    | none => none
  | .seq x y, s => match acode P C gl N rnd fuel x s with
    | some (x, s1) => match x with
      | .normal => acode P C gl N rnd fuel y s1
      | .exit id => some (.exit id, s1)
      | .goto l => some (.goto l, s1)
      | .ret => some (.ret, s1)
    | none => none
  | .cond c x y, s => match evs gl s.sl c with
    | .bool t => bif t then acode P C gl N rnd fuel x s else acode P C gl N rnd fuel y s
    | _ => none
  | .block id x, s => match acode P C gl N rnd fuel x s with
    | some (x, s1) => match x with
      | .normal => some (.normal, s1)
      | .exit id' => bif Nat.beq id' id then some (.normal, s1) else some (.exit id', s1)
      | .goto l => some (.goto l, s1)
      | .ret => some (.ret, s1)
    | none => none
  | .loop x, s => aloop (acode P C gl N rnd fuel x) fuel s
  | .scope _, _ => none
  | .rangeFunc g ps as_ body, s => bif rnd then none else arange P C gl N g ps as_ body s
  | .refuse _, _ => none

def CodeOk (P : Program) (gl : Tr Nat) (N : Nat) (ro : Option Nat) (c : Code) (f : ASt → Option (AX × ASt)) : Prop :=
  ∀ (s : ASt) (x : AX) (s' : ASt) (φ : Emb) (w : World) (a : Act) (ds : List Deferred), f s = some (x, s') → Rel φ s.A w → GRel gl φ → MRel φ s.ms ds → SR N ds φ s.sl a → c.wpIn (Fr ro) 0 P (XPost φ s.A w N x s') a w

section
variable {P : Program} {gl : Tr Nat} {N : Nat} {ro : Option Nat}

theorem wp_aloop {c : Code} {f : ASt → Option (AX × ASt)} (hf : CodeOk P gl N ro c f) : ∀ (n : Nat) (s : ASt) (x : AX) (s' : ASt) (φ : Emb) (w : World) (a : Act) (ds : List Deferred), aloop f n s = some (x, s') → Rel φ s.A w → GRel gl φ → MRel φ s.ms ds → SR N ds φ s.sl a →
    ∀ (Q : Exit → Act → World → Prop), (∀ e a' w', XPost φ s.A w N x s' e a' w' → Q e a' w') → Code.roundsIn (Fr ro) 0 P c Q n a w
  | 0, s, x, s', φ, w, a, ds, h, hr, hg, hm, hs, Q, hQ => by cases h
  | n + 1, s, x, s', φ, w, a, ds, h, hr, hg, hm, hs, Q, hQ => by
    unfold aloop at h
    show c.wpIn (Fr ro) 0 P (Exit.then (Code.roundsIn (Fr ro) 0 P c Q n) Q) a w
    split at h
    · rename_i x1 s1 h1
      refine wpIn_mono (hf s x1 s1 φ w a ds h1 hr hg hm hs) fun e a1 w1 hx => ?_
      cases x1 with
      | normal =>
        obtain ⟨rfl, φ1, ds1, q0, q1, q2⟩ := hx
        exact wp_aloop hf n s1 x s' φ1 w1 a1 ds1 h q2.rel (hg.mono (q2.ext hr)) q0 q1 Q fun e a' w' hp => hQ e a' w' (XPost.trans hr q2 hp)
      | exit xid => cases h; obtain ⟨rfl, _⟩ := id hx; exact hQ _ _ _ hx
      | goto l => cases h; obtain ⟨rfl, _⟩ := id hx; exact hQ _ _ _ hx
      | ret => cases h; obtain ⟨rfl, _⟩ := id hx; exact hQ _ _ _ hx
    · cases h

end
end AE
end Go.Proofs.YtheaofepenbcgaaDoor

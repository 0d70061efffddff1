/- AE, part 15: slots, and an operation of a region with its call. -/
import Derived.Test.YtheaofepenbcgaaDoorAeF
import Derived.CallsIn
import Derived.OrdersIn
import Derived.RangeFuncIn
import Derived.RangeFuncCalls
import Derived.RangeFuncLeaves
import Derived.TacticsIn
namespace Go.Proofs.YtheaofepenbcgaaDoor
open Go
namespace AE
variable [Sig]

abbrev Sl := Tr Value
abbrev ACall := FuncId → List Value → AS → Option (Value × AS)

def slot (sl : Sl) (t : Nat) : Value :=
  match sl.get t with
  | some v => v
  | none => poison

/-- What an operand is. gl: the abstract blocks of the known variables. -/
def evs (gl : Tr Nat) (sl : Sl) : Operand → Value
  | .tmp t => slot sl t
  | .const v => bif plain v then v else poison
  | .global g => match gl.get g with
    | some b => .pointer (some ⟨b, 0, none⟩)
    | none => poison
  | .func f => .func (.func f) ⟨[]⟩ ⟨[]⟩

def GRel (gl : Tr Nat) (φ : Emb) : Prop := ∀ g b, gl.get g = some b → ∃ e, φ b = some e ∧ e.blk = g ∧ e.sh = 0

structure SR (N : Nat) (ds : List Deferred) (φ : Emb) (sl : Sl) (a : Act) : Prop where
  size : a.tmps.size = N
  defers : a.defers = ds
  get : ∀ t v, sl.get t = some v → VRel φ v (a.tmps.getD t undef)

theorem SR.mono {N : Nat} {ds : List Deferred} {φ φ' : Emb} {sl : Sl} {a : Act} (h : SR N ds φ sl a) (he : ∀ b e, φ b = some e → φ' b = some e) : SR N ds φ' sl a :=
  ⟨h.size, h.defers, fun t v hv => (h.get t v hv).mono he⟩

omit [Sig] in
theorem GRel.mono {gl : Tr Nat} {φ φ' : Emb} (h : GRel gl φ) (he : ∀ b e, φ b = some e → φ' b = some e) : GRel gl φ' := fun g b hg => by
  obtain ⟨e, h1, h2⟩ := h g b hg
  exact ⟨e, he _ _ h1, h2⟩

theorem slot_rel {φ : Emb} {sl : Sl} {v' : Value} {t : Nat} (h : ∀ v, sl.get t = some v → VRel φ v v') : VRel φ (slot sl t) v' := by
  unfold slot
  cases hg : sl.get t with
  | none => exact .poison _
  | some v => exact h v hg

theorem evs_rel {gl : Tr Nat} {φ : Emb} {sl : Sl} {a : Act} (hg : GRel gl φ) (hs : ∀ t v, sl.get t = some v → VRel φ v (a.tmps.getD t undef)) (x : Operand) : VRel φ (evs gl sl x) (a.eval x) := by
  cases x with
  | tmp t => exact slot_rel (hs t)
  | const v =>
    simp only [evs]
    cases hp : plain v with
    | true => exact VRel.of_plain φ v hp
    | false => exact .poison _
  | global g =>
    simp only [evs]
    cases hb : gl.get g with
    | none => exact .poison _
    | some b =>
      obtain ⟨e, h1, h2, h3⟩ := hg g b hb
      have := VRel.ptr (o := 0) h1
      rw [h2, h3] at this
      exact this
  | func f => exact .func _ _ _ _ (fun l h => by cases h) rfl rfl (fun i h => absurd h (by simp)) (fun i h => absurd h (by simp))

def aput (N : Nat) (sl : Sl) (dst : Option Tmp) (v : Value) : Option Sl :=
  match dst with
  | none => some sl
  | some d => bif Nat.blt d N then Tr.set v depth sl d else none

theorem SR.put {N : Nat} {ds : List Deferred} {φ : Emb} {sl sl' : Sl} {a : Act} {dst : Option Tmp} {v v' : Value} (h : SR N ds φ sl a) (hv : VRel φ v v') (hp : aput N sl dst v = some sl') : SR N ds φ sl' (a.put dst v') := by
  unfold aput at hp
  cases dst with
  | none => cases hp; exact h
  | some d =>
    simp only at hp
    cases hb : Nat.blt d N with
    | false => rw [hb] at hp; cases hp
    | true =>
      rw [hb, cond_true] at hp
      have hlt : d < N := Nat.blt_eq.mp hb
      refine ⟨by simp [Act.put, h.size], h.defers, fun t u hu => ?_⟩
      rw [Tr.get_set _ _ _ _ _ t hp] at hu
      have hsz := h.size
      by_cases ht : t = d
      · subst ht
        rw [if_pos rfl] at hu
        cases hu
        simp only [Act.put, Array.getD_eq_getD_getElem?]
        rw [Array.getElem?_setIfInBounds_self_of_lt (Nat.lt_of_lt_of_eq hlt hsz.symm)]
        exact hv
      · rw [if_neg ht] at hu
        have := h.get t u hu
        simp only [Act.put, Array.getD_eq_getD_getElem?] at this ⊢
        rw [Array.getElem?_setIfInBounds_ne (Ne.symm ht)]
        exact this

def aWanted (ops : Array Oper) (o : Oper) (sl : Sl) : Option Bool :=
  match o.guard with
  | none => some true
  | some (j, want) => match (ops[j]?).bind (·.dst) with
    | none => some false
    | some t => match sl.get t with
      | some (.bool b) => some (b == want)
      | some (.tuple ⟨[]⟩) => some false
      | _ => none

theorem wanted_spec {φ : Emb} {ops : Array Oper} {o : Oper} {sl : Sl} {a : Act} {r : Bool} (hs : ∀ t v, sl.get t = some v → VRel φ v (a.tmps.getD t undef)) (h : aWanted ops o sl = some r) : Region.wanted o (yielded ops a.tmps) = r := by
  unfold aWanted at h
  unfold Region.wanted
  split at h
  · rename_i hg
    cases h
    rw [hg]
  · rename_i j want hg
    rw [hg]
    simp only
    unfold yielded
    split at h
    · rename_i hd
      cases h
      rw [hd]
      simp
    · rename_i t hd
      rw [hd]
      simp only [Option.bind_some]
      split at h
      · rename_i b hb
        have hv := hs t _ hb
        cases h
        rw [Array.getD_eq_getD_getElem?] at hv
        cases ht : a.tmps[t]? with
        | none => rw [ht] at hv; simp [undef] at hv; cases hv
        | some u =>
          rw [ht] at hv
          simp only [Option.getD_some] at hv
          cases hv
          cases b <;> cases want <;> rfl
      · rename_i hb
        have hv := hs t _ hb
        cases h
        rw [Array.getD_eq_getD_getElem?] at hv
        cases ht : a.tmps[t]? with
        | none => simp
        | some u =>
          rw [ht] at hv
          simp only [Option.getD_some] at hv
          cases hv
          simp
      · cases h

/-- What a call, and a round of a loop over a function, is evaluated by. -/
structure ACalls where
  call : ACall
  round : Nat → List Value → AS → Option (Value × AS)

def CPost (φ : Emb) (A : AS) (w : World) (v : Value) (A' : AS) : Ending → World → Prop
  | .returned v', w' => ∃ φ', VRel φ' v v' ∧ Step φ A w φ' A' w'
  | _, _ => False

/-- The fence of the evaluator: none; in a round or not. -/
def Fr (r : Option Nat) : Fence := { Fence.wide with round := r }

omit [Sig] in
theorem callsIn_fr {r : Option Nat} {n : Nat} {P : Program} {f : FuncId} {args : Array Value} {w : World} {R : Ending → World → Prop} (h : Calls P f args w R) : CallsIn (Fr r) n P f args w R := by
  have h' : CallsIn Fence.wide n P f args w R := callsIn_wide.2 h
  exact h'

structure CallOk (P : Program) [Facts P] (gl : Tr Nat) (C : ACalls) : Prop where
  facts : FactsOk P
  call : ∀ (f : FuncId) (args : List Value) (A : AS) (v : Value) (A' : AS) (φ : Emb) (w : World) (args' : Array Value), C.call f args A = some (v, A') → Rel φ A w → GRel gl φ → RL args φ args' →
    Calls P f args' w (CPost φ A w v A')
  round : ∀ (b : Nat) (args : List Value) (A : AS) (v : Value) (A' : AS) (φ : Emb) (w : World) (args' : Array Value) (e : Em) (k : ABlk) (lp : ALoop) (r : Loop), C.round b args A = some (v, A') → Rel φ A w → GRel gl φ → RL args φ args' →
    φ b = some e → A.bl.get b = some k → k.obj = .oth (.loop lp) → w.heap[e.blk]? = some (.loop r) → OthRel φ (.loop lp) (.loop r) → args'.size = r.params.size ∧
    RoundIn Fence.wide 0 P e.blk r.fn ((r.params.zip args').foldl (fun tmps (t, a) => tmps.setIfInBounds t a) r.tmps) r.assign r.body w (CPost φ A w v A')

/-- A call of a loop's own function. -/
def yieldOf (ev : Operand → Value) (o : Oper) : Option (Nat × List Value) :=
  match o.op with
  | .call c => match c.callee with
    | .value f => match ev f with
      | .func (.yield b) ⟨[]⟩ ⟨[]⟩ => some (b, c.args.toList.map ev)
      | _ => none
    | _ => none
  | _ => none

def isLoop (A : AS) (b : Nat) : Bool :=
  match A.bl.get b with
  | some k => match k.obj with
    | .oth (.loop _) => true
    | _ => false
  | none => false

/-- The value of an operation, before it is put. -/
def aval (P : Program) [Lib P] [Facts P] (C : ACalls) (gl : Tr Nat) (ops : Array Oper) (o : Oper) (sl : Sl) (A : AS) : Option (Value × AS) :=
  match aWanted ops o sl with
  | none => none
  | some false => some (undef, A)
  | some true => match yieldOf (evs gl sl) o with
    | some (b, args) => bif isLoop A b then C.round b args A else none
    | none => match aopF P (evs gl sl) A o with
      | some (.value v, A1) => some (v, A1)
      | some (.skip, A1) => some (undef, A1)
      | some (.enter f args, A1) => C.call f args A1
      | none => none

/-- One operation of a region, with its call. -/
def astep (P : Program) [Lib P] [Facts P] (C : ACalls) (gl : Tr Nat) (N : Nat) (ops : Array Oper) (o : Oper) (sl : Sl) (A : AS) : Option (Sl × AS) :=
  match aval P C gl ops o sl A with
  | some (v, A1) => match aput N sl o.dst v with
    | some sl1 => some (sl1, A1)
    | none => none
  | none => none

omit [Sig] in
theorem astep_aval {P : Program} [Lib P] [Facts P] {C : ACalls} {gl : Tr Nat} {N : Nat} {ops : Array Oper} {o : Oper} {sl sl' : Sl} {A A' : AS} (h : astep P C gl N ops o sl A = some (sl', A')) :
    ∃ v, aval P C gl ops o sl A = some (v, A') ∧ aput N sl o.dst v = some sl' := by
  unfold astep at h
  split at h
  · rename_i v A1 hv
    split at h
    · rename_i sl1 hp
      cases h
      exact ⟨v, hv, hp⟩
    · cases h
  · cases h

section
variable {P : Program} [Lib P] [Facts P] {C : ACalls} {gl : Tr Nat} {φ : Emb} {A A' : AS} {w : World} {a : Act}

omit [Sig] in
theorem aop_no_defer {ρ : Operand → Value} {o : Oper} {r : ANext × AS} (h : aopF P ρ A o = some r) (c : Call) : o.op ≠ .defer c := by
  intro hc
  unfold aopF at h
  split at h
  · rename_i v hv
    unfold factOf at hv
    split at hv
    · cases hv
    · unfold fop at hv
      rw [hc] at hv
      cases hv
  · unfold aop at h
    rw [hc] at h
    cases h

omit [Sig] in
omit [Lib P] [Facts P] in
theorem yield_no_defer {ρ : Operand → Value} {o : Oper} {r : Nat × List Value} (h : yieldOf ρ o = some r) (c : Call) : o.op ≠ .defer c := by
  intro hc
  unfold yieldOf at h
  rw [hc] at h
  cases h

omit [Lib P] [Facts P] in
theorem run_yield (hr : Rel φ A w) {ρ ρ' : Operand → Value} {o : Oper} {b : Nat} {args : List Value} (hρ : ∀ x, VRel φ (ρ x) (ρ' x)) (h : yieldOf ρ o = some (b, args)) (hl : isLoop A b = true) :
    ∃ e k lp r args', φ b = some e ∧ A.bl.get b = some k ∧ k.obj = .oth (.loop lp) ∧ w.heap[e.blk]? = some (.loop r) ∧ OthRel φ (.loop lp) (.loop r) ∧ RL args φ args' ∧
      (args'.size = r.params.size → (execOp ρ' o).run P w = .ok (.round e.blk r.fn ((r.params.zip args').foldl (fun tmps (t, a) => tmps.setIfInBounds t a) r.tmps) r.assign r.body) w) := by
  unfold yieldOf at h
  split at h
  · rename_i c hop
    split at h
    · rename_i f hcal
      split at h
      · rename_i b' hf
        simp only [Option.some.injEq, Prod.mk.injEq] at h
        obtain ⟨rfl, rfl⟩ := h
        have hv := hρ f
        rw [hf] at hv
        have hmain : ∃ e, φ b' = some e ∧ ρ' f = .func (.yield e.blk) #[] #[] := by
          generalize ρ' f = u at hv
          cases hv with
          | yld h => exact ⟨_, h, rfl⟩
          | func _ _ _ _ hn => exact absurd rfl (hn _)
        obtain ⟨e, he, hf'⟩ := hmain
        unfold isLoop at hl
        split at hl
        · rename_i k hk
          split at hl
          · rename_i lp hobj
            obtain ⟨k', hk', _, ho⟩ := hr.dom b' e he
            rw [hk] at hk'
            cases hk'
            unfold ORel at ho
            simp only [hobj] at ho
            obtain ⟨_, o', h1, h2⟩ := ho
            obtain ⟨r, rfl, hrest⟩ := id h2
            refine ⟨e, k, lp, r, c.args.map ρ', he, hk, hobj, h1, h2, RL.map fun x _ => hρ x, fun hsz => ?_⟩
            unfold execOp
            rw [hop]
            simp only
            refine run_pre (a := { target := .fn (.yield e.blk) #[], args := #[] ++ c.args.map ρ' }) (by unfold resolve; rw [hcal]; simp only [hf']; rfl) ?_
            simp only [Array.empty_append]
            show (Instr.yield e.blk (c.args.map ρ')).run P w = _
            unfold Instr.yield Instr.getLoop
            refine run_then (a := r) (w1 := w) (by
              refine run_then (a := .loop r) (w1 := w) (run_getObj h1 (fun _ _ _ h => by cases h)) rfl) ?_
            rw [if_neg (fun hne => hne hsz)]
            rfl
          · cases hl
        · cases hl
      · cases h
    · cases h
  · cases h

/-- An operation that is wanted or not, by its value. -/
theorem wp_aval (hcall : CallOk P gl C) (hr : Rel φ A w) (hg : GRel gl φ) {ro : Option Nat} {ops : Array Oper} {o : Oper} {sl : Sl} {v : Value} (hs : ∀ t v, sl.get t = some v → VRel φ v (a.tmps.getD t undef)) (h : aval P C gl ops o sl A = some (v, A'))
    {K : Act → World → Prop} {Q : Exit → Act → World → Prop} (hK : ∀ φ' v' w', VRel φ' v v' → Step φ A w φ' A' w' → K (a.put o.dst v') w') :
    if Region.wanted o (yielded ops a.tmps) then o.wpIn (Fr ro) 0 P a w K Q else (∀ f, o.about P w a.eval = some f → (Fr ro).fn f) ∧ K (a.put o.dst undef) w := by
  unfold aval at h
  split at h
  · cases h
  · rename_i hw
    rw [wanted_spec hs hw]
    cases h
    exact ⟨fun _ _ => trivial, hK φ undef w (VRel.undef_refl φ) (Step.refl hr)⟩
  · rename_i hw
    rw [wanted_spec hs hw, if_pos rfl]
    refine ⟨fun _ _ => trivial, ?_⟩
    split at h
    · rename_i b args hy
      cases hl : isLoop A b with
      | false => rw [hl] at h; cases h
      | true =>
        rw [hl, cond_true] at h
        obtain ⟨e, k, lp, r, args', he, hk, hobj, hheap, hoth, hargs, hrun⟩ := run_yield (P := P) hr (evs_rel hg hs) hy hl
        obtain ⟨hsz, hround⟩ := hcall.round b args A v A' φ w args' e k lp r h hr hg hargs he hk hobj hheap hoth
        rw [Oper.semAt_eq _ _ _ (yield_no_defer hy), hrun hsz, Oper.uponIn_round]
        refine ⟨fun h => absurd h (by simp [Fr, Fence.wide]), ?_⟩
        have hround' : RoundIn (Fr ro) (0 - 1) P e.blk r.fn ((r.params.zip args').foldl (fun tmps (t, a) => tmps.setIfInBounds t a) r.tmps) r.assign r.body w (CPost φ A w v A') := hround
        refine RoundIn.mono hround' fun en w2 hen => ?_
        cases en with
        | returned v' =>
          obtain ⟨φ2, h1, h2⟩ := hen
          exact hK φ2 v' w2 h1 h2
        | panicked ch => exact hen.elim
        | outgrown => exact hen.elim
    · split at h
      · rename_i v1 A1 ha
        cases h
        obtain ⟨φ1, w1, n, g1, g2, g3⟩ := snd_aopF hcall.facts hr (evs_rel hg hs) ha
        rw [Oper.semAt_eq _ _ _ (aop_no_defer ha), g1]
        obtain ⟨v', rfl, hv⟩ := g2
        exact hK φ1 v' w1 hv g3
      · rename_i A1 ha
        cases h
        obtain ⟨φ1, w1, n, g1, g2, g3⟩ := snd_aopF hcall.facts hr (evs_rel hg hs) ha
        rw [Oper.semAt_eq _ _ _ (aop_no_defer ha), g1]
        cases g2
        exact hK φ1 undef w1 (VRel.undef_refl φ1) g3
      · rename_i f args A1 ha
        obtain ⟨φ1, w1, n, g1, g2, g3⟩ := snd_aopF hcall.facts hr (evs_rel hg hs) ha
        rw [Oper.semAt_eq _ _ _ (aop_no_defer ha), g1]
        obtain ⟨args', rfl, hargs⟩ := g2
        rw [Oper.uponIn_enter]
        refine ⟨fun h => absurd h (by simp [Fr, Fence.wide]), ?_⟩
        refine CallsIn.mono (callsIn_fr (hcall.call f args A1 v A' φ1 w1 args' h g3.rel (hg.mono (g3.ext hr)) hargs)) fun e w2 he => ?_
        cases e with
        | returned v' =>
          obtain ⟨φ2, h1, h2⟩ := he
          exact hK φ2 v' w2 h1 (Step.trans hr g3 h2)
        | panicked ch => exact he.elim
        | outgrown => exact he.elim
      · cases h

/- A REGION IN ITS ORDER -/

def aregion (P : Program) [Lib P] [Facts P] (C : ACalls) (gl : Tr Nat) (N : Nat) (ops : Array Oper) : List Oper → Sl → AS → Option (Sl × AS)
  | [], sl, A => some (sl, A)
  | o :: r, sl, A => match astep P C gl N ops o sl A with
    | some (sl1, A1) => aregion P C gl N ops r sl1 A1
    | none => none

theorem wpList_aregion (hcall : CallOk P gl C) {ro : Option Nat} {N : Nat} {ds : List Deferred} {ops : Array Oper} {Q : Exit → Act → World → Prop} : ∀ (l : List Oper) (sl sl' : Sl) (A A' : AS) (φ : Emb) (w : World) (a : Act), Rel φ A w → GRel gl φ → SR N ds φ sl a → aregion P C gl N ops l sl A = some (sl', A') →
    (∀ φ' a' w', SR N ds φ' sl' a' → Step φ A w φ' A' w' → Q .normal a' w') → wpListIn (Fr ro) 0 P ops Q l a w
  | [], sl, sl', A, A', φ, w, a, hr, hg, hs, h, hQ => by
    cases h
    exact hQ φ a w hs (Step.refl hr)
  | o :: r, sl, sl', A, A', φ, w, a, hr, hg, hs, h, hQ => by
    unfold aregion at h
    split at h
    · rename_i sl1 A1 hst
      obtain ⟨v, hv, hp⟩ := astep_aval hst
      unfold wpListIn
      refine wp_aval hcall hr hg hs.get hv fun φ' v' w' hvv hstep => ?_
      exact wpList_aregion hcall r sl1 sl' A1 A' φ' w' (a.put o.dst v') hstep.rel (hg.mono (hstep.ext hr)) ((hs.mono (hstep.ext hr)).put hvv hp) h fun φ2 a2 w2 h1 h2 => hQ φ2 a2 w2 h1 (Step.trans hr hstep h2)
    · cases h

end
end AE
end Go.Proofs.YtheaofepenbcgaaDoor

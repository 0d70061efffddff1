/- Parts of the proof, in the order in which they are built: AeM, AeN, AeO, AeP, StL, StP, Opn, RVal, RSgn, Val, StC, AeS, SrtL, StO, Clone, AeR, StK, Comp, StR, Sorted, Same, StS, OrdC, StQ. -/
import Derived.Test.YtheaofepenbcgaaGreatDoorCmpAsCard2
import Derived.OrdersIn
import Derived.Lib.SliceRun
import Derived.ProofKit
import Derived.Lay
import Derived.SevenTiedAt
import Derived.Carry
import Derived.Lib.SmallJoins
import Derived.Deep.Slices
import Derived.Shelf.SlSortCmp.NoneTotal
import Derived.Test.YtheaofepenbcgaaGreatDoorProg
import Derived.Laws.Slices

/- AE, M: how the pieces of a walk are put together: symbols by a list, ends, rounds, what leaves a loop. -/
namespace Go.Proofs.YtheaofepenbcgaaGreatDoor
open Go Go.RowKit
namespace AE

/-- A value of one cell. -/
def oneC : Value → Value
  | .agg _ => .bool false
  | .tuple _ => .bool false
  | v => v

theorem oneC_one (v : Value) : ∀ cs, oneC v ≠ .agg cs ∧ oneC v ≠ .tuple cs := by
  intro cs
  cases v <;> simp [oneC]

/-- The symbols by a list; the memory that is known. -/
@[reducible] def sgL (M : Nat → Option Obj) (vals : List Value) : Sig := ⟨fun k => oneC (vals.getD k (.bool false)), fun k => oneC_one _, M⟩

theorem immW_sgL (W : World) (vals : List Value) : @ImmW (sgL (heapOf W) vals) W := fun i o h => h

class IsCalm (Q : Exit → Act → World → Prop) : Prop where
  calm : Calm Q

instance [Outer] {P : Program} {fn : Func} {N B : Nat} {w0 : World} {R : Ending → World → Prop} : IsCalm (EndX P fn N B w0 R) := ⟨fun _ _ _ h => h⟩
instance {Q : Exit → Act → World → Prop} [IsCalm Q] {R : Act → World → Prop} : IsCalm (Exit.then R Q) := ⟨(IsCalm.calm (Q := Q)).then R⟩
instance {P : Program} {Q : Exit → Act → World → Prop} [IsCalm Q] {ks : List KI} : IsCalm (KQ P ks Q) := ⟨(IsCalm.calm (Q := Q)).kq ks⟩

def isEnd : AX → Bool
  | .normal | .ret => true
  | _ => false

/-- What a body returns that has come to its end. -/
def endVal (P : Program) (fn : Func) : Option Stop → Option Value
  | some (.done x s) => bif isEnd x then match aleave s.A s.ms with
    | some A2 => match ares P A2 s.sl fn.results.toList with
      | some vs => bif plainS (oneOf vs) then some (oneOf vs) else none
      | none => none
    | none => none
    else none
  | _ => none

def backObs (head : Sl) (bks : List Bk) : Option Stop → Option Obs
  | some (.done .normal s) => trAll s head bks
  | _ => none

/-- What is owed where a loop is come to. -/
def headObs (head : Sl) (bks : List Bk) : Option Stop → Option Obs
  | some (.loop _ s _) => trAll s head bks
  | _ => none

def stopCode : Option Stop → Code
  | some (.loop b _ _) => b
  | _ => .skip

def stopKs : Option Stop → List KI
  | some (.loop _ _ ks) => ks
  | some (.oper _ _ _ _ ks) => ks
  | some (.range _ _ _ _ _ ks) => ks
  | some (.draw _ _ _ ks) => ks
  | _ => []

def stopSt : Option Stop → ASt
  | some (.done _ s) => s
  | some (.loop _ s _) => s
  | some (.oper _ _ _ s _) => s
  | some (.range _ _ _ _ s _) => s
  | some (.draw _ _ s _) => s
  | none => { sl := .nil, ms := [], A := start }

def stopRest : Option Stop → List Oper
  | some (.oper _ r _ _ _) => r
  | _ => []

def stopOps : Option Stop → Array Oper
  | some (.oper _ _ ops _ _) => ops
  | _ => #[]

def stopDst : Option Stop → Option Tmp
  | some (.oper o _ _ _ _) => o.dst
  | _ => none

def leaveTo (P : Program) [Lib P] [Facts P] (C : ACalls) (N fuel : Nat) (ks : List KI) : Option Stop → Option Stop
  | some (.done .normal _) => none
  | some (.done x s) => resume P C N fuel ks x s
  | _ => none

/-- The state at a loop's head. -/
def headSt (head : Sl) (bks : List Bk) : ASt := { sl := head, ms := [], A := mkAS bks }

/-- Slots by a list. -/
def slots : List (Nat × Value) → Sl
  | [] => .nil
  | (t, v) :: r => match Tr.set v depth (slots r) t with
    | some s => s
    | none => .nil

/-- The state in which a body has come to its end: its result, its blocks. -/
def endSt (P : Program) (fn : Func) : Option Stop → Option (Value × AS)
  | some (.done x s) => bif isEnd x then match aleave s.A s.ms with
    | some A2 => match ares P A2 s.sl fn.results.toList with
      | some vs => some (oneOf vs, A2)
      | none => none
    | none => none
    else none
  | _ => none

theorem stop_ret [Sig] [Outer] {P : Program} {fn : Func} {N B : Nat} {w0 : World} {R : Ending → World → Prop} {st : Stop} {v : Value} {A2 : AS} (h : endSt P fn (some st) = some (v, A2)) (hR : ∀ v' w2, Here 1 (retSt v A2) B w0 (retAct v') w2 → R (.returned v') w2) : StopOk P N B w0 (EndX P fn N B w0 R) st := by
  unfold endSt at h
  split at h
  · rename_i x s hst
    cases hst
    cases hx : isEnd x with
    | false => rw [hx] at h; cases h
    | true =>
      rw [hx, cond_true] at h
      split at h
      · rename_i A3 hl
        split at h
        · rename_i vs hres
          cases h
          intro a w hh
          have main : Ends P fn N B w0 R a w := ⟨inferInstance, s, A2, vs, hh, hl, hres, hR⟩
          cases x with
          | normal => exact main
          | ret => exact main
          | exit id => cases hx
          | goto l => cases hx
        · cases h
      · cases h
  · cases h

theorem endVal_st {P : Program} {fn : Func} {o : Option Stop} {v : Value} (h : endVal P fn o = some v) : ∃ A2, endSt P fn o = some (v, A2) ∧ plainS v = true := by
  unfold endVal at h
  unfold endSt
  split at h
  · rename_i x s
    cases hx : isEnd x with
    | false => rw [hx] at h; cases h
    | true =>
      rw [hx, cond_true] at h
      simp only [hx, cond_true]
      split at h
      · rename_i A2 hl
        split at h
        · rename_i vs hres
          cases hp : plainS (oneOf vs) with
          | false => rw [hp] at h; cases h
          | true =>
            rw [hp, cond_true, Option.some.injEq] at h
            subst h
            exact ⟨A2, by simp only [hl, hres], hp⟩
        · cases h
      · cases h
  · cases h

theorem stop_end [Sig] [Outer] {P : Program} {fn : Func} {N B : Nat} {w0 : World} {R : Ending → World → Prop} {st : Stop} {v : Value} (h : endVal P fn (some st) = some v) (hR : ∀ w2, Low B w0 w2 → ImmW w2 → R (.returned (interp v)) w2) : StopOk P N B w0 (EndX P fn N B w0 R) st := by
  obtain ⟨A2, h1, hp⟩ := endVal_st h
  refine stop_ret h1 fun v' w2 hh => ?_
  have hi := hh.immW
  obtain ⟨⟨φ, ds, q1, q2, q3, q4, _⟩, q5, q6⟩ := hh
  have := q2.get 0 v rfl
  rw [show v' = interp v from VRel.eq_of_plainS v hp this]
  exact hR w2 q5 hi

theorem stop_back [Outer] {P : Program} {N B : Nat} {w0 : World} {X : Type} {sg : X → Sig} {I : X → Prop} {μ : X → Nat} {head : Sl} {bks : List Bk} {st : Stop} {x : X} (x' : X) {obs : Obs} {Q : Exit → Act → World → Prop} (hb : backObs head bks (some st) = some obs) (hm : Meet (sg x) (sg x') obs)
    (himm : ∀ i o, (sg x').imm i = some o → (sg x).imm i = some o) (hI : I x') (hμ : μ x' < μ x) (hn : Outer.n0 ≤ bks.length) (hc : SameC (stopSt (some st)).A bks 0) : @StopOk (sg x) _ P N B w0 (Exit.then (fun a w => ∃ x', I x' ∧ μ x' < μ x ∧ @Here (sg x') _ N (headSt head bks) B w0 a w) Q) st := by
  unfold backObs at hb
  split at hb
  · rename_i s hst
    cases hst
    intro a w hh
    exact ⟨x', hI, hμ, Here.move hb hm himm hn hc hh⟩
  · cases hb

theorem stop_leave [Sig] [Outer] {P : Program} [Lib P] [Facts P] {C : ACalls} {N B fuel : Nat} {w0 : World} {ks : List KI} {st s2 : Stop} {Q : Exit → Act → World → Prop} [IsCalm Q] {R : Act → World → Prop} (hmix : P.follows .mixedOrders = true) (hcall : CallOk P .nil C) (h : leaveTo P C N fuel ks (some st) = some s2) (h2 : StopOk P N B w0 Q s2) : StopOk P N B w0 (Exit.then R (KQ P ks Q)) st := by
  unfold leaveTo at h
  split at h
  · cases h
  · rename_i x s hx hst
    cases hst
    intro a w hh
    exact then_of (Q := KQ P ks Q) (P := P) (y := .skip) (fun hn => hx hn) (resume_ok hmix hcall ks x s s2 Q a w IsCalm.calm h h2 hh) R
  · cases h

theorem stop_loop [Outer] {P : Program} {N B : Nat} {w0 : World} {s1 : Sig} {X : Type} {sg : X → Sig} (I : X → Prop) (μ : X → Nat) {head : Sl} {bks : List Bk} {st : Stop} {obs : Obs} {Q : Exit → Act → World → Prop} (x : X) (hb : headObs head bks (some st) = some obs) (hm : Meet s1 (sg x) obs)
    (himm : ∀ i o, (sg x).imm i = some o → s1.imm i = some o) (hx : I x)
    (round : ∀ x, I x → ∀ a w, @Here (sg x) _ N (headSt head bks) B w0 a w → (stopCode (some st)).wpIn (Fr none) 0 P (Exit.then (fun a' w' => ∃ x', I x' ∧ μ x' < μ x ∧ @Here (sg x') _ N (headSt head bks) B w0 a' w') (KQ P (stopKs (some st)) Q)) a w) (hn : Outer.n0 ≤ bks.length) (hc : SameC (stopSt (some st)).A bks 0) : @StopOk s1 _ P N B w0 Q st := by
  unfold headObs at hb
  split at hb
  · rename_i b s ks hst
    cases hst
    intro a w hh
    exact here_loop sg (headSt head bks) I μ round x hx (Here.move hb hm himm hn hc hh)
  · cases hb

/- THE SAME FOR WHAT AN EVALUATION GIVES -/

def OStop [Sig] [Outer] (P : Program) (N B : Nat) (w0 : World) (Q : Exit → Act → World → Prop) (o : Option Stop) : Prop := ∃ st, o = some st ∧ StopOk P N B w0 Q st

theorem ostop_end [Sig] [Outer] {P : Program} {fn : Func} {N B : Nat} {w0 : World} {R : Ending → World → Prop} {o : Option Stop} {v : Value} (h : endVal P fn o = some v) (hR : ∀ w2, Low B w0 w2 → ImmW w2 → R (.returned (interp v)) w2) : OStop P N B w0 (EndX P fn N B w0 R) o := by
  cases o with
  | none => cases h
  | some st => exact ⟨st, rfl, stop_end h hR⟩

theorem ostop_back [Outer] {P : Program} {N B : Nat} {w0 : World} {X : Type} {sg : X → Sig} {I : X → Prop} {μ : X → Nat} {head : Sl} {bks : List Bk} {o : Option Stop} {x : X} (x' : X) {obs : Obs} {Q : Exit → Act → World → Prop} (hb : backObs head bks o = some obs) (hm : Meet (sg x) (sg x') obs)
    (himm : ∀ i o, (sg x').imm i = some o → (sg x).imm i = some o) (hI : I x') (hμ : μ x' < μ x) (hn : Outer.n0 ≤ bks.length := by first | exact Nat.zero_le _ | exact Nat.le_of_ble_eq_true rfl) (hc : SameC (stopSt o).A bks 0 := by exact sameC_none rfl) : @OStop (sg x) _ P N B w0 (Exit.then (fun a w => ∃ x', I x' ∧ μ x' < μ x ∧ @Here (sg x') _ N (headSt head bks) B w0 a w) Q) o := by
  cases o with
  | none => cases hb
  | some st => exact ⟨st, rfl, stop_back x' hb hm himm hI hμ hn hc⟩

theorem ostop_leave [Sig] [Outer] {P : Program} [Lib P] [Facts P] {C : ACalls} {N B fuel : Nat} {w0 : World} {ks : List KI} {o : Option Stop} {Q : Exit → Act → World → Prop} [IsCalm Q] {R : Act → World → Prop} (hmix : P.follows .mixedOrders = true) (hcall : CallOk P .nil C) (h2 : OStop P N B w0 Q (leaveTo P C N fuel ks o)) : OStop P N B w0 (Exit.then R (KQ P ks Q)) o := by
  obtain ⟨s2, h, h2⟩ := h2
  cases o with
  | none => cases h
  | some st => exact ⟨st, rfl, stop_leave hmix hcall h h2⟩

theorem ostop_loop [Outer] {P : Program} {N B : Nat} {w0 : World} {s1 : Sig} {X : Type} {sg : X → Sig} (I : X → Prop) (μ : X → Nat) {head : Sl} {bks : List Bk} {o : Option Stop} {obs : Obs} {Q : Exit → Act → World → Prop} (x : X) (hb : headObs head bks o = some obs) (hm : Meet s1 (sg x) obs)
    (himm : ∀ i o, (sg x).imm i = some o → s1.imm i = some o) (hx : I x)
    (round : ∀ x, I x → ∀ a w, @Here (sg x) _ N (headSt head bks) B w0 a w → (stopCode o).wpIn (Fr none) 0 P (Exit.then (fun a' w' => ∃ x', I x' ∧ μ x' < μ x ∧ @Here (sg x') _ N (headSt head bks) B w0 a' w') (KQ P (stopKs o) Q)) a w) (hn : Outer.n0 ≤ bks.length := by first | exact Nat.zero_le _ | exact Nat.le_of_ble_eq_true rfl) (hc : SameC (stopSt o).A bks 0 := by exact sameC_none rfl) : @OStop s1 _ P N B w0 Q o := by
  cases o with
  | none => cases hb
  | some st => exact ⟨st, rfl, stop_loop I μ x hb hm himm hx round hn hc⟩

/-- An evaluation with facts and calls. -/
def evalTo (P : Program) [Lib P] (F : List (FOp × Value)) (T : List (FuncId × List Value × Value)) (N fuel d : Nat) (c : Code) (s : ASt) : Option Stop :=
  @toLoop P _ ⟨F⟩ (@ocalls P _ ⟨F⟩ ⟨T⟩ .nil fuel d) N fuel c s

def evalLeave (P : Program) [Lib P] (F : List (FOp × Value)) (T : List (FuncId × List Value × Value)) (N fuel d : Nat) (ks : List KI) (o : Option Stop) : Option Stop :=
  @leaveTo P _ ⟨F⟩ (@ocalls P _ ⟨F⟩ ⟨T⟩ .nil fuel d) N fuel ks o

def AllFacts [Sig] (P : Program) (F : List (FOp × Value)) : Prop := ∀ p ∈ F, FactOk P p
def AllCalls [Sig] (P : Program) (T : List (FuncId × List Value × Value)) : Prop := ∀ p ∈ T, CallFactOk P p

theorem allF_nil [Sig] {P : Program} : AllFacts P [] := fun _ h => by cases h
theorem allF_cons [Sig] {P : Program} {p : FOp × Value} {l : List (FOp × Value)} (h : FactOk P p) (hl : AllFacts P l) : AllFacts P (p :: l) := fun q hq => by
  rcases List.mem_cons.1 hq with rfl | hq
  · exact h
  · exact hl q hq
theorem allC_nil [Sig] {P : Program} : AllCalls P [] := fun _ h => by cases h
theorem allC_cons [Sig] {P : Program} {p : FuncId × List Value × Value} {l : List (FuncId × List Value × Value)} (h : CallFactOk P p) (hl : AllCalls P l) : AllCalls P (p :: l) := fun q hq => by
  rcases List.mem_cons.1 hq with rfl | hq
  · exact h
  · exact hl q hq

theorem walk_to [Sig] [Outer] {P : Program} [Lib P] {F : List (FOp × Value)} {T : List (FuncId × List Value × Value)} {N B fuel d : Nat} {w0 w : World} {a : Act} {c : Code} {s : ASt} {Q : Exit → Act → World → Prop} [IsCalm Q] (hmix : P.follows .mixedOrders = true) (hF : AllFacts P F) (hT : AllCalls P T)
    (h : OStop P N B w0 Q (evalTo P F T N fuel d c s)) (hh : Here N s B w0 a w) : c.wpIn (Fr none) 0 P Q a w := by
  obtain ⟨st, h1, h2⟩ := h
  letI : Facts P := ⟨F⟩
  letI : CallTab P := ⟨T⟩
  exact toLoop_ok hmix (ocalls_ok hmix hF hT d) c s st Q a w IsCalm.calm h1 h2 hh

theorem walk_leave [Sig] [Outer] {P : Program} [Lib P] {F : List (FOp × Value)} {T : List (FuncId × List Value × Value)} {N B fuel d : Nat} {w0 : World} {ks : List KI} {o : Option Stop} {Q : Exit → Act → World → Prop} [IsCalm Q] {R : Act → World → Prop} (hmix : P.follows .mixedOrders = true) (hF : AllFacts P F) (hT : AllCalls P T)
    (h2 : OStop P N B w0 Q (evalLeave P F T N fuel d ks o)) : OStop P N B w0 (Exit.then R (KQ P ks Q)) o := by
  letI : Facts P := ⟨F⟩
  letI : CallTab P := ⟨T⟩
  exact ostop_leave hmix (ocalls_ok hmix hF hT d) h2

/-- What is left of a region is gone on with. -/
def evalOps (P : Program) [Lib P] (F : List (FOp × Value)) (T : List (FuncId × List Value × Value)) (N fuel d : Nat) (r : List Oper) (ops : Array Oper) (ks : List KI) (s : ASt) : Option Stop :=
  match @opsTo P _ ⟨F⟩ (@ocalls P _ ⟨F⟩ ⟨T⟩ .nil fuel d) N ops s.ms r s.sl s.A with
  | .done .normal s1 => @resume P _ ⟨F⟩ (@ocalls P _ ⟨F⟩ ⟨T⟩ .nil fuel d) N fuel ks .normal s1
  | .done _ _ => none
  | st => some (st.pushes ks)

theorem walk_ops [Sig] [Outer] {P : Program} [Lib P] {F : List (FOp × Value)} {T : List (FuncId × List Value × Value)} {N B fuel d : Nat} {w0 w : World} {a : Act} {r : List Oper} {ops : Array Oper} {ks : List KI} {s : ASt} {Q : Exit → Act → World → Prop} [IsCalm Q] (hmix : P.follows .mixedOrders = true) (hF : AllFacts P F) (hT : AllCalls P T)
    (h : OStop P N B w0 Q (evalOps P F T N fuel d r ops ks s)) (hh : Here N s B w0 a w) : wpListIn (Fr none) 0 P ops (KQ P ks Q) r a w := by
  obtain ⟨st, h1, h2⟩ := h
  letI : Facts P := ⟨F⟩
  letI : CallTab P := ⟨T⟩
  have hc := ocalls_ok (gl := .nil) (fuel := fuel) hmix hF hT d
  unfold evalOps at h1
  refine opsTo_ok (ms := s.ms) hc r s.sl s.A a w ?_ hh
  split at h1
  · rename_i s1 he
    rw [he]
    intro a' w' hh'
    exact resume_ok hmix hc ks .normal s1 st Q a' w' IsCalm.calm h1 h2 hh'
  · cases h1
  · rename_i st1 hd he
    cases h1
    exact StopOk.pushes (fun x s hx => by
      cases x with
      | normal => exact hd _ hx
      | _ => exact he _ _ hx) h2

/-- The call that an evaluation stops at: its function and its arguments. -/
def callAt (P : Program) : Option Stop → Option (FuncId × List Value)
  | some (.oper o _ ops s _) => match o.op with
    | .call c => match c.callee with
      | .value (.func f) => match aWanted ops o s.sl with
        | some true => bif enters P f && plainSL (c.args.toList.map (evs .nil s.sl)) then some (f, c.args.toList.map (evs .nil s.sl)) else none
        | _ => none
      | _ => none
    | _ => none
  | _ => none

theorem ostop_call [Sig] [Outer] {P : Program} {N B : Nat} {w0 : World} {Q : Exit → Act → World → Prop} {o : Option Stop} {f : FuncId} {args : List Value} {R : World → Value → World → Prop} (h : callAt P o = some (f, args))
    (hcon : ∀ a w, Here N (stopSt o) B w0 a w → Calls P f ⟨interpL args⟩ w fun e w' => ∃ v, e = .returned v ∧ R w v w')
    (hK : ∀ a w v w', Here N (stopSt o) B w0 a w → R w v w' → wpListIn (Fr none) 0 P (stopOps o) (KQ P (stopKs o) Q) (stopRest o) (a.put (stopDst o) v) w') : OStop P N B w0 Q o := by
  unfold callAt at h
  split at h
  · rename_i op r ops s ks
    refine ⟨_, rfl, fun a w hh => ?_⟩
    split at h
    · rename_i c hop
      split at h
      · rename_i g hcal
        split at h
        · rename_i hw
          cases hp : (enters P g && plainSL (c.args.toList.map (evs .nil s.sl))) with
          | false => rw [hp] at h; cases h
          | true =>
            rw [hp, cond_true] at h
            cases h
            simp only [Bool.and_eq_true] at hp
            exact here_call hop hcal hw hp.1 rfl hp.2 hh (hcon a w hh) fun v w' hR => hK a w v w' hh hR
        · cases h
      · cases h
    · cases h
  · cases h

/-- A function is entered with nothing known but its arguments. -/
theorem walk_enter [Sig] {P : Program} {f : FuncId} {fn : Func} {c : Code} {args : List Value} {sl : Sl} {N : Nat} {W : World} {R : Ending → World → Prop} (hfn : P.funcs[f]? = some fn) (hc : fn.body = some c) (hsl : setArgs 0 args .nil = some sl) (hp : plainSL args = true)
    (hN : args.length + (fn.ntmps - args.length) = N) (hW : ImmW W) (hbody : ∀ a, @Here _ noOuter N { sl, ms := [], A := start } W.heap.size W a W → c.wpIn (Fr none) 0 P (@EndX noOuter P fn N W.heap.size W R) a W) : Calls P f ⟨interpL args⟩ W R := by
  subst hN
  letI := noOuter
  exact calls_here hfn hc hsl (rel_start hW) (fun b e h => by cases h) (Outs.none _ _) ⟨by simp [interpL_length], fun j hj => by simpa using VRel.of_plainSL (fun _ => none) args hp j hj⟩ (Low.refl _ _) (Nat.le_refl _) hbody

theorem meet_nil {s1 s2 : Sig} : Meet s1 s2 [] := fun _ h => by cases h
theorem meet_cons {s1 s2 : Sig} {p : Value × Value} {l : Obs} (h : @interp s1 p.1 = @interp s2 p.2) (hl : Meet s1 s2 l) : Meet s1 s2 (p :: l) := fun q hq => by
  rcases List.mem_cons.1 hq with rfl | hq
  · exact h
  · exact hl q hq

theorem meetInt {k : IntKind} {a b : Int} (h : a = b) : Value.int k a = .int k b := by rw [h]

/-- Two symbols that stand for one value, looked up on each side alone. -/
theorem meetV {M M' : Nat → Option Obj} {vals vals' : List Value} {a b : Nat} (v : Value) (h1 : oneC (vals.getD a (.bool false)) = v) (h2 : oneC (vals'.getD b (.bool false)) = v) : @interp (sgL M vals) (symv a) = @interp (sgL M' vals') (symv b) := by
  exact ((@interp_symv (sgL M vals) a).trans h1).trans ((@interp_symv (sgL M' vals') b).trans h2).symm
theorem meetI {M M' : Nat → Option Obj} {vals vals' : List Value} {a b : Nat} {k : IntKind} {x y : Int} (h1 : oneC (vals.getD a (.bool false)) = .int k x) (h2 : oneC (vals'.getD b (.bool false)) = .int k y) (h : x = y) : @interp (sgL M vals) (symv a) = @interp (sgL M' vals') (symv b) := by
  subst h
  exact meetV (.int k x) h1 h2

theorem wrap64 {n : Int} (h1 : -9223372036854775808 ≤ n) (h2 : n ≤ 9223372036854775807) : IntKind.i64.wrap n = n := IntWalk.i64_in n ⟨h1, h2⟩

attribute [instance] noOuter

end AE
end Go.Proofs.YtheaofepenbcgaaGreatDoor

/- AE, N: append to a slice of the call's own, of which its cells are known. -/
namespace Go.Proofs.YtheaofepenbcgaaGreatDoor
open Go Go.RowKit
namespace AE

/-- The append that an evaluation stops at: what is appended to, and the cells that are appended. -/
def appAt (t : TypeId) (k : Nat) : Option Stop → Option (Value × List Value × Nat)
  | some (.oper o _ ops s _) => match o.op with
    | .call c => match c.callee, c.args with
      | .builtin .append, ⟨[sO, xO]⟩ => bif decide (c.argTypes = #[t, t]) then match aWanted ops o s.sl with
        | some true => match evs .nil s.sl xO with
          | .slice (some ⟨b, off, none⟩) m _ => match s.A.loadN b off (m * k) with
            | some vals => bif plainS (evs .nil s.sl sO) && (plainSL vals && (vals.all oneCell && (Nat.blt 0 m && Nat.beq vals.length (m * k)))) then some (evs .nil s.sl sO, vals, m) else none
            | none => none
          | _ => none
        | _ => none
        else none
      | _, _ => none
    | _ => none
  | _ => none

theorem plainSL_mem : ∀ {l : List Value}, plainSL l = true → ∀ {v : Value}, v ∈ l → plainS v = true
  | [], _, v, hv => by cases hv
  | x :: r, h, v, hv => by
    unfold plainSL at h
    simp only [Bool.and_eq_true] at h
    rcases List.mem_cons.1 hv with rfl | hv
    · exact h.1
    · exact plainSL_mem h.2 hv

theorem ostop_append [Sig] [Outer] {P : Program} {N B : Nat} {w0 : World} {Q : Exit → Act → World → Prop} {o : Option Stop} {t e : TypeId} {k bytes : Nat} {i : TypeInfo} {z vs : Value} {vals : List Value} {n m : Nat} {xs : List Value} (h : appAt t k o = some (vs, vals, m))
    (ht : P.underlying t = some (.slice e)) (hi : P.info? e = some i) (hz : i.zero = some z) (hsize : i.size = k) (hby : i.bytes = bytes) (hzs : z.cells.size = k) (hsz : 0 < k)
    (hown : ∀ w, ImmW w → B ≤ w.heap.size → w.ownsRow B e k (interp vs) n xs) (h63 : n + m ≤ maxLen) (hbytes : (n + m) * bytes ≤ 140737488355328)
    (hK : ∀ a w v w', Here N (stopSt o) B w0 a w → w'.ownsRow B e k v (n + m) (xs ++ interpL vals) → w.grownBy w' (interp vs).ownBlock → wpListIn (Fr none) 0 P (stopOps o) (KQ P (stopKs o) Q) (stopRest o) (a.put (stopDst o) v) w') : OStop P N B w0 Q o := by
  unfold appAt at h
  split at h
  · rename_i op r ops s ks
    refine ⟨_, rfl, fun a w hh => ?_⟩
    split at h
    · rename_i c hop
      split at h
      · rename_i sO xO hcal hargs
        cases hty : decide (c.argTypes = #[t, t]) with
        | false => rw [hty] at h; cases h
        | true =>
          rw [hty, cond_true] at h
          have hty' : c.argTypes = #[t, t] := of_decide_eq_true hty
          split at h
          · rename_i hw
            split at h
            · rename_i b off m' cc hx
              split at h
              · rename_i vals' hl
                cases hp : (plainS (evs .nil s.sl sO) && (plainSL vals' && (vals'.all oneCell && (Nat.blt 0 m' && Nat.beq vals'.length (m' * k))))) with
                | false => rw [hp] at h; cases h
                | true =>
                  rw [hp, cond_true] at h
                  cases h
                  simp only [Bool.and_eq_true] at hp
                  obtain ⟨p1, p2, p3, p4, p5⟩ := hp
                  have hm : 0 < m := Nat.blt_eq.mp p4
                  have hlen : vals.length = m * k := Nat.eq_of_beq_eq_true p5
                  have hh0 := hh
                  obtain ⟨⟨φ, ds, h1, h2, h3, h4, _⟩, h5, h6⟩ := hh
                  unfold wpListIn
                  rw [wanted_spec h2.get hw, if_pos rfl]
                  have es : a.eval sO = interp (evs .nil s.sl sO) := VRel.eq_of_plainS _ p1 (evs_rel (gr_nil φ) h2.get sO)
                  have ex := evs_rel (gr_nil φ) h2.get xO
                  rw [hx] at ex
                  have hex : ∃ ee cc', φ b = some ee ∧ a.eval xO = .slice (some ⟨ee.blk, ee.sh + off, none⟩) m cc' := by
                    generalize a.eval xO = u at ex
                    cases ex with
                    | slz a' h => exact absurd hm (by omega)
                    | slx _ _ h => exact ⟨_, _, h, rfl⟩
                    | slg _ _ c' h _ _ _ => exact ⟨_, _, h, rfl⟩
                  obtain ⟨ee, cc', hb, hxe⟩ := hex
                  have hcells : ∀ (j : Nat) (u : Value), (interpL vals)[j]? = some u → w.cell? ((⟨ee.blk, ee.sh + off, none⟩ : Addr).add j) = some u := by
                    intro j u hj
                    obtain ⟨q1, q2⟩ := loadN_spec hl
                    have hjl : j < vals.length := by
                      have := (List.getElem?_eq_some_iff.1 hj).1
                      rwa [interpL_length] at this
                    obtain ⟨v', g1, g2⟩ := rel_load h3 (q2 j (by omega)) hb
                    rw [Addr.add_at, Nat.add_assoc, g1]
                    have pj : plainS (vals.getD j undef) = true := by
                      rw [List.getD_eq_getElem?_getD, List.getElem?_eq_getElem hjl]
                      exact plainSL_mem p2 (List.getElem_mem hjl)
                    rw [VRel.eq_of_plainS _ pj g2]
                    rw [interpL_map, List.getElem?_map, List.getElem?_eq_getElem hjl] at hj
                    rw [List.getD_eq_getElem?_getD, List.getElem?_eq_getElem hjl]
                    simpa using hj
                  have hone : ∀ u ∈ interpL vals, u.oneCell' = true := by
                    intro u hu
                    rw [interpL_map] at hu
                    obtain ⟨v0, hv0, rfl⟩ := List.mem_map.1 hu
                    have := VRel.oneCell (VRel.of_plainS φ v0 (plainSL_mem p2 hv0)) (List.all_eq_true.1 p3 v0 hv0)
                    cases hv : interp v0 <;> first | rfl | exact absurd hv (this _).1 | exact absurd hv (this _).2
                  obtain ⟨v', w', g1, g2, g3, _⟩ := run_append_own (P := P) w B t op.type e i z k bytes ht hi hz hsize hby hzs hsz (interp (evs .nil s.sl sO)) n xs (hown w hh0.immW h6) ⟨ee.blk, ee.sh + off, none⟩ m cc' (interpL vals) (by rw [interpL_length]; exact hlen) hcells hone h63 hbytes h6
                  have hrun : (execOp a.eval op).run P w = .ok (.value v') w' := by
                    unfold execOp resolve
                    rw [hop]
                    simp only [hcal, hargs, hty', List.map_toArray, List.map_cons, List.map_nil, es, hxe]
                    show (do pure (Next.value (← Builtin.append_ #[t, t] op.type #[interp (evs .nil s.sl sO), .slice (some ⟨ee.blk, ee.sh + off, none⟩) m cc'])) : Sem Next).run P w = _
                    simp only [Sem.run_bind, g1, Result.andThen_ok]
                    rfl
                  have hnd : ∀ c', op.op ≠ .defer c' := fun c' h => by rw [hop] at h; cases h
                  refine ⟨fun _ _ => trivial, ?_⟩
                  rw [Oper.semAt_eq _ _ _ hnd, hrun, Oper.uponIn_value]
                  exact hK a w v' w' hh0 g2 g3
              · cases h
            · cases h
          · cases h
      · cases h
    · cases h
  · cases h

end AE
end Go.Proofs.YtheaofepenbcgaaGreatDoor

/- AE, O: functions that are walked where memory is shared: their contracts, calls of them, ranges over them. -/
namespace Go.Proofs.YtheaofepenbcgaaGreatDoor
open Go Go.RowKit
namespace AE

/-- What a call returns, where memory is shared: a value and blocks, with new symbols. -/
def RetS [Outer] {Y : Type} (sgR : Y → Sig) (R : Y → Prop) (vR : Value) (bksR : List Bk) (B : Nat) (w0 : World) (e : Ending) (w' : World) : Prop :=
  ∃ v' y, e = .returned v' ∧ R y ∧ @Here (sgR y) _ 1 (retSt vR (mkAS bksR)) B w0 (retAct v') w'

/-- The contract of a call where memory is shared. -/
def CallsS [Sig] (P : Program) (f : FuncId) (args : List Value) (A : AS) (B : Nat) (w0 : World) {Y : Type} (sgR : Y → Sig) (R : Y → Prop) (vR : Value) (bksR : List Bk) : Prop :=
  ∀ φ w args', Rel φ A w → (∀ b e, φ b = some e → B ≤ e.blk) → RL args φ args' → Low B w0 w → B ≤ w.heap.size → Calls P f args' w (@RetS ⟨φ, A.n⟩ Y sgR R vR bksR B w0)

theorem CallsS.of [Sig] {P : Program} {f : FuncId} {fn : Func} {c : Code} {args : List Value} {sl : Sl} {A : AS} {N B : Nat} {w0 : World} {Y : Type} {sgR : Y → Sig} {R : Y → Prop} {vR : Value} {bksR : List Bk} (hfn : P.funcs[f]? = some fn) (hc : fn.body = some c) (hsl : setArgs 0 args .nil = some sl)
    (hN : args.length + (fn.ntmps - args.length) = N) (hbody : ∀ φ a w, @Here _ ⟨φ, A.n⟩ N { sl, ms := [], A } B w0 a w → c.wpIn (Fr none) 0 P (@EndX ⟨φ, A.n⟩ P fn N B w0 (@RetS ⟨φ, A.n⟩ Y sgR R vR bksR B w0)) a w) : CallsS P f args A B w0 sgR R vR bksR := by
  subst hN
  intro φ w args' hr hB hargs hb hsz
  letI : Outer := ⟨φ, A.n⟩
  exact calls_here hfn hc hsl hr hB ⟨Nat.le_refl _, fun _ _ => rfl⟩ hargs hb hsz fun a hh => hbody φ a w hh

/-- What is owed at the end of such a function. -/
def retObs (P : Program) (fn : Func) (vR : Value) (bksR : List Bk) (o : Option Stop) : Option Obs :=
  match endSt P fn o with
  | some (v, A2) => trAll (retSt v A2) (retSt vR (mkAS bksR)).sl bksR
  | none => none

def endA (P : Program) (fn : Func) (o : Option Stop) : AS :=
  match endSt P fn o with
  | some (_, A2) => A2
  | none => start

theorem ostop_ret {s1 : Sig} [Outer] {P : Program} {fn : Func} {N B : Nat} {w0 : World} {Y : Type} {sgR : Y → Sig} {R : Y → Prop} {vR : Value} {bksR : List Bk} {o : Option Stop} {obs : Obs} (y : Y) (h : retObs P fn vR bksR o = some obs) (hm : Meet s1 (sgR y) obs)
    (himm : ∀ i o, (sgR y).imm i = some o → s1.imm i = some o) (hR : R y) (hn : Outer.n0 ≤ bksR.length) (hc : SameC (endA P fn o) bksR 0) : @OStop s1 _ P N B w0 (EndX P fn N B w0 (RetS sgR R vR bksR B w0)) o := by
  unfold retObs at h
  unfold endA at hc
  split at h
  · rename_i v A2 he
    rw [he] at hc
    cases o with
    | none => cases he
    | some st => exact ⟨st, rfl, stop_ret he fun v' w2 hh => ⟨v', y, rfl, hR, Here.move h hm himm hn hc hh⟩⟩
  · cases h

/-- The call that an evaluation stops at. -/
def enterAt (P : Program) [Lib P] : Option Stop → Option (FuncId × List Value × AS)
  | some (.oper o _ ops s _) => match aWanted ops o s.sl with
    | some true => match aop P (evs .nil s.sl) s.A o with
      | some (.enter f args, A1) => some (f, args, A1)
      | _ => none
    | _ => none
  | _ => none

/-- The frame that waits, with new symbols, when what it has called has returned. -/
theorem frame_after {s1 s2 : Sig} [o1 : Outer] {N n B : Nat} {s : ASt} {sl2 : Sl} {φ : Emb} {ds : List Deferred} {a : Act} {A1 : AS} {w0 w1 w2 : World} {v' vR : Value} {bksR : List Bk} {obs : Obs} (hs : @SR s1 N ds φ s.sl a) (hr : @Rel s1 φ A1 w1) (hn : A1.n = n) (hm1 : MRel φ s.ms ds) (ho : Outs φ A1)
    (htr : trT n s.sl sl2 = some obs) (hm : Meet s1 s2 obs) (h : @Here s2 ⟨φ, n⟩ 1 (retSt vR (mkAS bksR)) B w0 (retAct v') w2) :
    ∃ φ', MRel φ' s.ms ds ∧ @SR s2 N ds φ' sl2 a ∧ @Rel s2 φ' (mkAS bksR) w2 ∧ (∀ b e, φ' b = some e → B ≤ e.blk) ∧ Outs φ' (mkAS bksR) ∧ @VRel s2 φ' vR v' ∧ (∀ b e, φ b = some e → φ' b = some e) ∧ Low B w0 w2 ∧ B ≤ w2.heap.size := by
  obtain ⟨⟨φ', ds', q1, q2, q3, q4, q5⟩, q6, q7⟩ := h
  have hlt : ∀ b e, φ b = some e → b < n := fun b e hb => hn ▸ @Rel.lt s1 _ _ _ hr b e hb
  have hext : ∀ b e, φ b = some e → φ' b = some e := fun b e hb => by
    have := q5.2 b (hlt b e hb)
    exact this.trans hb
  have hle : n ≤ (mkAS bksR).n := q5.1
  have ho2 : ∀ b, b < n → φ' b = φ b := q5.2
  refine ⟨φ', hm1.mono hext, ⟨@SR.size s1 _ _ _ _ _ hs, @SR.defers s1 _ _ _ _ _ hs, fun t v hv => ?_⟩, q3, q4, ⟨Nat.le_trans ho.1 (hn ▸ hle), fun b hb => (ho2 b (hn ▸ Nat.lt_of_lt_of_le hb ho.1)).trans (ho.2 b hb)⟩, @SR.get s2 _ _ _ _ _ q2 0 vR rfl, hext, q6, q7⟩
  have hv2 : @VRel s2 (cutE n φ) v (a.tmps.getD t undef) := trT_ok (s1 := s1) s.sl sl2 htr hm t v _ hv fun v1 hv1 => @SR.get s1 _ _ _ _ _ hs t v1 hv1
  letI := s2
  exact hv2.mono fun b e hb => hext b e (cutE_some hb).2

theorem ostop_enter {s1 : Sig} [Outer] {P : Program} [Lib P] {N B : Nat} {w0 : World} {Q : Exit → Act → World → Prop} {o : Option Stop} {f : FuncId} {args : List Value} {A1 : AS} {Y : Type} {sgR : Y → Sig} {R : Y → Prop} {vR : Value} {bksR : List Bk} {sl2 sl3 : Sl} {obs : Obs}
    (h : enterAt P o = some (f, args, A1)) (hcon : @CallsS s1 P f args A1 B w0 Y sgR R vR bksR) (htr : trT A1.n (stopSt o).sl sl2 = some obs) (hm : ∀ y, R y → Meet s1 (sgR y) obs) (hput : aput N sl2 (stopDst o) vR = some sl3)
    (rest : ∀ y, R y → ∀ a w, @Here (sgR y) _ N { sl := sl3, ms := (stopSt o).ms, A := mkAS bksR } B w0 a w → wpListIn (Fr none) 0 P (stopOps o) (KQ P (stopKs o) Q) (stopRest o) a w) : @OStop s1 _ P N B w0 Q o := by
  letI := s1
  unfold enterAt at h
  split at h
  · rename_i op r ops s ks
    split at h
    · rename_i hw
      split at h
      · rename_i f' args' A1' ha
        cases h
        refine ⟨_, rfl, fun a w hh => ?_⟩
        obtain ⟨⟨φ, ds, h1, h2, h3, h4, h7⟩, h5, h6⟩ := hh
        unfold wpListIn
        rw [wanted_spec h2.get hw, if_pos rfl]
        obtain ⟨φ1, w1, n, g1, g2, g3⟩ := snd_aop h3 (evs_rel (gr_nil φ) h2.get) ha
        refine ⟨fun _ _ => trivial, ?_⟩
        letI : Facts P := ⟨[]⟩
        have ha' : aopF P (evs .nil s.sl) s.A op = some (.enter f args, A1) := ha
        rw [Oper.semAt_eq _ _ _ (aop_no_defer ha'), g1]
        obtain ⟨args'', rfl, hargs⟩ := g2
        rw [Oper.uponIn_enter]
        refine ⟨fun h => absurd h (by simp [Fr, Fence.wide]), ?_⟩
        obtain ⟨k1, k2⟩ := step_below h4 g3 h6
        refine CallsIn.mono (callsIn_fr (hcon φ1 w1 args'' g3.rel k1 hargs (h5.trans k2) (Nat.le_trans h6 g3.hsize))) fun e w2 he => ?_
        obtain ⟨v', y, rfl, hy, hret⟩ := he
        obtain ⟨φ', p1, p2, p3, p4, p5, p6, p7, p8, p9⟩ := frame_after (s1 := s1) (s2 := sgR y) (h2.mono (g3.ext h3)) g3.rel rfl (h1.mono (g3.ext h3)) (h7.step g3) htr (hm y hy) hret
        letI := sgR y
        exact rest y hy (a.put op.dst v') w2 ⟨⟨φ', ds, p1, p2.put p6 hput, p3, p4, p5⟩, p8, p9⟩
      · cases h
    · cases h
  · cases h

/-- The range over a function that an evaluation stops at: the call that it makes, the blocks then, its two records. -/
def rangeAt (P : Program) (N : Nat) : Option Stop → Option (FuncId × List Value × AS × Nat × Nat)
  | some (.range g ps as_ body s _) => match evs .nil s.sl g with
    | .func (.func f) ⟨first⟩ ⟨capt⟩ => bif enters P f then
        match s.A.push (.oth .deferred) 0 0 with
        | some (d, A1) => match A1.push (.oth (.loop { state := .ready, pending := none, sl := s.sl, N, params := ps.toList, assign := as_, body, dfr := d })) 0 0 with
          | some (l, A2) => some (f, first ++ [.func (.yield l) ⟨[]⟩ ⟨[]⟩] ++ capt, A2, d, l)
          | none => none
        | none => none
      else none
    | _ => none
  | _ => none

/-- Behind it: how the loop is left, and the blocks. -/
def rangeEnd (A : AS) (l : Nat) : Option (AX × AS) :=
  match A.getLoop l with
  | some lp => bif isBusy lp.state then none else match A.setOth l (.loop { lp with state := .exhausted }), jumpX lp.pending with
    | some A4, some x => some (x, A4)
    | _, _ => none
  | none => none

/-- The codes of a range. -/
def rangeCodes : Option Stop → Code × Code
  | some (.range _ _ as_ body _ _) => (as_, body)
  | _ => (.skip, .skip)

theorem ostop_range {s1 : Sig} [Outer] {P : Program} [Lib P] {N B : Nat} {w0 : World} {Q : Exit → Act → World → Prop} {o : Option Stop} {f : FuncId} {args : List Value} {A2 A4 : AS} {d l : Nat} {x : AX} {Y : Type} {sgR : Y → Sig} {R : Y → Prop} {vR : Value} {bksR : List Bk} {sl2 : Sl} {obs : Obs}
    (h : rangeAt P N o = some (f, args, A2, d, l)) (hcon : @CallsS s1 P f args A2 B w0 Y sgR R vR bksR) (htr : trT A2.n (stopSt o).sl sl2 = some obs) (hm : ∀ y, R y → Meet s1 (sgR y) obs) (hend : rangeEnd (mkAS bksR) l = some (x, A4))
    (rest : ∀ y, R y → ∀ a w, @Here (sgR y) _ N { sl := sl2, ms := d :: (stopSt o).ms, A := A4 } B w0 a w → KQ P (stopKs o) Q x.exit' a w) : @OStop s1 _ P N B w0 Q o := by
  letI := s1
  unfold rangeAt at h
  split at h
  · rename_i g ps as_ body s ks
    split at h
    · rename_i f' first capt hev
      cases hen : enters P f' with
      | false => rw [hen] at h; cases h
      | true =>
        rw [hen, cond_true] at h
        split at h
        · rename_i d' A1 hp1
          split at h
          · rename_i l' A2' hp2
            cases h
            refine ⟨_, rfl, fun a w hh => ?_⟩
            obtain ⟨⟨φ, ds, hm0, hs, hr, hB, hout⟩, hbel, hsz⟩ := hh
            have hgv := evs_rel (gr_nil φ) hs.get g
            rw [hev] at hgv
            have hfun : ∃ fs' cs', a.eval g = .func (.func f) fs' cs' ∧ RL first φ fs' ∧ RL capt φ cs' := by
              generalize a.eval g = u at hgv
              cases hgv with
              | func _ fs' _ cs' hn h1 h2 h3 h4 => exact ⟨fs', cs', rfl, RL.of h1 h3, RL.of h2 h4⟩
            obtain ⟨fs', cs', hev', hfs, hcs⟩ := hfun
            have st1 := step_push (o' := .deferred (some [])) (e := ⟨w.heap.size, 0, 0, 0⟩) hr hp1 rfl rfl (by
              unfold ORel
              exact ⟨rfl, .deferred (some []), by simp, rfl⟩)
            have hd := (hr.wf.push hp1).2.1
            refine wpIn_rangeFunc fun fn _ => ?_
            let r0 : Loop := { state := .ready, pending := none, fn := fn, tmps := a.tmps, params := ps, assign := as_, body := body, defers := w.heap.size }
            have st2 := step_push (o' := .loop r0) (e := ⟨w.heap.size + 1, 0, 0, 0⟩) st1.rel hp2 (by simp) rfl (by
              unfold ORel
              refine ⟨rfl, .loop r0, by
                show ((w.heap.push (Obj.deferred (some []))).push (Obj.loop r0))[w.heap.size + 1]? = _
                rw [Array.getElem?_push, if_pos (by simp)], r0, rfl, rfl, rfl, hs.size, rfl, rfl, rfl, ⟨⟨w.heap.size, 0, 0, 0⟩, ?_, rfl⟩, fun t v hv => ?_⟩
              · have hlt := (st1.rel.wf.push hp2).2.1
                have hn1 := (hr.wf.push hp1).2.2.1
                show upd _ _ _ d = _
                unfold upd
                rw [if_neg (by omega), if_pos rfl]
              · refine (hs.get t v hv).mono fun b e hb => ?_
                have hlt := (st1.rel.wf.push hp2).2.1
                have hn1 := (hr.wf.push hp1).2.2.1
                have := hr.lt hb
                unfold upd
                rw [if_neg (by omega), if_neg (by omega)]
                exact hb)
            have st12 := Step.trans hr st1 st2
            have hx12 := st12.ext hr
            have hl12 : upd (upd φ d ⟨w.heap.size, 0, 0, 0⟩) l ⟨w.heap.size + 1, 0, 0, 0⟩ l = some ⟨w.heap.size + 1, 0, 0, 0⟩ := by unfold upd; rw [if_pos rfl]
            have hd12 : upd (upd φ d ⟨w.heap.size, 0, 0, 0⟩) l ⟨w.heap.size + 1, 0, 0, 0⟩ d = some ⟨w.heap.size, 0, 0, 0⟩ := by
              have hlt := (st1.rel.wf.push hp2).2.1
              have hn1 := (hr.wf.push hp1).2.2.1
              unfold upd
              rw [if_neg (by omega), if_pos rfl]
            have hyv : VRel (upd (upd φ d ⟨w.heap.size, 0, 0, 0⟩) l ⟨w.heap.size + 1, 0, 0, 0⟩) (.func (.yield l) ⟨[]⟩ ⟨[]⟩) (.func (.yield (w.heap.size + 1)) #[] #[]) := .yld hl12
            have hmono1 : ∀ {ls : List Value} {az : Array Value}, RL ls φ az → RL ls (upd (upd φ d ⟨w.heap.size, 0, 0, 0⟩) l ⟨w.heap.size + 1, 0, 0, 0⟩) az := fun h => ⟨h.1, fun j hj => (h.2 j hj).mono hx12⟩
            have h1 : RL [.func (.yield l) ⟨[]⟩ ⟨[]⟩] (upd (upd φ d ⟨w.heap.size, 0, 0, 0⟩) l ⟨w.heap.size + 1, 0, 0, 0⟩) #[.func (.yield (w.heap.size + 1)) #[] #[]] := ⟨rfl, fun j hj => by
              have : j = 0 := by simpa using hj
              subst this
              exact hyv⟩
            have hargs := ((hmono1 hfs).append h1).append (hmono1 hcs)
            obtain ⟨k1, k2⟩ := step_below hB st12 hsz
            refine ⟨w.heap.size + 1, [{ target := .collected w.heap.size, args := #[] }], { w with heap := (w.heap.push (.deferred (some []))).push (.loop r0) }, { target := .fn (.func f) cs', args := fs' ++ #[.func (.yield (w.heap.size + 1)) #[] #[]] }, { w with heap := (w.heap.push (.deferred (some []))).push (.loop r0) }, f, fs' ++ #[.func (.yield (w.heap.size + 1)) #[] #[]] ++ cs', { w with heap := (w.heap.push (.deferred (some []))).push (.loop r0) }, ?_, ?_, fun _ _ => trivial, ?_, fun h => absurd h (by simp [Fr, Fence.wide]),
              CallsIn.mono (callsIn_fr (hcon _ _ _ st12.rel k1 hargs (hbel.trans k2) (Nat.le_trans hsz st12.hsize))) fun e w3 he => ?_⟩
            · unfold Instr.enterLoop
              simp only [Fr]
              have hnew0 : (newObj (.deferred (some []))).run P w = .ok w.heap.size { w with heap := w.heap.push (.deferred (some [])) } := rfl
              have hnew : (newObj (.loop r0)).run P { w with heap := w.heap.push (.deferred (some [])) } = .ok (w.heap.size + 1) { w with heap := (w.heap.push (.deferred (some []))).push (.loop r0) } := by
                simp only [newObj, Sem.run, Array.size_push]
              refine run_then hnew0 ?_
              refine run_pre (a := (w.heap.size, [({ target := .collected w.heap.size, args := #[] } : Deferred)])) rfl ?_
              exact run_then (k := fun x => pure (x, [({ target := .collected w.heap.size, args := #[] } : Deferred)])) hnew rfl
            · unfold resolve
              simp only [rangeCall, hev', List.map_toArray, List.map_cons, List.map_nil]
              rfl
            · exact pureRun_run (enters_run hen _) _
            · obtain ⟨v', y, rfl, hy, hret⟩ := he
              obtain ⟨φ3, p1, p2, p3, p4, p5, p6, p7, p8, p9⟩ := frame_after (s1 := s1) (s2 := sgR y) (hs.mono hx12) st12.rel rfl (hm0.mono hx12) (hout.step st12) htr (hm y hy) hret
              letI := sgR y
              unfold rangeEnd at hend
              split at hend
              · rename_i lp hlp
                cases hb : isBusy lp.state with
                | true => rw [hb] at hend; cases hend
                | false =>
                  rw [hb, cond_false] at hend
                  split at hend
                  · rename_i A4' x' hso hj
                    cases hend
                    have hl3 := p7 _ _ hl12
                    obtain ⟨r, q1, q2, q3, q4⟩ := rel_getLoop (P := P) p3 hlp hl3
                    obtain ⟨r', hr', hstate, hpend, hrest⟩ := id q2
                    cases hr'
                    have st4 := step_setOth (o' := .loop { r with state := .exhausted }) p3 hl3 hso (by
                      obtain ⟨u1, u2, u3, u4, u5, u6⟩ := hrest
                      exact ⟨{ r with state := .exhausted }, rfl, rfl, hpend, u1, u2, u3, u4, u5, u6⟩)
                    obtain ⟨k3, k4⟩ := step_below p4 st4 p9
                    have hmAll : MRel φ3 (d :: s.ms) ({ target := .collected w.heap.size, args := #[] } :: ds) := .cons (p7 _ _ hd12) p1
                    have hsr : SR N ({ target := .collected w.heap.size, args := #[] } :: ds) φ3 sl2 { a with defers := [{ target := .collected w.heap.size, args := #[] }] ++ a.defers } :=
                      ⟨p2.size, by simp [p2.defers], fun t v hv => p2.get t v hv⟩
                    have post : KQ P ks Q x.exit' { a with defers := [{ target := .collected w.heap.size, args := #[] }] ++ a.defers } { w3 with heap := w3.heap.setIfInBounds (w.heap.size + 1) (.loop { r with state := .exhausted }) } :=
                      rest y hy _ _ ⟨⟨φ3, _, hmAll, hsr, st4.rel, k3, p5.step st4⟩, p8.trans k4, Nat.le_trans p9 st4.hsize⟩
                    refine ⟨lp.pending, { w3 with heap := w3.heap.setIfInBounds (w.heap.size + 1) (.loop { r with state := .exhausted }) }, ?_, ?_⟩
                    · unfold Instr.endLoop
                      refine run_then q3 ?_
                      have hnb : (r.state == LoopState.busy) = false := by
                        rw [hstate]
                        cases hst : lp.state <;> rw [hst] at hb <;> first | rfl | cases hb
                      rw [hnb]
                      simp only [Bool.false_eq_true, if_false]
                      refine run_then (a := ()) (q4 _) ?_
                      rw [hpend]
                      rfl
                    · cases hpc : lp.pending with
                      | none =>
                        rw [hpc] at hj
                        cases hj
                        exact post
                      | some c =>
                        rw [hpc] at hj
                        exact wp_jump hj post
                  · cases hend
              · cases hend
          · cases h
        · cases h
    · cases h
  · cases h

theorem some_getD {α : Type} {o : Option α} {d : α} (h : o.isSome = true) : o = some (o.getD d) := by
  cases o with
  | none => cases h
  | some a => rfl

/-- What is called by the range: the function, its arguments, the blocks, the two records. -/
def rangeD (P : Program) (N : Nat) (o : Option Stop) : FuncId × List Value × AS × Nat × Nat := (rangeAt P N o).getD (0, [], start, 0, 0)
/-- The state in which it begins. -/
def rangeSt (P : Program) (N : Nat) (o : Option Stop) : ASt := { sl := (setArgs 0 (rangeD P N o).2.1 .nil).getD .nil, ms := [], A := (rangeD P N o).2.2.1 }
/-- The state behind it. -/
def afterSt (P : Program) (N : Nat) (o : Option Stop) (bksR : List Bk) (sl2 : Sl) : ASt := { sl := sl2, ms := (rangeD P N o).2.2.2.1 :: (stopSt o).ms, A := ((rangeEnd (mkAS bksR) (rangeD P N o).2.2.2.2).getD (.normal, start)).2 }
def afterX (P : Program) (N : Nat) (o : Option Stop) (bksR : List Bk) : AX := ((rangeEnd (mkAS bksR) (rangeD P N o).2.2.2.2).getD (.normal, start)).1

theorem ostop_rangeX {s1 : Sig} [Outer] {P : Program} [Lib P] {N B : Nat} {w0 : World} {Q : Exit → Act → World → Prop} {o : Option Stop} {fn : Func} {c : Code} (N' n : Nat) {Y : Type} (sgR : Y → Sig) (R : Y → Prop) (vR : Value) (bksR : List Bk) (sl2 : Sl) {obs : Obs}
    (h : (rangeAt P N o).isSome = true) (hf : P.funcs[(rangeD P N o).1]? = some fn) (hc : fn.body = some c) (hsl : (setArgs 0 (rangeD P N o).2.1 .nil).isSome = true) (hN : (rangeD P N o).2.1.length + (fn.ntmps - (rangeD P N o).2.1.length) = N') (hn : (rangeD P N o).2.2.1.n = n)
    (htr : trT n (stopSt o).sl sl2 = some obs) (hend : (rangeEnd (mkAS bksR) (rangeD P N o).2.2.2.2).isSome = true) (hm : ∀ y, R y → Meet s1 (sgR y) obs)
    (hbody : ∀ φ a w, @Here s1 ⟨φ, n⟩ N' (rangeSt P N o) B w0 a w → c.wpIn (Fr none) 0 P (@EndX ⟨φ, n⟩ P fn N' B w0 (@RetS ⟨φ, n⟩ Y sgR R vR bksR B w0)) a w)
    (rest : ∀ y, R y → ∀ a w, @Here (sgR y) _ N (afterSt P N o bksR sl2) B w0 a w → KQ P (stopKs o) Q (afterX P N o bksR).exit' a w) : @OStop s1 _ P N B w0 Q o := by
  subst hn
  letI := s1
  exact ostop_range (sgR := sgR) (R := R) (vR := vR) (bksR := bksR) (some_getD h) (CallsS.of hf hc (some_getD hsl) hN hbody) htr hm (some_getD hend) rest

/- LOOPS THAT ARE GONE THROUGH ROUND BY ROUND; WHAT IS LEFT OF A BODY -/

def evalUnroll (P : Program) [Lib P] (F : List (FOp × Value)) (T : List (FuncId × List Value × Value)) (N fuel d m : Nat) : Option Stop → Option Stop
  | some (.loop b s ks) => match @roundsTo P _ ⟨F⟩ (@ocalls P _ ⟨F⟩ ⟨T⟩ .nil fuel d) N fuel b m s with
    | some (.done x s1) => @resume P _ ⟨F⟩ (@ocalls P _ ⟨F⟩ ⟨T⟩ .nil fuel d) N fuel ks x s1
    | some st => some (st.pushes ks)
    | none => none
  | _ => none

theorem walk_unroll [Sig] [Outer] {P : Program} [Lib P] {F : List (FOp × Value)} {T : List (FuncId × List Value × Value)} {N B fuel d m : Nat} {w0 : World} {o : Option Stop} {Q : Exit → Act → World → Prop} [IsCalm Q] (hmix : P.follows .mixedOrders = true) (hF : AllFacts P F) (hT : AllCalls P T)
    (h : OStop P N B w0 Q (evalUnroll P F T N fuel d m o)) : OStop P N B w0 Q o := by
  obtain ⟨st, h1, h2⟩ := h
  letI : Facts P := ⟨F⟩
  letI : CallTab P := ⟨T⟩
  have hc := ocalls_ok (gl := .nil) (fuel := fuel) hmix hF hT d
  unfold evalUnroll at h1
  split at h1
  · rename_i b s ks
    refine ⟨_, rfl, fun a w hh => wpIn_loop_rounds m ?_⟩
    have hq : Calm (KQ P ks Q) := (IsCalm.calm (Q := Q)).kq ks
    split at h1
    · rename_i x1 s1 he
      exact roundsTo_ok hmix hc m s _ _ a w hq he (fun a1 w1 hh1 => resume_ok hmix hc ks x1 s1 st Q a1 w1 IsCalm.calm h1 h2 hh1) hh
    · rename_i st1 hd he
      cases h1
      exact roundsTo_ok hmix hc m s _ _ a w hq he (StopOk.pushes (Q := Q) (k := ks) (fun x s hx => hd x s hx) h2) hh
    · cases h1
  · cases h1

def evalRes (P : Program) [Lib P] (F : List (FOp × Value)) (T : List (FuncId × List Value × Value)) (N fuel d : Nat) (ks : List KI) (x : AX) (s : ASt) : Option Stop :=
  @resume P _ ⟨F⟩ (@ocalls P _ ⟨F⟩ ⟨T⟩ .nil fuel d) N fuel ks x s

theorem walk_res [Sig] [Outer] {P : Program} [Lib P] {F : List (FOp × Value)} {T : List (FuncId × List Value × Value)} {N B fuel d : Nat} {w0 w : World} {a : Act} {ks : List KI} {x : AX} {s : ASt} {Q : Exit → Act → World → Prop} [IsCalm Q] (hmix : P.follows .mixedOrders = true) (hF : AllFacts P F) (hT : AllCalls P T)
    (h : OStop P N B w0 Q (evalRes P F T N fuel d ks x s)) (hh : Here N s B w0 a w) : KQ P ks Q x.exit' a w := by
  obtain ⟨st, h1, h2⟩ := h
  letI : Facts P := ⟨F⟩
  letI : CallTab P := ⟨T⟩
  exact resume_ok hmix (ocalls_ok hmix hF hT d) ks x s st Q a w IsCalm.calm h1 h2 hh

end AE
end Go.Proofs.YtheaofepenbcgaaGreatDoor

/- AE, P: arrays of the call's own whose length is a symbol; operations and calls that turn known memory; drawn regions by all their orders. -/
namespace Go.Proofs.YtheaofepenbcgaaGreatDoor
open Go Go.RowKit
namespace AE

/- THE TAPE IS READ ON -/

theorem ask_drawn {α : Type} : ∀ (k : Ask α) (w : World), w.drawn ≤ (w.ask k).2.drawn
  | .done a, w => Nat.le_refl _
  | .ask what range k, w => by
    unfold World.ask
    simp only
    split
    · exact ask_drawn (k 0) w
    · exact Nat.le_trans (Nat.le_succ _) (ask_drawn _ { w with drawn := w.drawn + 1 })

theorem sys_drawn (w : World) (c : Sys) : w.drawn ≤ (w.sys c).2.drawn := by
  have h := ask_drawn (Kernel.perform c w.os) w
  unfold World.sys
  generalize w.ask (Kernel.perform c w.os) = x at h
  obtain ⟨⟨r, os⟩, w1⟩ := x
  cases r <;> first | exact Nat.le_refl _ | exact h

theorem farStore_drawn {P : Program} {w w' : World} {a : Addr} {v : Value} {b : Bool} {l : List Addr} (h : w.farStore P a v b = .ok (w', l)) : w'.drawn = w.drawn := by
  unfold World.farStore at h
  split at h
  · split at h
    · rename_i r hr
      cases h
      unfold World.viewStore at hr
      simp only [bind, Except.bind, pure, Except.pure] at hr
      repeat' (split at hr)
      all_goals first | (cases hr; done) | (cases hr; rfl)
    · cases h
  · cases h

theorem run_drawn {α : Type} {P : Program} : ∀ (s : Sem α) (w w' : World) (v : α), s.run P w = .ok v w' → w.drawn ≤ w'.drawn
  | .pure a, w, w', v, h => by
    unfold Sem.run at h
    cases h; exact Nat.le_refl _
  | .load m a k, w, w', v, h => by
    unfold Sem.run at h
    split at h
    · exact run_drawn _ w w' v h
    · split at h
      · exact run_drawn _ w w' v h
      · cases h
  | .store m a x k, w, w', v, h => by
    have key : (match w.cell? a with
        | some _ => if w.frozen? a then Result.halt (.unsupported (.unsafePointer "a write to bytes that a string shares")) w else k.run P (w.setCell a x)
        | none => match w.farStore P a x (m == .atomic) with
          | .ok (w, _) => k.run P w
          | .error h => .halt h w) = Result.ok v w' ∨ False := by
      cases x <;> first | (unfold Sem.run at h; exact .inl h) | (unfold Sem.run at h; cases h)
    rcases key with h | h
    · split at h
      · split at h
        · cases h
        · have := run_drawn k _ w' v h
          exact this
      · split at h
        · rename_i w1 l hf
          have := run_drawn k _ w' v h
          rw [farStore_drawn hf] at this
          exact this
        · cases h
    · exact h.elim
  | .new o k, w, w', v, h => by
    unfold Sem.run at h
    have := run_drawn _ _ w' v h
    exact this
  | .shape r k, w, w', v, h => by
    unfold Sem.run at h
    exact run_drawn _ w w' v h
  | .freeze a n k, w, w', v, h => by
    unfold Sem.run at h
    have := run_drawn k _ w' v h
    unfold World.freeze at this
    split at this <;> exact this
  | .frozen a k, w, w', v, h => by
    unfold Sem.run at h
    exact run_drawn _ w w' v h
  | .getObj r k, w, w', v, h => by
    unfold Sem.run at h
    split at h
    · cases h
    · exact run_drawn _ w w' v h
    · cases h
  | .setObj r o k, w, w', v, h => by
    unfold Sem.run at h
    split at h
    · cases h
    · have := run_drawn k _ w' v h
      exact this
    · cases h
  | .choose q k, w, w', v, h => by
    unfold Sem.run at h
    split at h
    · exact run_drawn _ w w' v h
    · have := run_drawn _ _ w' v h
      exact Nat.le_trans (Nat.le_succ _) this
  | .sys c k, w, w', v, h => by
    unfold Sem.run at h
    exact Nat.le_trans (sys_drawn w c) (run_drawn _ _ w' v h)
  | .program k, w, w', v, h => by
    unfold Sem.run at h
    exact run_drawn _ w w' v h
  | .mark m k, w, w', v, h => by
    unfold Sem.run at h
    exact run_drawn k w w' v h
  | .halt x, w, w', v, h => by
    unfold Sem.run at h
    cases h

/- ARRAYS OF THE CALL'S OWN -/

abbrev Mem := Nat → Option Obj

/-- The block of a slice that may be written. -/
def obl : Value → Option Nat
  | .slice (some a) _ c => if c = 0 then none else some a.block
  | _ => none

theorem obl_none (n c : Nat) : obl (.slice none n c) = none := rfl
theorem obl_zero (a : Option Addr) (n : Nat) : obl (.slice a n 0) = none := by cases a <;> rfl
theorem obl_pos (a : Addr) (n : Nat) {c : Nat} (h : 0 < c) : obl (.slice (some a) n c) = some a.block := by
  show (if c = 0 then none else some a.block) = _
  rw [if_neg (by omega)]
theorem obl_own {v : Value} {i : Nat} (h : some i = obl v) : some i = v.ownBlock := by
  cases v <;> first | (cases h; done) | skip
  rename_i a n c
  cases a with
  | none => cases h
  | some a =>
    rcases Nat.eq_zero_or_pos c with hc | hc
    · subst hc; cases h
    · rw [obl_pos a n hc] at h; exact h

/-- A slice of the call's own, as a list: without capacity, or all of a block at B or above. -/
def OArr {α : Type} (B : Nat) (M : Mem) (e : TypeId) (k : Nat) (enc : α → List Value) (v : Value) (l : List α) : Prop :=
  (∃ a, v = .slice a 0 0 ∧ l = []) ∨
  ∃ g cap cur, v = .slice (some ⟨g, 0, none⟩) l.length cap ∧ 0 < cap ∧ B ≤ g ∧ M g = some (.cells cur e (0, 0)) ∧ l.length ≤ cap ∧ cap ≤ maxLen ∧ cur.size = cap * k ∧ cur.toList.take (l.length * k) = l.flatMap enc

theorem flat_len {α : Type} {k : Nat} {enc : α → List Value} (hk : ∀ x, (enc x).length = k) : ∀ l : List α, (l.flatMap enc).length = l.length * k
  | [] => by simp
  | x :: r => by rw [List.flatMap_cons, List.length_append, hk, flat_len hk r, List.length_cons, Nat.add_mul, Nat.one_mul, Nat.add_comm]

theorem flat_get {α : Type} {k : Nat} {enc : α → List Value} (hk : ∀ x, (enc x).length = k) : ∀ (l : List α) (i : Nat) (x : α), l[i]? = some x → ∀ (j : Nat) (u : Value), (enc x)[j]? = some u → (l.flatMap enc)[i * k + j]? = some u
  | [], i, x, h, _, _, _ => by simp at h
  | y :: r, 0, x, h, j, u, hu => by
    simp only [List.getElem?_cons_zero, Option.some.injEq] at h
    subst h
    have hj : j < (enc y).length := (List.getElem?_eq_some_iff.1 hu).1
    rw [List.flatMap_cons, List.getElem?_append_left (by omega), Nat.zero_mul, Nat.zero_add]
    exact hu
  | y :: r, i + 1, x, h, j, u, hu => by
    rw [List.flatMap_cons, List.getElem?_append_right (by rw [hk, Nat.add_mul]; omega), hk, show (i + 1) * k + j - k = i * k + j by rw [Nat.add_mul]; omega]
    exact flat_get hk r i x (by simpa using h) j u hu

section
variable {α : Type} {B : Nat} {M : Mem} {e : TypeId} {k : Nat} {enc : α → List Value} {v : Value} {l : List α}

theorem OArr.nil (B : Nat) (M : Mem) (e : TypeId) (k : Nat) (enc : α → List Value) (a : Option Addr) : OArr B M e k enc (.slice a 0 0) [] := .inl ⟨a, rfl, rfl⟩

theorem OArr.slice (h : OArr B M e k enc v l) : ∃ a c, v = .slice a l.length c := by
  rcases h with ⟨a, rfl, rfl⟩ | ⟨g, cap, cur, rfl, _⟩
  · exact ⟨a, 0, rfl⟩
  · exact ⟨_, _, rfl⟩

/-- The block of a slice of one's own is known. -/
theorem OArr.known (h : OArr B M e k enc v l) : ∀ i, some i = obl v → M i ≠ none ∧ B ≤ i := by
  intro i hi
  rcases h with ⟨a, rfl, rfl⟩ | ⟨g, cap, cur, rfl, h0, h1, h2, _⟩
  · rw [obl_zero] at hi; cases hi
  · have : i = g := by
      rw [obl_pos _ _ h0] at hi
      simpa using hi
    subst this
    exact ⟨by rw [h2]; simp, h1⟩

theorem OArr.mono {B' : Nat} {M' : Mem} (h : OArr B M e k enc v l) (hB : B' ≤ B) (hm : ∀ i, some i = obl v → ∀ o, M i = some o → M' i = some o) : OArr B' M' e k enc v l := by
  rcases h with ⟨a, rfl, rfl⟩ | ⟨g, cap, cur, rfl, h0, h1, h2, h3, h4, h5, h6⟩
  · exact .inl ⟨a, rfl, rfl⟩
  · exact .inr ⟨g, cap, cur, rfl, h0, Nat.le_trans hB h1, hm g (by rw [obl_pos _ _ h0]) _ h2, h3, h4, h5, h6⟩

/-- The cells of a slice, in a world. -/
def Reads (w : World) (k : Nat) (enc : α → List Value) (v : Value) (l : List α) : Prop :=
  ∃ a c, v = .slice a l.length c ∧ (a = none → l = []) ∧ ∀ ad, a = some ad → ∀ j u, (l.flatMap enc)[j]? = some u → w.cell? (ad.add j) = some u

theorem flat_at {enc : α → List Value} (hk : ∀ x, (enc x).length = k) {l : List α} {j : Nat} {u : Value} (h : (l.flatMap enc)[j]? = some u) : ∃ i x r, l[i]? = some x ∧ (enc x)[r]? = some u ∧ j = i * k + r := by
  have hj : j < l.length * k := by
    have := (List.getElem?_eq_some_iff.1 h).1
    rwa [flat_len hk] at this
  have k0 : 0 < k := by rcases Nat.eq_zero_or_pos k with h | h; · subst h; simp at hj
                        · exact h
  have hi : j / k < l.length := Nat.div_lt_of_lt_mul (by rwa [Nat.mul_comm] at hj)
  have hr : j % k < k := Nat.mod_lt _ k0
  refine ⟨j / k, l[j / k], j % k, List.getElem?_eq_getElem hi, ?_, (Nat.div_add_mod' j k).symm⟩
  have h2 := flat_get hk l (j / k) _ (List.getElem?_eq_getElem hi) (j % k) ((enc l[j / k])[j % k]'(by rw [hk]; exact hr)) (List.getElem?_eq_getElem _)
  rw [Nat.div_add_mod', h] at h2
  rw [List.getElem?_eq_getElem (by rw [hk]; exact hr)]
  exact h2.symm

theorem Arr.reads {w : World} (h : Arr M k enc v l) (hk : ∀ x, (enc x).length = k) (hw : ∀ i o, M i = some o → w.heap[i]? = some o) : Reads w k enc v l := by
  cases h with
  | nil a c => exact ⟨a, c, rfl, fun _ => rfl, fun ad _ j u h => by simp at h⟩
  | mk h1 h2 h3 =>
    refine ⟨_, _, rfl, (fun h => by cases h), fun ad had j u hj => ?_⟩
    cases had
    obtain ⟨i, x, r, q1, q2, rfl⟩ := flat_at hk hj
    rw [Addr.add_at, cell_of_row w _ _ _ _ _ (hw _ _ h1), ← Nat.add_assoc]
    exact h3 i x q1 r u q2

theorem OArr.reads {w : World} (h : OArr B M e k enc v l) (hw : ∀ i o, M i = some o → w.heap[i]? = some o) : Reads w k enc v l := by
  rcases h with ⟨a, rfl, rfl⟩ | ⟨g, cap, cur, rfl, h0, h1, h2, h3, h4, h5, h6⟩
  · exact ⟨a, 0, rfl, fun _ => rfl, fun ad _ j u h => by simp at h⟩
  · refine ⟨_, _, rfl, (fun h => by cases h), fun ad had j u hj => ?_⟩
    cases had
    rw [Addr.add_at, cell_of_row w _ _ _ _ _ (hw _ _ h2), Nat.zero_add]
    rw [← h6, List.getElem?_take] at hj
    split at hj
    · simpa using hj
    · cases hj

theorem OArr.arr (h : OArr B M e k enc v l) (hk : ∀ x, (enc x).length = k) : Arr M k enc v l := by
  rcases h with ⟨a, rfl, rfl⟩ | ⟨g, cap, cur, rfl, hc, h1, h2, h3, h4, h5, h6⟩
  · exact .nil _ _
  · refine .mk h2 h3 fun i x hx j u hu => ?_
    have h7 := flat_get hk l i x hx j u hu
    rw [← h6, List.getElem?_take] at h7
    split at h7
    · rw [Nat.zero_add]
      simpa using h7
    · cases h7

theorem OArr.row (h : OArr B M e k enc v l) (hk : ∀ x, (enc x).length = k) (hc : obl v ≠ none) {w : World} (hw : ∀ i o, M i = some o → w.heap[i]? = some o) : w.ownsRow B e k v l.length (l.flatMap enc) := by
  refine ⟨flat_len hk l, ?_⟩
  rcases h with ⟨a, rfl, rfl⟩ | ⟨g, cap, cur, rfl, h0, h1, h2, h3, h4, h5, h6⟩
  · exact absurd (obl_zero _ _) hc
  · exact .inr ⟨g, cap, cur, rfl, h1, hw _ _ h2, h3, h4, h5, h6⟩

theorem OArr.of_row {w : World} (h : w.ownsRow B e k v l.length (l.flatMap enc)) : OArr B (heapOf w) e k enc v l := by
  obtain ⟨_, ⟨rfl, h0⟩ | ⟨g, cap, cur, rfl, h1, h2, h3, h4, h5, h6⟩⟩ := h
  · exact .inl ⟨none, rfl, List.eq_nil_of_length_eq_zero h0⟩
  · rcases Nat.eq_zero_or_pos cap with hc | hc
    · subst hc
      have : l = [] := List.eq_nil_of_length_eq_zero (by omega)
      subst this
      exact .inl ⟨_, rfl, rfl⟩
    · exact .inr ⟨g, cap, cur, rfl, hc, h1, h2, h3, h4, h5, h6⟩
end

/-- What was known of memory beside the block T is known still. -/
def Keeps (M M' : Mem) (T : Option Nat) : Prop := ∀ i o, M i = some o → some i ≠ T → M' i = some o

theorem Keeps.up {B : Nat} {W : World} {M M' : Mem} {T : Option Nat} (hk : Keeps M M' T) (hB : ∀ i, some i = T → B ≤ i) (hWB : W.heap.size ≤ B) (hM : ∀ i o, heapOf W i = some o → M i = some o) : ∀ i o, heapOf W i = some o → M' i = some o := fun i o h =>
  hk i o (hM i o h) fun hi => by
    have h1 := hB i hi
    have h2 : i < W.heap.size := (Array.getElem?_eq_some_iff.1 h).1
    omega

theorem Keeps.own {α : Type} {B : Nat} {M M' : Mem} {T : Option Nat} {e : TypeId} {k : Nat} {enc : α → List Value} {v : Value} {l : List α} (hk : Keeps M M' T) (h : OArr B M e k enc v l) (hne : ∀ i, some i = obl v → some i ≠ T) : OArr B M' e k enc v l :=
  h.mono (Nat.le_refl _) fun i hi o ho => hk i o ho (hne i hi)

/- OPERATIONS AND CALLS THAT TURN KNOWN MEMORY -/

/-- The block T is turned; what is known behind it. -/
structure Turns (B : Nat) (M M' : Mem) (T : Option Nat) (w w' : World) : Prop where
  known : ∀ i, some i = T → M i ≠ none ∧ B ≤ i
  os : w'.os = w.os
  tape : w'.tape = w.tape
  output : w'.output = w.output
  drawn : w.drawn ≤ w'.drawn
  size : w.heap.size ≤ w'.heap.size
  block : ∀ i, i < w.heap.size → some i ≠ T → w'.heap[i]? = w.heap[i]?
  imm : ∀ i o, M' i = some o → w'.heap[i]? = some o ∧ (M i ≠ none ∨ w.heap.size ≤ i ∨ i < B)

theorem Here.turns [Outer] {M M' : Mem} {vals vals' : List Value} {T : Option Nat} {N B : Nat} {st : ASt} {w0 w w' : World} {a : Act} {sl : Sl} {l : List Bk} {obs : Obs} (htr : trAll st sl l = some obs) (hm : Meet (sgL M vals) (sgL M' vals') obs) (ht : Turns B M M' T w w') (hn : Outer.n0 ≤ l.length) (hc : SameC st.A l 0)
    (hh : @Here (sgL M vals) _ N st B w0 a w) : @Here (sgL M' vals') _ N { sl, ms := [], A := mkAS l } B w0 a w' :=
  Here.turn (fun i => some i = T) htr hm (fun i hi => ht.known i hi) ⟨ht.os, ht.tape, ht.output, ht.drawn⟩ ht.size (fun i hi hv => ht.block i hi hv) (fun i o hi => ht.imm i o hi) hn hc hh

/-- Memory behind a turn: what was known is known, but for the block T; the block U is known. -/
def memTo (M : Mem) (w' : World) (T U : Option Nat) : Mem := fun i => if some i = U then w'.heap[i]? else if some i = T then none else M i

theorem turns_memTo {B : Nat} {M : Mem} {T U : Option Nat} {w w' : World} (hw : ∀ i o, M i = some o → w.heap[i]? = some o) (hT : ∀ i, some i = T → M i ≠ none ∧ B ≤ i) (hU : ∀ i, some i = U → some i = T ∨ w.heap.size ≤ i)
    (hos : w'.os = w.os ∧ w'.tape = w.tape ∧ w'.output = w.output) (hd : w.drawn ≤ w'.drawn) (hsz : w.heap.size ≤ w'.heap.size) (hb : ∀ i, i < w.heap.size → some i ≠ T → w'.heap[i]? = w.heap[i]?) : Turns B M (memTo M w' T U) T w w' ∧ Keeps M (memTo M w' T U) T := by
  have hkeep : ∀ i o, M i = some o → some i ≠ T → w'.heap[i]? = some o := fun i o hi hv => by
    have h := hw i o hi
    rw [hb i (Array.getElem?_eq_some_iff.1 h).1 hv]
    exact h
  refine ⟨⟨hT, hos.1, hos.2.1, hos.2.2, hd, hsz, hb, fun i o hi => ?_⟩, fun i o hi hv => ?_⟩
  · unfold memTo at hi
    split at hi
    · rename_i h
      refine ⟨hi, ?_⟩
      rcases hU i h with h | h
      · exact .inl (hT i h).1
      · exact .inr (.inl h)
    · split at hi
      · cases hi
      · rename_i h1 h2
        exact ⟨hkeep i o hi h2, .inl (by rw [hi]; simp)⟩
  · unfold memTo
    split
    · exact hkeep i o hi hv
    · first
        | exact hi
        | (rw [if_neg hv]; exact hi)

/- APPEND -/

theorem run_append_zero {P : Program} {w : World} {t ty e : TypeId} {i : TypeInfo} (ht : P.underlying t = some (.slice e)) (hi : P.info? e = some i) {a b : Option Addr} {n cap c : Nat} (h : n ≤ cap) :
    (Builtin.append_ #[t, t] ty #[.slice a n cap, .slice b 0 c]).run P w = .ok (.slice a n cap) w := by
  cases b <;> cases a <;> simp [Builtin.append_, run_underlying ht, sizeOf, typeInfo, hi, Builtin.lenOf, Builtin.firstCells, loadCells, loadCellsFrom, h, storeCells]

/-- What an append hands back lies in the old block, or in a new one. -/
theorem append_new {P : Program} {w w' : World} {base : Nat} {t ty e : TypeId} {i : TypeInfo} {z : Value} {size bytes : Nat} (ht : P.underlying t = some (.slice e)) (hi : P.info? e = some i) (hz : i.zero = some z) (hsize : i.size = size) (hby : i.bytes = bytes) (hzs : z.cells.size = size) (hsz : 0 < size)
    {v v' : Value} {n : Nat} {xs : List Value} (hown : w.ownsRow base e size v n xs) (a : Addr) (m c : Nat) {news : List Value} (hl : news.length = m * size) (hnews : ∀ j u, news[j]? = some u → w.cell? (a.add j) = some u) (h1 : ∀ u ∈ news, u.oneCell' = true)
    (h63 : n + m ≤ maxLen) (hbytes : (n + m) * bytes ≤ 140737488355328) (hr : (Builtin.append_ #[t, t] ty #[v, .slice (some a) m c]).run P w = .ok v' w') : ∀ j, some j = v'.ownBlock → some j = v.ownBlock ∨ w.heap.size ≤ j := by
  subst hsize
  subst hby
  have hsmall : n + m ≤ 9223372036854775807 := by simp only [maxLen] at h63; omega
  rcases hown.2 with ⟨rfl, rfl⟩ | ⟨g, cap, cur, rfl, hbg, hg, hnc, hcm, hcs, htake⟩
  · by_cases hm : m = 0
    · subst hm
      have hn : news = [] := List.eq_nil_of_length_eq_zero (by simpa using hl)
      subst hn
      have h2 : (Builtin.append_ #[t, t] ty #[.slice none 0 0, .slice (some a) 0 c]).run P w = .ok (.slice none 0 0) w := by
        simp [Builtin.append_, run_underlying ht, sizeOf, typeInfo, hi, Builtin.lenOf, Builtin.firstCells, loadCells, loadCellsFrom]
      rw [h2] at hr
      cases hr
      intro j hj
      cases hj
    · have h2 := run_append_nil (P := P) w t ty e i z ht hi hz a m c news hl hnews (by omega) (by omega) (by have hb := hbytes; simp only [Nat.zero_add] at hb; omega)
      rw [h2] at hr
      cases hr
      intro j hj
      have : j = w.heap.size := by simpa [Value.ownBlock] using hj
      exact .inr (by omega)
  · by_cases hroom : n + m ≤ cap
    · have hfit : n * i.size + news.length ≤ cur.size := by rw [hl, hcs, ← Nat.add_mul]; exact Nat.mul_le_mul_right _ hroom
      have h2 := run_append_room (P := P) w t ty e i ht hi g n cap cur hg a m c news hl hnews h1 hroom hfit
      rw [h2] at hr
      cases hr
      intro j hj
      exact .inl hj
    · have holds : ∀ j u, xs[j]? = some u → w.cell? ((⟨g, 0, none⟩ : Addr).add j) = some u := hown.cells (g := g) rfl
      have h2 := run_append_grow (P := P) w t ty e i z ht hi hz ⟨g, 0, none⟩ n cap xs hown.1 holds a m c news hl hnews (by omega) (by omega) (growslice_fits (by omega) hbytes)
      rw [h2] at hr
      cases hr
      intro j hj
      have : j = w.heap.size := by simpa [Value.ownBlock] using hj
      exact .inr (by omega)


theorem append_own {α : Type} {P : Program} {w : World} {B : Nat} {M : Mem} {t ty e : TypeId} {i : TypeInfo} {z : Value} {k bytes : Nat} (ht : P.underlying t = some (.slice e)) (hi : P.info? e = some i) (hz : i.zero = some z) (hsize : i.size = k) (hby : i.bytes = bytes) (hzs : z.cells.size = k) (hk0 : 0 < k)
    {enc : α → List Value} (hk : ∀ x, (enc x).length = k) (hone : ∀ x, ∀ u ∈ enc x, u.oneCell' = true) {v x : Value} {l lx : List α} (hO : OArr B M e k enc v l) (hx : Reads w k enc x lx) (hw : ∀ i o, M i = some o → w.heap[i]? = some o) (hB : B ≤ w.heap.size)
    (h63 : l.length + lx.length ≤ maxLen) (hbytes : (l.length + lx.length) * bytes ≤ 140737488355328) :
    ∃ v' w' M', (Builtin.append_ #[t, t] ty #[v, x]).run P w = .ok v' w' ∧ OArr B M' e k enc v' (l ++ lx) ∧ Turns B M M' (obl v) w w' ∧ Keeps M M' (obl v) := by
  obtain ⟨ax, c, rfl, hnil, hcells⟩ := hx
  by_cases hm : lx = []
  · subst hm
    obtain ⟨a, cap, rfl⟩ := hO.slice
    have hle : l.length ≤ cap := by
      rcases hO with ⟨a', h, rfl⟩ | ⟨g, cap', cur, h, h0, h1, h2, h3, _⟩
      · exact Nat.zero_le _
      · cases h; exact h3
    refine ⟨_, w, M, run_append_zero ht hi hle, by rw [List.append_nil]; exact hO, ⟨hO.known, rfl, rfl, rfl, Nat.le_refl _, Nat.le_refl _, fun _ _ _ => rfl, fun i o h => ⟨hw i o h, .inl (by rw [h]; simp)⟩⟩, fun i o h _ => h⟩
  · cases ax with
    | none => exact absurd (hnil rfl) hm
    | some ad =>
      have hlen := flat_len hk lx
      have hpos : 0 < lx.length := List.length_pos_iff.2 hm
      have h1 : ∀ u ∈ lx.flatMap enc, u.oneCell' = true := fun u hu => by
        obtain ⟨y, _, hy⟩ := List.mem_flatMap.1 hu
        exact hone y u hy
      have fin : ∀ {v0 : Value}, w.ownsRow B e k v0 l.length (l.flatMap enc) → (∀ i, some i = v0.ownBlock → M i ≠ none ∧ B ≤ i) → ∃ v' w' M', (Builtin.append_ #[t, t] ty #[v0, .slice (some ad) lx.length c]).run P w = .ok v' w' ∧ OArr B M' e k enc v' (l ++ lx) ∧ Turns B M M' v0.ownBlock w w' ∧ Keeps M M' v0.ownBlock := by
        intro v0 hrow hkn
        obtain ⟨v', w', g1, g2, g3, _⟩ := run_append_own (P := P) w B t ty e i z k bytes ht hi hz hsize hby hzs hk0 v0 l.length _ hrow ad lx.length c _ hlen (hcells ad rfl) h1 h63 hbytes hB
        have hnew := append_new ht hi hz hsize hby hzs hk0 hrow ad lx.length c hlen (hcells ad rfl) h1 h63 hbytes g1
        have hd := run_drawn _ _ _ _ g1
        have h2 : w'.ownsRow B e k v' (l ++ lx).length ((l ++ lx).flatMap enc) := by rw [List.length_append, List.flatMap_append]; exact g2
        obtain ⟨q1, q2⟩ := turns_memTo (B := B) (M := M) (T := v0.ownBlock) (U := v'.ownBlock) hw hkn hnew ⟨g3.os, g3.tape, g3.output⟩ hd g3.size g3.block
        refine ⟨v', w', _, g1, (OArr.of_row h2).mono (Nat.le_refl _) fun i hi o ho => ?_, q1, q2⟩
        have : some i = v'.ownBlock := obl_own hi
        unfold memTo
        rw [if_pos this]
        exact ho
      by_cases hc : obl v = none
      · rcases hO with ⟨a, rfl, rfl⟩ | ⟨g, cap, cur, rfl, h0, _⟩
        · have e0 : (Builtin.append_ #[t, t] ty #[.slice a 0 0, .slice (some ad) lx.length c]).run P w = (Builtin.append_ #[t, t] ty #[.slice none 0 0, .slice (some ad) lx.length c]).run P w := by
            cases a with
            | none => rfl
            | some a =>
              subst hsize
              subst hby
              have hsmall : lx.length ≤ 9223372036854775807 := by simp only [maxLen, List.length_nil] at h63; omega
              have r1 := run_append_nil (P := P) w t ty e i z ht hi hz ad lx.length c _ hlen (hcells ad rfl) (by omega) (by omega) (by have hb := hbytes; simp only [List.length_nil, Nat.zero_add] at hb; omega)
              have r2 := run_append_grow (P := P) w t ty e i z ht hi hz a 0 0 [] (by simp) (fun j u h => by simp at h) ad lx.length c _ hlen (hcells ad rfl) (by omega) (by omega) (growslice_fits (by omega) (by have hb := hbytes; simp only [List.length_nil] at hb; exact hb))
              rw [r1, r2]
              simp
          obtain ⟨v', w', M', q1, q2, q3, q4⟩ := fin (v0 := .slice none 0 0) (World.ownsRow_nil w B e k) (fun i h => by cases h)
          rw [hc]
          exact ⟨v', w', M', e0.trans q1, q2, q3, q4⟩
        · exact absurd hc (by rw [obl_pos _ _ h0]; simp)
      · have heq : obl v = v.ownBlock := by
          cases h : obl v with
          | none => exact absurd h hc
          | some i => exact obl_own h.symm
        have := fin (v0 := v) (hO.row hk hc hw) (fun i h => hO.known i (by rw [heq]; exact h))
        rw [heq]
        exact this

/-- The append that an evaluation stops at: to what, and what. -/
def appOf (t : TypeId) : Option Stop → Option (Value × Value)
  | some (.oper o _ ops s _) => match o.op with
    | .call c => match c.callee, c.args with
      | .builtin .append, ⟨[sO, xO]⟩ => bif decide (c.argTypes = #[t, t]) then match aWanted ops o s.sl with
        | some true => some (evs .nil s.sl sO, evs .nil s.sl xO)
        | _ => none
        else none
      | _, _ => none
    | _ => none
  | _ => none

theorem ostop_appendO [Outer] {α : Type} {P : Program} {N B : Nat} {w0 : World} {Q : Exit → Act → World → Prop} {M : Mem} {vals : List Value} {o : Option Stop} {t e : TypeId} {k bytes : Nat} {i : TypeInfo} {z vs xv vR : Value} {enc : α → List Value} {l lx l' : List α} {vals2 : Option Addr → Nat → List Value} {sl2 sl3 : Sl} {bks : List Bk} {obs : Obs}
    (hl' : l' = l ++ lx) (h : appOf t o = some (vs, xv)) (ht : P.underlying t = some (.slice e)) (hi : P.info? e = some i) (hz : i.zero = some z) (hsize : i.size = k) (hby : i.bytes = bytes) (hzs : z.cells.size = k) (hk0 : 0 < k) (hk : ∀ x, (enc x).length = k) (hone : ∀ x, ∀ u ∈ enc x, u.oneCell' = true)
    (htr : trAll (stopSt o) sl2 bks = some obs) (hput : aput N sl2 (stopDst o) vR = some sl3) (hpl : plainS vR = true) (T : Option Nat)
    (hO : ∀ φ w v, @Rel (sgL M vals) φ (stopSt o).A w → @VRel (sgL M vals) φ vs v → OArr B M e k enc v l ∧ obl v = T)
    (hX : ∀ φ w x, @Rel (sgL M vals) φ (stopSt o).A w → @VRel (sgL M vals) φ xv x → Reads w k enc x lx)
    (h63 : l.length + lx.length ≤ maxLen) (hbytes : (l.length + lx.length) * bytes ≤ 140737488355328)
    (hm : ∀ M' a c, Meet (sgL M vals) (sgL M' (vals2 a c)) obs) (hv : ∀ M' a c, @interp (sgL M' (vals2 a c)) vR = .slice a l'.length c)
    (rest : ∀ M' a c, OArr B M' e k enc (.slice a l'.length c) l' → Keeps M M' T → (∀ i, some i = T → B ≤ i) → ∀ a' w, @Here (sgL M' (vals2 a c)) _ N { sl := sl3, ms := [], A := mkAS bks } B w0 a' w → wpListIn (Fr none) 0 P (stopOps o) (KQ P (stopKs o) Q) (stopRest o) a' w)
    (hn : Outer.n0 ≤ bks.length := by first | exact Nat.zero_le _ | exact Nat.le_of_ble_eq_true rfl) (hc : SameC (stopSt o).A bks 0 := by exact sameC_none rfl) : @OStop (sgL M vals) _ P N B w0 Q o := by
  subst hl'
  letI := sgL M vals
  unfold appOf at h
  split at h
  · rename_i op r ops s ks
    refine ⟨_, rfl, fun a w hh => ?_⟩
    split at h
    · rename_i c hop
      split at h
      · rename_i sO xO hcal hargs
        cases hty : decide (c.argTypes = #[t, t]) with
        | false => rw [hty] at h; cases h
        | true =>
          rw [hty, cond_true] at h
          have hty' : c.argTypes = #[t, t] := of_decide_eq_true hty
          split at h
          · rename_i hwt
            cases h
            have hh0 := hh
            obtain ⟨⟨φ, ds, h1, h2, h3, h4, _⟩, h5, h6⟩ := hh
            unfold wpListIn
            rw [wanted_spec h2.get hwt, if_pos rfl]
            have es := evs_rel (gr_nil φ) h2.get sO
            have ex := evs_rel (gr_nil φ) h2.get xO
            obtain ⟨hOa, hT⟩ := hO φ w _ h3 es
            subst hT
            have hw : ∀ i o, M i = some o → w.heap[i]? = some o := hh0.immW
            obtain ⟨v', w', M', g1, g2, g3, g4⟩ := append_own (ty := op.type) ht hi hz hsize hby hzs hk0 hk hone hOa (hX φ w _ h3 ex) hw h6 h63 hbytes
            have hrun : (execOp a.eval op).run P w = .ok (.value v') w' := by
              unfold execOp resolve
              rw [hop]
              simp only [hcal, hargs, hty', List.map_toArray, List.map_cons, List.map_nil]
              show (do pure (Next.value (← Builtin.append_ #[t, t] op.type #[a.eval sO, a.eval xO])) : Sem Next).run P w = _
              simp only [Sem.run_bind, g1, Result.andThen_ok]
              rfl
            have hnd : ∀ c', op.op ≠ .defer c' := fun c' h => by rw [hop] at h; cases h
            refine ⟨fun _ _ => trivial, ?_⟩
            rw [Oper.semAt_eq _ _ _ hnd, hrun, Oper.uponIn_value]
            obtain ⟨a', c', rfl⟩ := g2.slice
            have hh2 := Here.turns (vals' := vals2 a' c') htr (hm M' a' c') g3 hn hc hh0
            letI := sgL M' (vals2 a' c')
            have hh3 := Here.put (d := op.dst) hh2 hpl hput
            rw [hv M' a' c'] at hh3
            exact rest M' a' c' g2 g4 (fun i hi => (g3.known i hi).2) _ w' hh3
          · cases h
      · cases h
    · cases h
  · cases h

/- what is appended to, what is appended -/

theorem appTo_sym {α : Type} {A : AS} {B : Nat} {M : Mem} {vals : List Value} {e : TypeId} {k : Nat} {enc : α → List Value} {vs u : Value} {l : List α} (hp : plainS vs = true) (ev : @interp (sgL M vals) vs = u) (hO : OArr B M e k enc u l) : ∀ φ w v, @Rel (sgL M vals) φ A w → @VRel (sgL M vals) φ vs v → OArr B M e k enc v l ∧ obl v = obl u := fun φ w v _ hv => by
  letI := sgL M vals
  rw [VRel.eq_of_plainS vs hp hv, ev]
  exact ⟨hO, rfl⟩

theorem appTo_dead {α : Type} {A : AS} {B : Nat} {M : Mem} {vals : List Value} {e : TypeId} {k : Nat} {enc : α → List Value} (hA : Nat.ble A.n dead = true) : ∀ φ w v, @Rel (sgL M vals) φ A w → @VRel (sgL M vals) φ (.slice (some ⟨dead, 0, none⟩) 0 0) v → OArr B M e k enc v ([] : List α) ∧ obl v = none := fun φ w v hr hv => by
  letI := sgL M vals
  have hn : ∀ e, φ dead ≠ some e := fun e h => by
    have h1 := hr.lt h
    have h2 := Nat.le_of_ble_eq_true hA
    omega
  cases hv with
  | slz a' h => rw [h rfl]; exact ⟨OArr.nil _ _ _ _ _ _, obl_zero _ _⟩
  | slx _ _ h => exact absurd h (hn _)
  | slg _ _ c' h hs hc hl => exact absurd h (hn _)

/-- A block of one's own that is no append's. -/
def exactBlk (A : AS) (b : Nat) : Bool := match A.bl.get b with
  | some k => Nat.beq k.stride 0 && !Nat.beq b dead
  | none => false

theorem appTo_blk {α : Type} {A : AS} {B : Nat} {M : Mem} {vals : List Value} {e : TypeId} {k : Nat} {enc : α → List Value} {b o : Nat} (hA : exactBlk A b = true) : ∀ φ w v, @Rel (sgL M vals) φ A w → @VRel (sgL M vals) φ (.slice (some ⟨b, o, none⟩) 0 0) v → OArr B M e k enc v ([] : List α) ∧ obl v = none := fun φ w v hr hv => by
  letI := sgL M vals
  unfold exactBlk at hA
  split at hA
  · rename_i kk hk
    simp only [Bool.and_eq_true, Bool.not_eq_true'] at hA
    cases hv with
    | slz a' h => exact absurd hA.2 (by simp)
    | slx _ _ h => exact ⟨OArr.nil _ _ _ _ _ _, obl_zero _ _⟩
    | slg _ _ c' h hs hc hl =>
      obtain ⟨k', h1, h2, _⟩ := hr.dom _ _ h
      rw [hk] at h1
      cases h1
      have := Nat.eq_of_beq_eq_true hA.1
      omega
  · cases hA

theorem appTo_nil {α : Type} {A : AS} {B : Nat} {M : Mem} {vals : List Value} {e : TypeId} {k : Nat} {enc : α → List Value} : ∀ φ w v, @Rel (sgL M vals) φ A w → @VRel (sgL M vals) φ (.slice none 0 0) v → OArr B M e k enc v ([] : List α) ∧ obl v = none := fun φ w v _ hv => by
  letI := sgL M vals
  cases hv
  exact ⟨OArr.nil _ _ _ _ _ _, rfl⟩

theorem app_sym {α : Type} {M : Mem} {vals : List Value} {A : AS} {k : Nat} {enc : α → List Value} {xv u : Value} {lx : List α} (hp : plainS xv = true) (ev : @interp (sgL M vals) xv = u) (hX : ∀ w, (∀ i o, M i = some o → w.heap[i]? = some o) → Reads w k enc u lx) : ∀ φ w x, @Rel (sgL M vals) φ A w → @VRel (sgL M vals) φ xv x → Reads w k enc x lx := fun φ w x hr hv => by
  letI := sgL M vals
  rw [VRel.eq_of_plainS xv hp hv, ev]
  exact hX w fun i o h => (hr.imm i o h).1

/-- The cells of a slice in the call's own blocks. -/
def cellsAt (A : AS) (k : Nat) : Value → Option (List Value)
  | .slice (some ⟨b, off, none⟩) m _ => match A.loadN b off (m * k) with
    | some vals => bif plainSL vals && (vals.all oneCell && (Nat.blt 0 m && Nat.beq vals.length (m * k))) then some vals else none
    | none => none
  | _ => none

theorem app_cells {α : Type} {M : Mem} {vals : List Value} {A : AS} {k : Nat} {enc : α → List Value} {xv : Value} {cs : List Value} {lx : List α} (h : cellsAt A k xv = some cs) (hk : ∀ x, (enc x).length = k) (hk0 : 0 < k) (he : @interpL (sgL M vals) cs = lx.flatMap enc) : ∀ φ w x, @Rel (sgL M vals) φ A w → @VRel (sgL M vals) φ xv x → Reads w k enc x lx := fun φ w x hr hv => by
  letI := sgL M vals
  unfold cellsAt at h
  split at h
  · rename_i b off m cc
    split at h
    · rename_i vs hl
      cases hp : (plainSL vs && (vs.all oneCell && (Nat.blt 0 m && Nat.beq vs.length (m * k)))) with
      | false => rw [hp] at h; cases h
      | true =>
        rw [hp, cond_true, Option.some.injEq] at h
        subst h
        simp only [Bool.and_eq_true] at hp
        obtain ⟨p2, p3, p4, p5⟩ := hp
        have hm : 0 < m := Nat.blt_eq.mp p4
        have hlen : vs.length = m * k := Nat.eq_of_beq_eq_true p5
        have hml : m = lx.length := by
          have h1 := congrArg List.length he
          rw [interpL_length, hlen, flat_len hk] at h1
          exact Nat.eq_of_mul_eq_mul_right hk0 h1
        have hex : ∃ ee cc', φ b = some ee ∧ x = .slice (some ⟨ee.blk, ee.sh + off, none⟩) m cc' := by
          cases hv with
          | slz a' h => exact absurd hm (by omega)
          | slx _ _ h => exact ⟨_, _, h, rfl⟩
          | slg _ _ c' h _ _ _ => exact ⟨_, _, h, rfl⟩
        obtain ⟨ee, cc', hb, rfl⟩ := hex
        refine ⟨_, _, by rw [hml], (fun h => by cases h), fun ad had j u hj => ?_⟩
        cases had
        rw [← he] at hj
        obtain ⟨q1, q2⟩ := loadN_spec hl
        have hjl : j < vs.length := by
          have := (List.getElem?_eq_some_iff.1 hj).1
          rwa [interpL_length] at this
        obtain ⟨v', g1, g2⟩ := rel_load hr (q2 j (by omega)) hb
        rw [Addr.add_at, Nat.add_assoc, g1]
        have pj : plainS (vs.getD j undef) = true := by
          rw [List.getD_eq_getElem?_getD, List.getElem?_eq_getElem hjl]
          exact plainSL_mem p2 (List.getElem_mem hjl)
        rw [VRel.eq_of_plainS _ pj g2]
        rw [interpL_map, List.getElem?_map, List.getElem?_eq_getElem hjl] at hj
        rw [List.getD_eq_getElem?_getD, List.getElem?_eq_getElem hjl]
        simpa using hj
    · cases h
  · cases h

/- A CALL THAT TURNS KNOWN MEMORY -/

theorem ostop_callT [Outer] {P : Program} {N B : Nat} {w0 : World} {Q : Exit → Act → World → Prop} {M : Mem} {vals : List Value} {o : Option Stop} {f : FuncId} {args : List Value} {vR : Value} {Y : Type} {vals2 : Y → List Value} {sl2 sl3 : Sl} {bks : List Bk} {obs : Obs} {T : Option Nat} {R : Y → Mem → Prop}
    (h : callAt P o = some (f, args)) (htr : trAll (stopSt o) sl2 bks = some obs) (hput : aput N sl2 (stopDst o) vR = some sl3) (hpl : plainS vR = true)
    (hcon : ∀ w, (∀ i o, M i = some o → w.heap[i]? = some o) → B ≤ w.heap.size → Calls P f ⟨@interpL (sgL M vals) args⟩ w fun e w' => ∃ y M', e = .returned (@interp (sgL M' (vals2 y)) vR) ∧ R y M' ∧ Turns B M M' T w w')
    (hm : ∀ M' y, R y M' → Meet (sgL M vals) (sgL M' (vals2 y)) obs)
    (rest : ∀ M' y, R y M' → ∀ a' w, @Here (sgL M' (vals2 y)) _ N { sl := sl3, ms := [], A := mkAS bks } B w0 a' w → wpListIn (Fr none) 0 P (stopOps o) (KQ P (stopKs o) Q) (stopRest o) a' w)
    (hn : Outer.n0 ≤ bks.length := by first | exact Nat.zero_le _ | exact Nat.le_of_ble_eq_true rfl) (hc : SameC (stopSt o).A bks 0 := by exact sameC_none rfl) : @OStop (sgL M vals) _ P N B w0 Q o := by
  letI := sgL M vals
  refine ostop_call (R := fun w v w' => ∃ y M', v = @interp (sgL M' (vals2 y)) vR ∧ R y M' ∧ Turns B M M' T w w') h (fun a w hh => (hcon w hh.immW hh.size).mono fun e w' he => ?_) fun a w v w' hh hR => ?_
  · obtain ⟨y, M', rfl, h1, h2⟩ := he
    exact ⟨_, rfl, y, M', rfl, h1, h2⟩
  · obtain ⟨y, M', rfl, h1, h2⟩ := hR
    have hh2 := Here.turns (vals' := vals2 y) htr (hm M' y h1) h2 hn hc hh
    exact rest M' y h1 _ w' (@Here.put (sgL M' (vals2 y)) _ _ _ _ _ _ _ _ _ _ hh2 hpl hput)

/-- A call that hands back a new array, met where memory is known by M. -/
theorem turns_new {α : Type} {B : Nat} {M : Mem} {e : TypeId} {k : Nat} {enc : α → List Value} {v : Value} {l : List α} {w w' : World} (hw : ∀ i o, M i = some o → w.heap[i]? = some o) (hB : B ≤ w.heap.size) (hO : OArr w.heap.size (heapOf w') e k enc v l) (hb : Low w.heap.size w w') :
    OArr B (memTo M w' none (obl v)) e k enc v l ∧ Turns B M (memTo M w' none (obl v)) none w w' ∧ Keeps M (memTo M w' none (obl v)) none := by
  obtain ⟨q1, q2⟩ := turns_memTo (B := B) (M := M) (T := none) (U := obl v) hw (fun i h => by cases h) (fun i hi => .inr (hO.known i hi).2) ⟨hb.below.os, hb.below.tape, hb.below.output⟩ hb.drawn hb.size (fun i hi _ => hb.block i hi)
  refine ⟨hO.mono hB fun i hi o ho => ?_, q1, q2⟩
  unfold memTo
  rw [if_pos hi]
  exact ho

/- DRAWN REGIONS BY ALL THEIR ORDERS -/

def ordersOf (ops : Array Oper) : Nat → Array Bool → List (List Nat)
  | 0, _ => [[]]
  | fuel + 1, listed => bif (Region.ready .any ops listed).isEmpty then [[]] else (Region.ready .any ops listed).flatMap fun i => (ordersOf ops fuel (listed.setIfInBounds i true)).map fun r => i :: r

theorem orders_spec (ops : Array Oper) : ∀ (fuel t : Nat) (listed : Array Bool), Region.linearise.go .any ops fuel t listed [] ∈ ordersOf ops fuel listed
  | 0, t, listed => by simp [Region.linearise.go, ordersOf]
  | fuel + 1, t, listed => by
    simp only [Region.linearise.go]
    change (match (Region.ready .any ops listed)[t % (Region.ready .any ops listed).length]? with
      | some i => Region.linearise.go .any ops fuel (t / (Region.ready .any ops listed).length) (listed.setIfInBounds i true) [i]
      | none => [].reverse) ∈ _
    unfold ordersOf
    cases hi : (Region.ready .any ops listed)[t % (Region.ready .any ops listed).length]? with
    | none =>
      cases hr : Region.ready .any ops listed with
      | nil => simp
      | cons x xs =>
        rw [hr] at hi
        have hlt : t % (x :: xs).length < (x :: xs).length := Nat.mod_lt _ (by simp)
        simp at hi
        simp at hlt
        omega
    | some i =>
      have hm := List.mem_of_getElem? hi
      simp only []
      rw [linearise_go_acc, List.reverse_singleton, List.singleton_append]
      cases he : (Region.ready .any ops listed).isEmpty with
      | true => rw [List.isEmpty_iff.1 he] at hm; cases hm
      | false =>
        rw [cond_false]
        exact List.mem_flatMap.2 ⟨i, hm, List.mem_map.2 ⟨_, orders_spec ops fuel _ _, rfl⟩⟩

theorem wpOps_list {F : Fence} {n : Nat} {P : Program} {ops : Array Oper} {Q : Exit → Act → World → Prop} : ∀ (l : List Nat) (r : List Oper), l.map (fun i => ops[i]?) = r.map some → ∀ a w, wpListIn F n P ops Q r a w → wpOpsIn F n P ops Q l a w
  | [], [], _, a, w, h => by simpa [wpOpsIn, wpListIn] using h
  | [], _ :: _, h, _, _, _ => by simp at h
  | _ :: _, [], h, _, _, _ => by simp at h
  | i :: l, o :: r, h, a, w, hw => by
    simp only [List.map_cons, List.cons.injEq] at h
    rw [wpOpsIn_cons]
    unfold wpOpIn
    rw [h.1]
    simp only
    unfold wpListIn at hw
    split
    · rename_i hwant
      rw [if_pos hwant] at hw
      exact Oper.wpIn_mono (fun a w hq => wpOps_list l r h.2 a w hq) hw
    · rename_i hwant
      rw [if_neg hwant] at hw
      exact ⟨hw.1, wpOps_list l r h.2 _ w hw.2⟩

def drawOps : Option Stop → Array Oper
  | some (.draw _ ops _ _) => ops
  | _ => #[]
def ordersAt : Option Stop → List (List Nat)
  | some (.draw _ ops _ _) => ordersOf ops ops.size (Array.replicate ops.size false)
  | _ => []
/-- The operations in the order j. -/
def drawList (o : Option Stop) (j : Nat) : List Oper := ((ordersAt o).getD j []).filterMap fun i => (drawOps o)[i]?
def drawOk (o : Option Stop) (n : Nat) : Bool := (ordersAt o).all (fun l => l.all fun i => Nat.blt i (drawOps o).size) && (Nat.beq (ordersAt o).length n && Nat.blt 0 n)

theorem ostop_draw [Sig] [Outer] {P : Program} {N B : Nat} {w0 : World} {Q : Exit → Act → World → Prop} {o : Option Stop} {n : Nat} (hmix : P.follows .mixedOrders = true) (h : drawOk o n = true)
    (rest : ∀ j, j < n → ∀ a w, Here N (stopSt o) B w0 a w → wpListIn (Fr none) 0 P (drawOps o) (KQ P (stopKs o) Q) (drawList o j) a w) : OStop P N B w0 Q o := by
  unfold drawOk at h
  simp only [Bool.and_eq_true] at h
  obtain ⟨h1, h2, h3⟩ := h
  have hlen := Nat.eq_of_beq_eq_true h2
  have hpos := Nat.blt_eq.mp h3
  match o, h1, hlen, rest with
  | some (.draw id ops s ks), h1, hlen, rest =>
    refine ⟨_, rfl, fun a w hh => wpIn_region_draw fun t => ?_⟩
    have hq : Here N s B w0 a { w with drawn := w.drawn + 1 } := hh.quiet ⟨⟨rfl, rfl, rfl, Nat.le_refl _, fun _ _ => rfl⟩, Nat.le_succ _⟩
    have hmem : Region.schedule (P.follows .mixedOrders) ops t ∈ ordersAt (some (.draw id ops s ks)) := by
      simp only [Region.schedule, hmix, Bool.true_or, if_true]
      exact orders_spec ops ops.size t _
    obtain ⟨j, hj, he⟩ := List.mem_iff_getElem.1 hmem
    have hr := rest j (by omega) a _ hq
    refine wpOps_list _ (drawList (some (.draw id ops s ks)) j) ?_ a _ hr
    rw [← he]
    unfold drawList
    rw [List.getD_eq_getElem?_getD, List.getElem?_eq_getElem hj]
    have hall := List.all_eq_true.1 h1 _ (List.getElem_mem hj)
    generalize (ordersAt (some (.draw id ops s ks)))[j] = l at hall
    show l.map (fun i => ops[i]?) = (l.filterMap fun i => ops[i]?).map some
    clear he
    induction l with
    | nil => rfl
    | cons i l ih =>
      have hi : i < ops.size := Nat.blt_eq.mp (List.all_eq_true.1 hall i (by simp))
      rw [List.map_cons, List.filterMap_cons, Array.getElem?_eq_getElem hi]
      simp only [List.map_cons]
      rw [ih (List.all_eq_true.2 fun x hx => List.all_eq_true.1 hall x (List.mem_cons_of_mem _ hx))]
  | none, h1, hlen, rest => simp only [ordersAt, List.length_nil] at hlen; omega
  | some (.done _ _), h1, hlen, rest => simp only [ordersAt, List.length_nil] at hlen; omega
  | some (.loop _ _ _), h1, hlen, rest => simp only [ordersAt, List.length_nil] at hlen; omega
  | some (.oper _ _ _ _ _), h1, hlen, rest => simp only [ordersAt, List.length_nil] at hlen; omega
  | some (.range _ _ _ _ _ _), h1, hlen, rest => simp only [ordersAt, List.length_nil] at hlen; omega

theorem below0 {p : Nat → Prop} : ∀ j, j < 0 → p j := fun j h => absurd h (Nat.not_lt_zero j)
theorem belowS {p : Nat → Prop} {n : Nat} (h : ∀ j, j < n → p j) (h2 : p n) : ∀ j, j < n + 1 → p j := fun j hj => by
  rcases Nat.lt_succ_iff_lt_or_eq.1 hj with h3 | rfl
  · exact h j h3
  · exact h2

/- SMALL LEMMAS FOR PRINTED WALKS -/

theorem lenMax {n : Nat} (h : n ≤ 1000000) : n ≤ maxLen := Nat.le_trans h (by unfold maxLen; decide)

theorem newOf {α : Type} {P : Program} {f : FuncId} {args : Array Value} {B : Nat} {M : Mem} {e : TypeId} {k : Nat} {enc : α → List Value} {l : List α} {w : World} {vR : Value} {vals2 : Option Addr × Nat → List Value} (hw : ∀ i o, M i = some o → w.heap[i]? = some o) (hB : B ≤ w.heap.size)
    (hv : ∀ y M', @interp (sgL M' (vals2 y)) vR = .slice y.1 l.length y.2) (h : Calls P f args w fun e' w' => (∃ a c, e' = .returned (.slice a l.length c) ∧ OArr w.heap.size (heapOf w') e k enc (.slice a l.length c) l) ∧ Low w.heap.size w w') :
    Calls P f args w fun e' w' => ∃ y M', e' = .returned (@interp (sgL M' (vals2 y)) vR) ∧ (OArr B M' e k enc (.slice y.1 l.length y.2) l ∧ Keeps M M' none) ∧ Turns B M M' none w w' :=
  h.mono fun e' w' he => by
    obtain ⟨⟨a, c, rfl, hO⟩, hb⟩ := he
    obtain ⟨q1, q2, q3⟩ := turns_new hw hB hO hb
    exact ⟨(a, c), _, by rw [hv], ⟨q1, q3⟩, q2⟩

theorem inplOf {P : Program} {f : FuncId} {args : Array Value} {B : Nat} {M : Mem} {w : World} {vR r : Value} {vals2 : List Value} {T : Option Nat} {R : Mem → Prop} (hv : ∀ M', @interp (sgL M' vals2) vR = r)
    (h : Calls P f args w fun e' w' => e' = .returned r ∧ ∃ M', R M' ∧ Turns B M M' T w w') :
    Calls P f args w fun e' w' => ∃ (_ : Unit) (M' : Mem), e' = .returned (@interp (sgL M' vals2) vR) ∧ R M' ∧ Turns B M M' T w w' :=
  h.mono fun e' w' he => by
    obtain ⟨rfl, M', h1, h2⟩ := he
    exact ⟨(), M', by rw [hv], h1, h2⟩

theorem meetS {M M' : Mem} {vals vals' : List Value} {a b : Nat} {ad : Option Addr} {n n' c : Nat} (h1 : oneC (vals.getD a (.bool false)) = .slice ad n c) (h2 : oneC (vals'.getD b (.bool false)) = .slice ad n' c) (h : n = n') : @interp (sgL M vals) (symv a) = @interp (sgL M' vals') (symv b) := by
  subst h
  exact meetV _ h1 h2

theorem Arr.isNil {α : Type} {M : Mem} {k : Nat} {enc : α → List Value} {n c : Nat} {l : List α} (h : Arr M k enc (.slice none n c) l) : l = [] := by cases h; rfl

theorem newEnd_nil {α : Type} {B : Nat} {M : Mem} {e : TypeId} {k : Nat} {enc : α → List Value} {l : List α} (h : l = []) : ∃ a c, Ending.returned (.slice none 0 0) = .returned (.slice a l.length c) ∧ OArr B M e k enc (.slice a l.length c) l := by
  subst h
  exact ⟨none, 0, rfl, OArr.nil _ _ _ _ _ _⟩

theorem newEnd {α : Type} {B : Nat} {M : Mem} {e : TypeId} {k : Nat} {enc : α → List Value} {l b : List α} {a : Option Addr} {c : Nat} {w : World} (hO : OArr B M e k enc (.slice a b.length c) b) (hb : b = l) (hi : ∀ i o, M i = some o → w.heap[i]? = some o) : ∃ a' c', Ending.returned (.slice a b.length c) = .returned (.slice a' l.length c') ∧ OArr B (heapOf w) e k enc (.slice a' l.length c') l := by
  subst hb
  exact ⟨a, c, rfl, hO.mono (Nat.le_refl _) fun i _ o ho => hi i o ho⟩

section
variable [Sig] {P : Program}

omit [Sig] in
theorem run_sliceNil {op : BinOp} {t e : TypeId} (ht : P.underlying t = some (.slice e)) (a : Option Addr) (n c : Nat) (xo yo : Operand) (w : World) (hop : op = .eql ∨ op = .neq) :
    (semF xo yo (.bin op t (.slice a n c) (.slice none 0 0))).run P w = .ok (.value (.bool (if op = .eql then a.isNone else !a.isNone))) w := by
  have he : (Op.equal t (.slice a n c) (.slice none 0 0)).run P w = .ok a.isNone w := by
    unfold Op.equal Op.maxDepth
    exact Lib.run_equalIn_slice_nil w 9999 t e a n c 0 0 ht
  rcases hop with rfl | rfl <;> unfold semF <;> simp [eqGuard, binOp, he]

theorem FactOk.nilEqT {t e : TypeId} {x : Value} {a : Option Addr} {n c : Nat} (hx : plainS x = true) (ht : P.underlying t = some (.slice e)) (ex : interp x = .slice a n c) (h : a = none) : FactOk P (.bin .eql t x (.slice none 0 0), .bool true) :=
  fact_bin hx rfl rfl ex rfl fun xo yo w => (run_sliceNil ht a n c xo yo w (.inl rfl)).trans (by rw [h]; rfl)
theorem FactOk.nilEqF {t e : TypeId} {x : Value} {a : Option Addr} {n c : Nat} (hx : plainS x = true) (ht : P.underlying t = some (.slice e)) (ex : interp x = .slice a n c) (h : ¬ a = none) : FactOk P (.bin .eql t x (.slice none 0 0), .bool false) :=
  fact_bin hx rfl rfl ex rfl fun xo yo w => (run_sliceNil ht a n c xo yo w (.inl rfl)).trans (by
    cases a with
    | none => exact absurd rfl h
    | some a => rfl)
theorem FactOk.nilNeT {t e : TypeId} {x : Value} {a : Option Addr} {n c : Nat} (hx : plainS x = true) (ht : P.underlying t = some (.slice e)) (ex : interp x = .slice a n c) (h : a = none) : FactOk P (.bin .neq t x (.slice none 0 0), .bool false) :=
  fact_bin hx rfl rfl ex rfl fun xo yo w => (run_sliceNil ht a n c xo yo w (.inr rfl)).trans (by rw [h]; rfl)
theorem FactOk.nilNeF {t e : TypeId} {x : Value} {a : Option Addr} {n c : Nat} (hx : plainS x = true) (ht : P.underlying t = some (.slice e)) (ex : interp x = .slice a n c) (h : ¬ a = none) : FactOk P (.bin .neq t x (.slice none 0 0), .bool true) :=
  fact_bin hx rfl rfl ex rfl fun xo yo w => (run_sliceNil ht a n c xo yo w (.inr rfl)).trans (by
    cases a with
    | none => exact absurd rfl h
    | some a => rfl)
end

end AE
end Go.Proofs.YtheaofepenbcgaaGreatDoor

/- Stamps in the walks: how they lie in memory, their equality, small lemmas for facts. -/
namespace Go.Proofs.YtheaofepenbcgaaGreatDoor
open Go Go.Proofs Go.RowKit
namespace AE

theorem boolT {p : Prop} [Decidable p] (h : p) : Value.bool true = .bool (decide p) := by rw [decide_eq_true h]
theorem boolF {p : Prop} [Decidable p] (h : ¬ p) : Value.bool false = .bool (decide p) := by rw [decide_eq_false h]
theorem nboolT {p : Prop} [Decidable p] (h : ¬ p) : Value.bool true = .bool (!decide p) := by rw [decide_eq_false h]; rfl
theorem nboolF {p : Prop} [Decidable p] (h : p) : Value.bool false = .bool (!decide p) := by rw [decide_eq_true h]; rfl
theorem intI {a b : Int} (h : a = b) (h1 : -9223372036854775808 ≤ a) (h2 : a ≤ 9223372036854775807) : Value.int .i64 a = .int .i64 (IntKind.i64.wrap b) := by rw [← h, wrap64 h1 h2]
theorem getSome {α : Type} [Inhabited α] {l : List α} {i : Nat} (h : i < l.length) : l[i]? = some (l.getD i default) := by rw [List.getD_eq_getElem?_getD, List.getElem?_eq_getElem h]; rfl

abbrev St := Int × Int × Int × Int
abbrev St.val (x : St) : Value := stV x.1 x.2.1 x.2.2.1 x.2.2.2
abbrev encS (x : St) : List Value := [.int .i64 x.1, .int .i64 x.2.1, .int .i64 x.2.2.1, .int .i64 x.2.2.2]

theorem under27 : Tryz.prog.underlying 22 = some (.slice 24) := by kernel_rfl
theorem sizeSt : pureRun Tryz.prog (sizeOf 24) = some 4 := by kernel_rfl
theorem aggSt : pureRun Tryz.prog (isAgg 24) = some true := by kernel_rfl

theorem eqSt_iff (p q : St) : eqSt p.1 p.2.1 p.2.2.1 p.2.2.2 q.1 q.2.1 q.2.2.1 q.2.2.2 = decide (p = q) := by
  obtain ⟨a, b, c, d⟩ := p
  obtain ⟨a', b', c', d'⟩ := q
  unfold eqSt
  simp

theorem neqS {x y : Value} {p q : St} [Sig] (hx : plainS x = true) (hy : plainS y = true) (ex : interp x = p.val) (ey : interp y = q.val) {d : Bool} (hd : d = !decide (p = q)) : FactOk Tryz.prog (.bin .neq 24 x y, .bool d) := by
  refine fact_bin hx hy rfl ex ey fun xo yo w => ?_
  unfold semF
  simp only [Sem.run_bind, run_eqGuard_agg w .neq _ xo yo _ _ guardS, Result.andThen_ok, run_neq_struct, run_eqSt, hd, eqSt_iff]
  rfl

theorem eqS {x y : Value} {p q : St} [Sig] (hx : plainS x = true) (hy : plainS y = true) (ex : interp x = p.val) (ey : interp y = q.val) {d : Bool} (hd : d = decide (p = q)) : FactOk Tryz.prog (.bin .eql 24 x y, .bool d) := by
  refine fact_bin hx hy rfl ex ey fun xo yo w => ?_
  unfold semF
  simp only [Sem.run_bind, run_eqGuard_agg w .eql _ xo yo _ _ guardS, Result.andThen_ok, run_eql_struct, run_eqSt, hd, eqSt_iff]
  rfl

/-- What a valid stamp is. -/
def ValidP (x : St) : Prop := 0 ≤ x.1 ∧ x.1 ≤ 4000 ∧ 1 ≤ x.2.1 ∧ x.2.1 ≤ 1000000 ∧ 1 ≤ x.2.2.1 ∧ x.2.2.1 ≤ 8 ∧ 1 ≤ x.2.2.2 ∧ x.2.2.2 ≤ 1000
instance (x : St) : Decidable (ValidP x) := by unfold ValidP; infer_instance

theorem sameAll {la lb : List St} {i : Nat} (h : ∀ j, j < i → la[j]? = lb[j]?) (h1 : la.length ≤ i) (h2 : lb.length ≤ i) : la = lb := List.ext_getElem? fun j => by
  rcases Nat.lt_or_ge j i with hj | hj
  · exact h j hj
  · rw [List.getElem?_eq_none (by omega), List.getElem?_eq_none (by omega)]

abbrev cmpS (p q : St) : Int := cmpI p.1 p.2.1 p.2.2.1 p.2.2.2 q.1 q.2.1 q.2.2.1 q.2.2.2

end AE
end Go.Proofs.YtheaofepenbcgaaGreatDoor

/- Stamps: facts of their type for arrays of the call's own. -/
namespace Go.Proofs.YtheaofepenbcgaaGreatDoor
open Go Go.Proofs Go.RowKit
namespace AE

theorem sizeInt1 : pureRun Tryz.prog (sizeOf 3) = some 1 := by kernel_rfl
abbrev elS : TypeId := 24
theorem pUnderS : pureRun Tryz.prog (underlying elS) = some (.struct (Tryz.prog.fieldsOf 24)) := by kernel_rfl
theorem underSl : Tryz.prog.underlying 22 = some (.slice elS) := by kernel_rfl
noncomputable def infoTS : TypeInfo := (Tryz.prog.info? elS).getD default
theorem infoS : Tryz.prog.info? elS = some infoTS := by kernel_rfl
theorem zeroS : infoTS.zero = some (.agg ⟨[.int .i64 0, .int .i64 0, .int .i64 0, .int .i64 0]⟩) := by kernel_rfl
theorem iszS : infoTS.size = 4 := by kernel_rfl
abbrev bytesS : Nat := 32
theorem ibyS : infoTS.bytes = bytesS := by kernel_rfl
theorem zszS : (Value.agg ⟨[.int .i64 0, .int .i64 0, .int .i64 0, .int .i64 0]⟩).cells.size = 4 := rfl
theorem hkS : ∀ x, (encS x).length = 4 := fun _ => rfl
theorem honeS : ∀ x, ∀ u ∈ encS x, u.oneCell' = true := fun x u hu => by
  simp only [encS, List.mem_cons, List.not_mem_nil, or_false] at hu
  rcases hu with rfl | rfl | rfl | rfl <;> rfl

theorem natI {a : Int} (h : 0 ≤ a) : Value.int .i64 a = .int .i64 ((a.toNat : Nat) : Int) := by rw [Int.toNat_of_nonneg h]

theorem fieldS (i : Nat) (hi : i < 4) : ∃ fl, (Tryz.prog.fieldsOf 24)[i]? = some fl ∧ fl.type = 3 ∧ fl.offset = i := by
  have h1 := congrArg (fun l => l[i]?) fieldsS1
  have h2 := congrArg (fun l => l[i]?) fieldsS2
  simp only [List.getElem?_map, Array.getElem?_toList] at h1 h2
  cases h : (Tryz.prog.fieldsOf 24)[i]? with
  | none =>
    rw [h] at h1
    rcases (by omega : i = 0 ∨ i = 1 ∨ i = 2 ∨ i = 3) with rfl | rfl | rfl | rfl <;> cases h1
  | some fl =>
    rw [h] at h1 h2
    refine ⟨fl, rfl, ?_, ?_⟩
    · rcases (by omega : i = 0 ∨ i = 1 ∨ i = 2 ∨ i = 3) with rfl | rfl | rfl | rfl <;>
        · simp only [Option.map_some, List.getElem?_cons_zero, List.getElem?_cons_succ, Option.some.injEq, Prod.mk.injEq] at h1
          exact h1.2
    · rcases (by omega : i = 0 ∨ i = 1 ∨ i = 2 ∨ i = 3) with rfl | rfl | rfl | rfl <;>
        · simp only [Option.map_some, List.getElem?_cons_zero, List.getElem?_cons_succ, Option.some.injEq] at h2
          exact h2

theorem arrFaS [Sig] {α : Type} {k : Nat} {enc : α → List Value} {v : Value} {l : List α} (f : Nat) (hf : f < 4) (h : Arr Sig.imm k enc v l) {n : Nat} (hn : n < l.length) {x r : Value} {o : Nat} (hx : plainS x = true) (hr : plainS r = true) (ex : interp x = cellPtr v o) (er : interp r = cellPtr v (o + f)) : FactOk Tryz.prog (.fa elS x f, r) := by
  obtain ⟨fl, h1, h2, h3⟩ := fieldS f hf
  obtain ⟨b, off, c, _, _, _, hv, _⟩ := h.at' (List.getElem?_eq_getElem hn)
  exact FactOk.arrFa (n := 1) hx hr pUnderS h1 (by rw [h2]; exact sizeInt1) (by decide) ⟨b, off, _, c, hv⟩ (by rw [h3]) ex er

section
variable [Sig] {α : Type} {k : Nat} {enc : α → List Value} {v : Value} {l : List α} {n o : Nat} {x r : Value}
theorem arrFa0 (h : Arr Sig.imm k enc v l) (hn : n < l.length) (hx : plainS x = true) (hr : plainS r = true) (ex : interp x = cellPtr v o) (er : interp r = cellPtr v (o + 0)) : FactOk Tryz.prog (.fa elS x 0, r) := arrFaS 0 (by omega) h hn hx hr ex er
theorem arrFa1 (h : Arr Sig.imm k enc v l) (hn : n < l.length) (hx : plainS x = true) (hr : plainS r = true) (ex : interp x = cellPtr v o) (er : interp r = cellPtr v (o + 1)) : FactOk Tryz.prog (.fa elS x 1, r) := arrFaS 1 (by omega) h hn hx hr ex er
theorem arrFa2 (h : Arr Sig.imm k enc v l) (hn : n < l.length) (hx : plainS x = true) (hr : plainS r = true) (ex : interp x = cellPtr v o) (er : interp r = cellPtr v (o + 2)) : FactOk Tryz.prog (.fa elS x 2, r) := arrFaS 2 (by omega) h hn hx hr ex er
theorem arrFa3 (h : Arr Sig.imm k enc v l) (hn : n < l.length) (hx : plainS x = true) (hr : plainS r = true) (ex : interp x = cellPtr v o) (er : interp r = cellPtr v (o + 3)) : FactOk Tryz.prog (.fa elS x 3, r) := arrFaS 3 (by omega) h hn hx hr ex er
end

end AE
end Go.Proofs.YtheaofepenbcgaaGreatDoor

/- Arguments of the stamps' laws, opened: a stamp, a slice of stamps; arguments read in a world that has grown. -/
namespace Go.Proofs.YtheaofepenbcgaaGreatDoor
open Go Go.ChangeShapes Go.WideShapes Go.ChangeAt Go.RowKit
set_option maxRecDepth 100000

theorem own : ownKnob Tryz.prog.godebug = none := by kernel_rfl
theorem laidOut : laidOutB Tryz.prog = true := by kernel_rfl

/-- Arguments read in a world that has grown as they did before. -/
theorem trodAll_below {H : Type} {enc : TypeId × Value → H} {P : Program} (hl : laidOutB P = true) {W W' : World} (hb : Below W.heap.size W W') : ∀ (ts : List TypeId) (vs : List Value) (ds : List (DataW H)) (ps : List MemPlace),
    ts.all (fun t => P.readableRec t && decide (t < P.types.size)) = true → DataW.TrodAll enc P W 0 (fun _ => true) true ts vs ds ps → (∀ x ∈ ps, x.block < W.heap.size) → DataW.TrodAll enc P W' 0 (fun b => decide (b < W.heap.size)) true ts vs ds ps
  | [], [], [], ps, _, h, _ => h
  | t :: ts, v :: vs, d :: ds, ps, ht, h, hlt => by
    obtain ⟨p, q, h1, h2, rfl⟩ := h
    simp only [List.all_cons, Bool.and_eq_true, decide_eq_true_eq] at ht
    exact ⟨p, q, Below.trod hl ht.1.1 ht.1.2 h1 hb (fun x hx => hlt x (List.mem_append_left _ hx)), trodAll_below hl hb ts vs ds q ht.2 h2 fun x hx => hlt x (List.mem_append_right _ hx), rfl⟩
  | [], _ :: _, _, _, _, h, _ => by cases h
  | [], [], _ :: _, _, _, h, _ => by cases h
  | _ :: _, [], _, _, _, h, _ => by cases h
  | _ :: _, _ :: _, [], _, _, h, _ => by cases h

theorem cellsS : Tryz.prog.cellsOf 24 = 4 := by kernel_rfl
theorem cellsInt : Tryz.prog.cellsOf 3 = 1 := by kernel_rfl

section
variable {H : Type} {enc : TypeId × Value → H} {W : World} {r : Reach} {b0 : Nat} {base : Nat} {spare : Nat → Bool} {held : Bool} {v : Value} {d : DataW H} {p : List MemPlace}

/-- A stamp among the arguments. -/
theorem open_stamp (hv : Value.okWide Tryz.prog W r b0 24 v)
    (h : DataW.Trod enc Tryz.prog W base spare held 24 v d p) : ∃ t c s q : Int, v = AE.stV t c s q := by
  obtain ⟨v0, v1, v2, v3, y0, y1, y2, y3, n, rfl, _, _, h0, h1, h2, h3⟩ := Joins.open_agg4 Tryz.underlying24 (by kernel_rfl) cellsS hv h
  obtain ⟨t, e0, _⟩ := DataW.trod_int Tryz.underlying3 h0
  obtain ⟨c, e1, _⟩ := DataW.trod_int Tryz.underlying3 h1
  obtain ⟨s, e2, _⟩ := DataW.trod_int Tryz.underlying3 h2
  obtain ⟨q, e3, _⟩ := DataW.trod_int Tryz.underlying3 h3
  simp only [List.cons.injEq, and_true] at e0 e1 e2 e3
  exact ⟨t, c, s, q, by rw [e0, e1, e2, e3]⟩

/-- An int among the arguments. -/
theorem open_num (hv : Value.okWide Tryz.prog W r b0 3 v) (h : DataW.Trod enc Tryz.prog W base spare held 3 v d p) : ∃ n : Int, v = .int .i64 n := by
  obtain ⟨n, rfl⟩ := okWide_int Tryz.underlying3 hv
  exact ⟨n, rfl⟩

/-- The four cells of a stamp in memory. -/
theorem trod_stamp {n : Nat} {cs : List Value} {x : DataW H × List MemPlace} (h : DataW.trod enc Tryz.prog W base spare held n 24 cs = some x) : ∃ s : AE.St, cs = AE.encS s := by
  obtain ⟨xs, m, _, _, hlen, hxl, hf⟩ := DataW.trod_struct AE.underS h
  rw [cellsS] at hlen
  have hi : ∀ i, i < 4 → ∃ z : Int, (cs.drop i).take 1 = [.int .i64 z] := fun i h4 => by
    obtain ⟨fl, h1, h2, h3⟩ := AE.fieldS i h4
    have h5 := hf i fl h1
    rw [h2, h3, cellsInt] at h5
    have hlt : i < xs.length := by rw [hxl]; exact (Array.getElem?_eq_some_iff.1 h1).1
    rw [List.getElem?_eq_getElem hlt] at h5
    obtain ⟨z, e, _⟩ := DataW.trod_int Tryz.underlying3 h5
    exact ⟨z, e⟩
  obtain ⟨z0, e0⟩ := hi 0 (by omega)
  obtain ⟨z1, e1⟩ := hi 1 (by omega)
  obtain ⟨z2, e2⟩ := hi 2 (by omega)
  obtain ⟨z3, e3⟩ := hi 3 (by omega)
  match cs, hlen, e0, e1, e2, e3 with
  | [c0, c1, c2, c3], _, e0, e1, e2, e3 =>
    simp only [List.drop_zero, List.drop_succ_cons, List.take_succ_cons, List.take_zero, List.cons.injEq, and_true] at e0 e1 e2 e3
    exact ⟨(z0, z1, z2, z3), by rw [e0, e1, e2, e3]⟩

/-- A slice of stamps among the arguments, as a list. -/
theorem open_stamps (hv : Value.okWide Tryz.prog W r b0 22 v) (h : DataW.Trod enc Tryz.prog W base spare held 22 v d p) : ∃ l : List AE.St, AE.Arr (AE.heapOf W) 4 AE.encS v l := by
  obtain ⟨a0, len0, cap0, rfl⟩ := okWide_slice Tryz.underlying22 hv
  obtain ⟨fuel, h⟩ := h
  rcases Deep.open_slice Tryz.underlying22 h with ⟨hcs, _⟩ | ⟨a, len, cap, m, n, D, Pl, hcs, hb, hl, hm, hmm, hx, hi⟩
  · have e : Value.slice a0 len0 cap0 = .slice none 0 0 := (List.cons.inj (show [Value.slice a0 len0 cap0] = [.slice none 0 0] from hcs)).1
    rw [e]
    exact ⟨[], .nil _ _⟩
  · have e : Value.slice a0 len0 cap0 = .slice (some a) len cap := (List.cons.inj (show [Value.slice a0 len0 cap0] = [.slice (some a) len cap] from hcs)).1
    rw [e]
    have hml : len ≤ m := by rw [hmm]; split <;> omega
    have hel : ∀ i, i < len → ∃ s : AE.St, ∀ j u, (AE.encS s)[j]? = some u → W.cell? (a.add (i * 4 + j)) = some u := fun i hil => by
      obtain ⟨cs', hc, ht⟩ := hi i (by omega)
      rw [cellsS] at hc
      obtain ⟨s, rfl⟩ := trod_stamp ht
      obtain ⟨_, _, hat⟩ := World.cells?_some hc
      refine ⟨s, fun j u hj => ?_⟩
      have hj4 : j < 4 := (List.getElem?_eq_some_iff.1 hj).1
      rw [← Deep.add_add, hat j hj4]
      exact hj
    let f : Nat → AE.St := fun i => if h : i < len then (hel i h).choose else default
    have hf : ∀ i, i < len → ∀ j u, (AE.encS (f i))[j]? = some u → W.cell? (a.add (i * 4 + j)) = some u := fun i hil => by
      show ∀ j u, (AE.encS (if h : i < len then (hel i h).choose else default))[j]? = some u → _
      rw [dif_pos hil]
      exact (hel i hil).choose_spec
    refine ⟨(List.range len).map f, ?_⟩
    rcases Nat.eq_zero_or_pos len with h0 | h0
    · subst h0
      exact .nil _ _
    · have hc0 := hf 0 h0 0 _ rfl
      obtain ⟨blk, off, spot⟩ := a
      have hsome : ∃ cs ty fr, W.heap[blk]? = some (.cells cs ty fr) ∧ spot = none := by
        unfold World.cell? at hc0
        split at hc0
        · rename_i c1 t1 f1 hb1
          split at hc0
          · cases hc0
          · rename_i hsp
            refine ⟨c1, t1, f1, hb1, ?_⟩
            cases spot with
            | none => rfl
            | some x => exact absurd rfl hsp
        · cases hc0
      obtain ⟨cs, ty, fr, hblk, rfl⟩ := hsome
      have hlen : ((List.range len).map f).length = len := by simp
      have key : AE.Arr (AE.heapOf W) 4 AE.encS (.slice (some ⟨blk, off, none⟩) ((List.range len).map f).length cap) ((List.range len).map f) := by
        refine .mk (cs := cs) (ty := ty) (fr := fr) hblk (by rw [hlen]; exact hl) fun i x hx j u hj => ?_
        have hil : i < len := by
          have := (List.getElem?_eq_some_iff.1 hx).1
          rwa [hlen] at this
        have hxf : x = f i := by
          rw [List.getElem?_map, List.getElem?_range hil] at hx
          exact (Option.some.inj hx).symm
        subst hxf
        have := hf i hil j u hj
        rw [AE.Addr.add_at, cell_of_row W _ _ _ _ _ hblk, ← Nat.add_assoc] at this
        exact this
      rw [hlen] at key
      exact key
end

end Go.Proofs.YtheaofepenbcgaaGreatDoor

/- Valid of the reference -/
namespace Go.Proofs.YtheaofepenbcgaaGreatDoor
open Go Go.Proofs Go.RowKit
namespace AE
namespace RValid
noncomputable def body : Code := (Tryz.f11.body).getD .skip
def N : Nat := 21
noncomputable abbrev at' (N : Nat) (F : List (FOp × Value)) (C : List (FuncId × List Value × Value)) (c : Code) (s : ASt) : Option Stop := evalTo Tryz.prog F C N 1000 10 c s
noncomputable abbrev leave' (N : Nat) (F : List (FOp × Value)) (C : List (FuncId × List Value × Value)) (ks : List KI) (o : Option Stop) : Option Stop := evalLeave Tryz.prog F C N 1000 10 ks o
noncomputable abbrev unr' (N : Nat) (F : List (FOp × Value)) (C : List (FuncId × List Value × Value)) (m : Nat) (o : Option Stop) : Option Stop := evalUnroll Tryz.prog F C N 1000 10 m o
noncomputable abbrev res' (N : Nat) (F : List (FOp × Value)) (C : List (FuncId × List Value × Value)) (ks : List KI) (x : AX) (s : ASt) : Option Stop := evalRes Tryz.prog F C N 1000 10 ks x s
noncomputable abbrev ops' (N : Nat) (F : List (FOp × Value)) (C : List (FuncId × List Value × Value)) (r : List Oper) (ops : Array Oper) (ks : List KI) (s : ASt) : Option Stop := evalOps Tryz.prog F C N 1000 10 r ops ks s
def s0 : ASt := { sl := slots [(0, .agg ⟨[symv 0, symv 1, symv 2, symv 3]⟩)], ms := [], A := start }
def F0 : List (FOp × Value) := [(.bin .geq 3 (symv 0) (.int .i64 0), .bool true),
    (.bin .leq 3 (symv 0) (.int .i64 4000), .bool true),
    (.bin .geq 3 (symv 1) (.int .i64 1), .bool true),
    (.bin .leq 3 (symv 1) (.int .i64 1000000), .bool true),
    (.bin .geq 3 (symv 2) (.int .i64 1), .bool true),
    (.bin .leq 3 (symv 2) (.int .i64 8), .bool true),
    (.bin .geq 3 (symv 3) (.int .i64 1), .bool true),
    (.bin .leq 3 (symv 3) (.int .i64 1000), .bool true)]
def C0 : List (FuncId × List Value × Value) := []
set_option maxRecDepth 100000 in
theorem e0 : endVal Tryz.prog Tryz.f11 (at' 21 F0 C0 body s0) = some (.bool true) := by kernel_rfl
def F1 : List (FOp × Value) := [(.bin .geq 3 (symv 0) (.int .i64 0), .bool true),
    (.bin .leq 3 (symv 0) (.int .i64 4000), .bool true),
    (.bin .geq 3 (symv 1) (.int .i64 1), .bool true),
    (.bin .leq 3 (symv 1) (.int .i64 1000000), .bool true),
    (.bin .geq 3 (symv 2) (.int .i64 1), .bool true),
    (.bin .leq 3 (symv 2) (.int .i64 8), .bool true),
    (.bin .geq 3 (symv 3) (.int .i64 1), .bool true),
    (.bin .leq 3 (symv 3) (.int .i64 1000), .bool false)]
def C1 : List (FuncId × List Value × Value) := []
set_option maxRecDepth 100000 in
theorem e1 : endVal Tryz.prog Tryz.f11 (at' 21 F1 C1 body s0) = some (.bool false) := by kernel_rfl
def F2 : List (FOp × Value) := [(.bin .geq 3 (symv 0) (.int .i64 0), .bool true),
    (.bin .leq 3 (symv 0) (.int .i64 4000), .bool true),
    (.bin .geq 3 (symv 1) (.int .i64 1), .bool true),
    (.bin .leq 3 (symv 1) (.int .i64 1000000), .bool true),
    (.bin .geq 3 (symv 2) (.int .i64 1), .bool true),
    (.bin .leq 3 (symv 2) (.int .i64 8), .bool true),
    (.bin .geq 3 (symv 3) (.int .i64 1), .bool false)]
def C2 : List (FuncId × List Value × Value) := []
set_option maxRecDepth 100000 in
theorem e2 : endVal Tryz.prog Tryz.f11 (at' 21 F2 C2 body s0) = some (.bool false) := by kernel_rfl
def F3 : List (FOp × Value) := [(.bin .geq 3 (symv 0) (.int .i64 0), .bool true),
    (.bin .leq 3 (symv 0) (.int .i64 4000), .bool true),
    (.bin .geq 3 (symv 1) (.int .i64 1), .bool true),
    (.bin .leq 3 (symv 1) (.int .i64 1000000), .bool true),
    (.bin .geq 3 (symv 2) (.int .i64 1), .bool true),
    (.bin .leq 3 (symv 2) (.int .i64 8), .bool false)]
def C3 : List (FuncId × List Value × Value) := []
set_option maxRecDepth 100000 in
theorem e3 : endVal Tryz.prog Tryz.f11 (at' 21 F3 C3 body s0) = some (.bool false) := by kernel_rfl
def F4 : List (FOp × Value) := [(.bin .geq 3 (symv 0) (.int .i64 0), .bool true),
    (.bin .leq 3 (symv 0) (.int .i64 4000), .bool true),
    (.bin .geq 3 (symv 1) (.int .i64 1), .bool true),
    (.bin .leq 3 (symv 1) (.int .i64 1000000), .bool true),
    (.bin .geq 3 (symv 2) (.int .i64 1), .bool false)]
def C4 : List (FuncId × List Value × Value) := []
set_option maxRecDepth 100000 in
theorem e4 : endVal Tryz.prog Tryz.f11 (at' 21 F4 C4 body s0) = some (.bool false) := by kernel_rfl
def F5 : List (FOp × Value) := [(.bin .geq 3 (symv 0) (.int .i64 0), .bool true),
    (.bin .leq 3 (symv 0) (.int .i64 4000), .bool true),
    (.bin .geq 3 (symv 1) (.int .i64 1), .bool true),
    (.bin .leq 3 (symv 1) (.int .i64 1000000), .bool false)]
def C5 : List (FuncId × List Value × Value) := []
set_option maxRecDepth 100000 in
theorem e5 : endVal Tryz.prog Tryz.f11 (at' 21 F5 C5 body s0) = some (.bool false) := by kernel_rfl
def F6 : List (FOp × Value) := [(.bin .geq 3 (symv 0) (.int .i64 0), .bool true),
    (.bin .leq 3 (symv 0) (.int .i64 4000), .bool true),
    (.bin .geq 3 (symv 1) (.int .i64 1), .bool false)]
def C6 : List (FuncId × List Value × Value) := []
set_option maxRecDepth 100000 in
theorem e6 : endVal Tryz.prog Tryz.f11 (at' 21 F6 C6 body s0) = some (.bool false) := by kernel_rfl
def F7 : List (FOp × Value) := [(.bin .geq 3 (symv 0) (.int .i64 0), .bool true),
    (.bin .leq 3 (symv 0) (.int .i64 4000), .bool false)]
def C7 : List (FuncId × List Value × Value) := []
set_option maxRecDepth 100000 in
theorem e7 : endVal Tryz.prog Tryz.f11 (at' 21 F7 C7 body s0) = some (.bool false) := by kernel_rfl
def F8 : List (FOp × Value) := [(.bin .geq 3 (symv 0) (.int .i64 0), .bool false)]
def C8 : List (FuncId × List Value × Value) := []
set_option maxRecDepth 100000 in
theorem e8 : endVal Tryz.prog Tryz.f11 (at' 21 F8 C8 body s0) = some (.bool false) := by kernel_rfl
@[reducible] noncomputable def vL (x : St) : List Value := [.int .i64 x.1, .int .i64 x.2.1, .int .i64 x.2.2.1, .int .i64 x.2.2.2]
@[reducible] noncomputable def sg (M : Mem) (x : St) : Sig := sgL M (vL x)
set_option maxHeartbeats 4000000 in
set_option maxRecDepth 100000 in
theorem any (W : World) (x : St)  : Calls Tryz.prog 11 #[St.val x] W fun e w' => e = .returned (.bool (decide (ValidP x))) ∧ Low W.heap.size W w' := by
  refine @walk_enter (sg (heapOf W) x ) Tryz.prog 11 Tryz.f11 body [.agg ⟨[symv 0, symv 1, symv 2, symv 3]⟩] (slots [(0, .agg ⟨[symv 0, symv 1, symv 2, symv 3]⟩)]) N W _ Tryz.func11 (by kernel_rfl) (by kernel_rfl) (by kernel_rfl) (by kernel_rfl) (immW_sgL W _) fun a hh => ?_
  letI := (sg (heapOf W) x )
  by_cases h0 : 0 ≤ x.1
  · by_cases h1 : x.1 ≤ 4000
    · by_cases h2 : 1 ≤ x.2.1
      · by_cases h3 : x.2.1 ≤ 1000000
        · by_cases h4 : 1 ≤ x.2.2.1
          · by_cases h5 : x.2.2.1 ≤ 8
            · by_cases h6 : 1 ≤ x.2.2.2
              · by_cases h7 : x.2.2.2 ≤ 1000
                · refine walk_to (F := F0) (T := C0) (fuel := 1000) (d := 10) mixed (allF_cons (FactOk.bi rfl rfl rfl rfl rfl rfl (boolT (by omega))) (allF_cons (FactOk.bi rfl rfl rfl rfl rfl rfl (boolT (by omega))) (allF_cons (FactOk.bi rfl rfl rfl rfl rfl rfl (boolT (by omega))) (allF_cons (FactOk.bi rfl rfl rfl rfl rfl rfl (boolT (by omega))) (allF_cons (FactOk.bi rfl rfl rfl rfl rfl rfl (boolT (by omega))) (allF_cons (FactOk.bi rfl rfl rfl rfl rfl rfl (boolT (by omega))) (allF_cons (FactOk.bi rfl rfl rfl rfl rfl rfl (boolT (by omega))) (allF_cons (FactOk.bi rfl rfl rfl rfl rfl rfl (boolT (by omega))) allF_nil)))))))) allC_nil ?_ hh
                  exact ostop_end e0 fun w2 hLow hIn => ⟨(by show Ending.returned (.bool _) = _; congr 2; first | exact (decide_eq_true (by unfold ValidP; omega)).symm | exact (decide_eq_false (by unfold ValidP; omega)).symm), hLow⟩   -- returns .bool true
                · refine walk_to (F := F1) (T := C1) (fuel := 1000) (d := 10) mixed (allF_cons (FactOk.bi rfl rfl rfl rfl rfl rfl (boolT (by omega))) (allF_cons (FactOk.bi rfl rfl rfl rfl rfl rfl (boolT (by omega))) (allF_cons (FactOk.bi rfl rfl rfl rfl rfl rfl (boolT (by omega))) (allF_cons (FactOk.bi rfl rfl rfl rfl rfl rfl (boolT (by omega))) (allF_cons (FactOk.bi rfl rfl rfl rfl rfl rfl (boolT (by omega))) (allF_cons (FactOk.bi rfl rfl rfl rfl rfl rfl (boolT (by omega))) (allF_cons (FactOk.bi rfl rfl rfl rfl rfl rfl (boolT (by omega))) (allF_cons (FactOk.bi rfl rfl rfl rfl rfl rfl (boolF (by omega))) allF_nil)))))))) allC_nil ?_ hh
                  exact ostop_end e1 fun w2 hLow hIn => ⟨(by show Ending.returned (.bool _) = _; congr 2; first | exact (decide_eq_true (by unfold ValidP; omega)).symm | exact (decide_eq_false (by unfold ValidP; omega)).symm), hLow⟩   -- returns .bool false
              · refine walk_to (F := F2) (T := C2) (fuel := 1000) (d := 10) mixed (allF_cons (FactOk.bi rfl rfl rfl rfl rfl rfl (boolT (by omega))) (allF_cons (FactOk.bi rfl rfl rfl rfl rfl rfl (boolT (by omega))) (allF_cons (FactOk.bi rfl rfl rfl rfl rfl rfl (boolT (by omega))) (allF_cons (FactOk.bi rfl rfl rfl rfl rfl rfl (boolT (by omega))) (allF_cons (FactOk.bi rfl rfl rfl rfl rfl rfl (boolT (by omega))) (allF_cons (FactOk.bi rfl rfl rfl rfl rfl rfl (boolT (by omega))) (allF_cons (FactOk.bi rfl rfl rfl rfl rfl rfl (boolF (by omega))) allF_nil))))))) allC_nil ?_ hh
                exact ostop_end e2 fun w2 hLow hIn => ⟨(by show Ending.returned (.bool _) = _; congr 2; first | exact (decide_eq_true (by unfold ValidP; omega)).symm | exact (decide_eq_false (by unfold ValidP; omega)).symm), hLow⟩   -- returns .bool false
            · refine walk_to (F := F3) (T := C3) (fuel := 1000) (d := 10) mixed (allF_cons (FactOk.bi rfl rfl rfl rfl rfl rfl (boolT (by omega))) (allF_cons (FactOk.bi rfl rfl rfl rfl rfl rfl (boolT (by omega))) (allF_cons (FactOk.bi rfl rfl rfl rfl rfl rfl (boolT (by omega))) (allF_cons (FactOk.bi rfl rfl rfl rfl rfl rfl (boolT (by omega))) (allF_cons (FactOk.bi rfl rfl rfl rfl rfl rfl (boolT (by omega))) (allF_cons (FactOk.bi rfl rfl rfl rfl rfl rfl (boolF (by omega))) allF_nil)))))) allC_nil ?_ hh
              exact ostop_end e3 fun w2 hLow hIn => ⟨(by show Ending.returned (.bool _) = _; congr 2; first | exact (decide_eq_true (by unfold ValidP; omega)).symm | exact (decide_eq_false (by unfold ValidP; omega)).symm), hLow⟩   -- returns .bool false
          · refine walk_to (F := F4) (T := C4) (fuel := 1000) (d := 10) mixed (allF_cons (FactOk.bi rfl rfl rfl rfl rfl rfl (boolT (by omega))) (allF_cons (FactOk.bi rfl rfl rfl rfl rfl rfl (boolT (by omega))) (allF_cons (FactOk.bi rfl rfl rfl rfl rfl rfl (boolT (by omega))) (allF_cons (FactOk.bi rfl rfl rfl rfl rfl rfl (boolT (by omega))) (allF_cons (FactOk.bi rfl rfl rfl rfl rfl rfl (boolF (by omega))) allF_nil))))) allC_nil ?_ hh
            exact ostop_end e4 fun w2 hLow hIn => ⟨(by show Ending.returned (.bool _) = _; congr 2; first | exact (decide_eq_true (by unfold ValidP; omega)).symm | exact (decide_eq_false (by unfold ValidP; omega)).symm), hLow⟩   -- returns .bool false
        · refine walk_to (F := F5) (T := C5) (fuel := 1000) (d := 10) mixed (allF_cons (FactOk.bi rfl rfl rfl rfl rfl rfl (boolT (by omega))) (allF_cons (FactOk.bi rfl rfl rfl rfl rfl rfl (boolT (by omega))) (allF_cons (FactOk.bi rfl rfl rfl rfl rfl rfl (boolT (by omega))) (allF_cons (FactOk.bi rfl rfl rfl rfl rfl rfl (boolF (by omega))) allF_nil)))) allC_nil ?_ hh
          exact ostop_end e5 fun w2 hLow hIn => ⟨(by show Ending.returned (.bool _) = _; congr 2; first | exact (decide_eq_true (by unfold ValidP; omega)).symm | exact (decide_eq_false (by unfold ValidP; omega)).symm), hLow⟩   -- returns .bool false
      · refine walk_to (F := F6) (T := C6) (fuel := 1000) (d := 10) mixed (allF_cons (FactOk.bi rfl rfl rfl rfl rfl rfl (boolT (by omega))) (allF_cons (FactOk.bi rfl rfl rfl rfl rfl rfl (boolT (by omega))) (allF_cons (FactOk.bi rfl rfl rfl rfl rfl rfl (boolF (by omega))) allF_nil))) allC_nil ?_ hh
        exact ostop_end e6 fun w2 hLow hIn => ⟨(by show Ending.returned (.bool _) = _; congr 2; first | exact (decide_eq_true (by unfold ValidP; omega)).symm | exact (decide_eq_false (by unfold ValidP; omega)).symm), hLow⟩   -- returns .bool false
    · refine walk_to (F := F7) (T := C7) (fuel := 1000) (d := 10) mixed (allF_cons (FactOk.bi rfl rfl rfl rfl rfl rfl (boolT (by omega))) (allF_cons (FactOk.bi rfl rfl rfl rfl rfl rfl (boolF (by omega))) allF_nil)) allC_nil ?_ hh
      exact ostop_end e7 fun w2 hLow hIn => ⟨(by show Ending.returned (.bool _) = _; congr 2; first | exact (decide_eq_true (by unfold ValidP; omega)).symm | exact (decide_eq_false (by unfold ValidP; omega)).symm), hLow⟩   -- returns .bool false
  · refine walk_to (F := F8) (T := C8) (fuel := 1000) (d := 10) mixed (allF_cons (FactOk.bi rfl rfl rfl rfl rfl rfl (boolF (by omega))) allF_nil) allC_nil ?_ hh
    exact ostop_end e8 fun w2 hLow hIn => ⟨(by show Ending.returned (.bool _) = _; congr 2; first | exact (decide_eq_true (by unfold ValidP; omega)).symm | exact (decide_eq_false (by unfold ValidP; omega)).symm), hLow⟩   -- returns .bool false
end RValid
end AE
end Go.Proofs.YtheaofepenbcgaaGreatDoor

/- sign of the reference -/
namespace Go.Proofs.YtheaofepenbcgaaGreatDoor
open Go Go.Proofs Go.RowKit
namespace AE
namespace RSign
noncomputable def body : Code := (Tryz.f34.body).getD .skip
def N : Nat := 11
noncomputable abbrev at' (N : Nat) (F : List (FOp × Value)) (C : List (FuncId × List Value × Value)) (c : Code) (s : ASt) : Option Stop := evalTo Tryz.prog F C N 1000 10 c s
noncomputable abbrev leave' (N : Nat) (F : List (FOp × Value)) (C : List (FuncId × List Value × Value)) (ks : List KI) (o : Option Stop) : Option Stop := evalLeave Tryz.prog F C N 1000 10 ks o
noncomputable abbrev unr' (N : Nat) (F : List (FOp × Value)) (C : List (FuncId × List Value × Value)) (m : Nat) (o : Option Stop) : Option Stop := evalUnroll Tryz.prog F C N 1000 10 m o
noncomputable abbrev res' (N : Nat) (F : List (FOp × Value)) (C : List (FuncId × List Value × Value)) (ks : List KI) (x : AX) (s : ASt) : Option Stop := evalRes Tryz.prog F C N 1000 10 ks x s
noncomputable abbrev ops' (N : Nat) (F : List (FOp × Value)) (C : List (FuncId × List Value × Value)) (r : List Oper) (ops : Array Oper) (ks : List KI) (s : ASt) : Option Stop := evalOps Tryz.prog F C N 1000 10 r ops ks s
def s0 : ASt := { sl := slots [(1, symv 1), (0, symv 0)], ms := [], A := start }
def F0 : List (FOp × Value) := [(.bin .lss 3 (symv 0) (symv 1), .bool true)]
def C0 : List (FuncId × List Value × Value) := []
set_option maxRecDepth 100000 in
theorem e0 : endVal Tryz.prog Tryz.f34 (at' 11 F0 C0 body s0) = some (.int .i64 (-1)) := by kernel_rfl
def F1 : List (FOp × Value) := [(.bin .lss 3 (symv 0) (symv 1), .bool false),
    (.bin .gtr 3 (symv 0) (symv 1), .bool true)]
def C1 : List (FuncId × List Value × Value) := []
set_option maxRecDepth 100000 in
theorem e1 : endVal Tryz.prog Tryz.f34 (at' 11 F1 C1 body s0) = some (.int .i64 1) := by kernel_rfl
def F2 : List (FOp × Value) := [(.bin .lss 3 (symv 0) (symv 1), .bool false),
    (.bin .gtr 3 (symv 0) (symv 1), .bool false)]
def C2 : List (FuncId × List Value × Value) := []
set_option maxRecDepth 100000 in
theorem e2 : endVal Tryz.prog Tryz.f34 (at' 11 F2 C2 body s0) = some (.int .i64 0) := by kernel_rfl
@[reducible] noncomputable def vL (x : Int) (y : Int) : List Value := [.int .i64 x, .int .i64 y]
@[reducible] noncomputable def sg (M : Mem) (x : Int) (y : Int) : Sig := sgL M (vL x y)
set_option maxHeartbeats 4000000 in
set_option maxRecDepth 100000 in
theorem any (W : World) (x : Int) (y : Int)  : Calls Tryz.prog 34 #[.int .i64 x, .int .i64 y] W fun e w' => e = .returned (.int .i64 (signI x y)) ∧ Low W.heap.size W w' := by
  refine @walk_enter (sg (heapOf W) x y ) Tryz.prog 34 Tryz.f34 body [symv 0, symv 1] (slots [(1, symv 1), (0, symv 0)]) N W _ Tryz.func34 (by kernel_rfl) (by kernel_rfl) (by kernel_rfl) (by kernel_rfl) (immW_sgL W _) fun a hh => ?_
  letI := (sg (heapOf W) x y )
  by_cases h0 : x < y
  · refine walk_to (F := F0) (T := C0) (fuel := 1000) (d := 10) mixed (allF_cons (FactOk.bi rfl rfl rfl rfl rfl rfl (boolT (by omega))) allF_nil) allC_nil ?_ hh
    exact ostop_end e0 fun w2 hLow hIn => ⟨(by refine congrArg (fun z => Ending.returned (.int .i64 z)) ?_; unfold signI; first | rw [if_pos (by omega)] | rw [if_neg (by omega), if_pos (by omega)] | rw [if_neg (by omega), if_neg (by omega)]), hLow⟩   -- returns .int .i64 (-1)
  · by_cases h1 : y < x
    · refine walk_to (F := F1) (T := C1) (fuel := 1000) (d := 10) mixed (allF_cons (FactOk.bi rfl rfl rfl rfl rfl rfl (boolF (by omega))) (allF_cons (FactOk.bi rfl rfl rfl rfl rfl rfl (boolT (by omega))) allF_nil)) allC_nil ?_ hh
      exact ostop_end e1 fun w2 hLow hIn => ⟨(by refine congrArg (fun z => Ending.returned (.int .i64 z)) ?_; unfold signI; first | rw [if_pos (by omega)] | rw [if_neg (by omega), if_pos (by omega)] | rw [if_neg (by omega), if_neg (by omega)]), hLow⟩   -- returns .int .i64 1
    · refine walk_to (F := F2) (T := C2) (fuel := 1000) (d := 10) mixed (allF_cons (FactOk.bi rfl rfl rfl rfl rfl rfl (boolF (by omega))) (allF_cons (FactOk.bi rfl rfl rfl rfl rfl rfl (boolF (by omega))) allF_nil)) allC_nil ?_ hh
      exact ostop_end e2 fun w2 hLow hIn => ⟨(by refine congrArg (fun z => Ending.returned (.int .i64 z)) ?_; unfold signI; first | rw [if_pos (by omega)] | rw [if_neg (by omega), if_pos (by omega)] | rw [if_neg (by omega), if_neg (by omega)]), hLow⟩   -- returns .int .i64 0
end RSign
end AE
end Go.Proofs.YtheaofepenbcgaaGreatDoor

/- Valid of the program, for all stamps -/
namespace Go.Proofs.YtheaofepenbcgaaGreatDoor
open Go Go.Proofs Go.RowKit
namespace AE
namespace ValidG
noncomputable def body : Code := (Tryz.f10.body).getD .skip
def N : Nat := 28
noncomputable abbrev at' (N : Nat) (F : List (FOp × Value)) (C : List (FuncId × List Value × Value)) (c : Code) (s : ASt) : Option Stop := evalTo Tryz.prog F C N 1000 10 c s
noncomputable abbrev leave' (N : Nat) (F : List (FOp × Value)) (C : List (FuncId × List Value × Value)) (ks : List KI) (o : Option Stop) : Option Stop := evalLeave Tryz.prog F C N 1000 10 ks o
noncomputable abbrev unr' (N : Nat) (F : List (FOp × Value)) (C : List (FuncId × List Value × Value)) (m : Nat) (o : Option Stop) : Option Stop := evalUnroll Tryz.prog F C N 1000 10 m o
noncomputable abbrev res' (N : Nat) (F : List (FOp × Value)) (C : List (FuncId × List Value × Value)) (ks : List KI) (x : AX) (s : ASt) : Option Stop := evalRes Tryz.prog F C N 1000 10 ks x s
noncomputable abbrev ops' (N : Nat) (F : List (FOp × Value)) (C : List (FuncId × List Value × Value)) (r : List Oper) (ops : Array Oper) (ks : List KI) (s : ASt) : Option Stop := evalOps Tryz.prog F C N 1000 10 r ops ks s
def s0 : ASt := { sl := slots [(0, .agg ⟨[symv 0, symv 1, symv 2, symv 3]⟩)], ms := [], A := start }
def F0 : List (FOp × Value) := [(.bin .lss 3 (symv 0) (.int .i64 0), .bool true)]
def C0 : List (FuncId × List Value × Value) := []
set_option maxRecDepth 100000 in
theorem e0 : endVal Tryz.prog Tryz.f10 (at' 28 F0 C0 body s0) = some (.bool false) := by kernel_rfl
def F1 : List (FOp × Value) := [(.bin .lss 3 (symv 0) (.int .i64 0), .bool false),
    (.bin .gtr 3 (symv 0) (.int .i64 4000), .bool true)]
def C1 : List (FuncId × List Value × Value) := []
set_option maxRecDepth 100000 in
theorem e1 : endVal Tryz.prog Tryz.f10 (at' 28 F1 C1 body s0) = some (.bool false) := by kernel_rfl
def F2 : List (FOp × Value) := [(.bin .lss 3 (symv 0) (.int .i64 0), .bool false),
    (.bin .gtr 3 (symv 0) (.int .i64 4000), .bool false),
    (.bin .lss 3 (symv 1) (.int .i64 1), .bool true)]
def C2 : List (FuncId × List Value × Value) := []
set_option maxRecDepth 100000 in
theorem e2 : endVal Tryz.prog Tryz.f10 (at' 28 F2 C2 body s0) = some (.bool false) := by kernel_rfl
def F3 : List (FOp × Value) := [(.bin .lss 3 (symv 0) (.int .i64 0), .bool false),
    (.bin .gtr 3 (symv 0) (.int .i64 4000), .bool false),
    (.bin .lss 3 (symv 1) (.int .i64 1), .bool false),
    (.bin .gtr 3 (symv 1) (.int .i64 1000000), .bool true)]
def C3 : List (FuncId × List Value × Value) := []
set_option maxRecDepth 100000 in
theorem e3 : endVal Tryz.prog Tryz.f10 (at' 28 F3 C3 body s0) = some (.bool false) := by kernel_rfl
def F4 : List (FOp × Value) := [(.bin .lss 3 (symv 0) (.int .i64 0), .bool false),
    (.bin .gtr 3 (symv 0) (.int .i64 4000), .bool false),
    (.bin .lss 3 (symv 1) (.int .i64 1), .bool false),
    (.bin .gtr 3 (symv 1) (.int .i64 1000000), .bool false),
    (.bin .lss 3 (symv 2) (.int .i64 1), .bool true)]
def C4 : List (FuncId × List Value × Value) := []
set_option maxRecDepth 100000 in
theorem e4 : endVal Tryz.prog Tryz.f10 (at' 28 F4 C4 body s0) = some (.bool false) := by kernel_rfl
def F5 : List (FOp × Value) := [(.bin .lss 3 (symv 0) (.int .i64 0), .bool false),
    (.bin .gtr 3 (symv 0) (.int .i64 4000), .bool false),
    (.bin .lss 3 (symv 1) (.int .i64 1), .bool false),
    (.bin .gtr 3 (symv 1) (.int .i64 1000000), .bool false),
    (.bin .lss 3 (symv 2) (.int .i64 1), .bool false),
    (.bin .gtr 3 (symv 2) (.int .i64 8), .bool true)]
def C5 : List (FuncId × List Value × Value) := []
set_option maxRecDepth 100000 in
theorem e5 : endVal Tryz.prog Tryz.f10 (at' 28 F5 C5 body s0) = some (.bool false) := by kernel_rfl
def F6 : List (FOp × Value) := [(.bin .lss 3 (symv 0) (.int .i64 0), .bool false),
    (.bin .gtr 3 (symv 0) (.int .i64 4000), .bool false),
    (.bin .lss 3 (symv 1) (.int .i64 1), .bool false),
    (.bin .gtr 3 (symv 1) (.int .i64 1000000), .bool false),
    (.bin .lss 3 (symv 2) (.int .i64 1), .bool false),
    (.bin .gtr 3 (symv 2) (.int .i64 8), .bool false),
    (.bin .lss 3 (symv 3) (.int .i64 1), .bool true)]
def C6 : List (FuncId × List Value × Value) := []
set_option maxRecDepth 100000 in
theorem e6 : endVal Tryz.prog Tryz.f10 (at' 28 F6 C6 body s0) = some (.bool false) := by kernel_rfl
def F7 : List (FOp × Value) := [(.bin .lss 3 (symv 0) (.int .i64 0), .bool false),
    (.bin .gtr 3 (symv 0) (.int .i64 4000), .bool false),
    (.bin .lss 3 (symv 1) (.int .i64 1), .bool false),
    (.bin .gtr 3 (symv 1) (.int .i64 1000000), .bool false),
    (.bin .lss 3 (symv 2) (.int .i64 1), .bool false),
    (.bin .gtr 3 (symv 2) (.int .i64 8), .bool false),
    (.bin .lss 3 (symv 3) (.int .i64 1), .bool false),
    (.bin .gtr 3 (symv 3) (.int .i64 1000), .bool true)]
def C7 : List (FuncId × List Value × Value) := []
set_option maxRecDepth 100000 in
theorem e7 : endVal Tryz.prog Tryz.f10 (at' 28 F7 C7 body s0) = some (.bool false) := by kernel_rfl
def F8 : List (FOp × Value) := [(.bin .lss 3 (symv 0) (.int .i64 0), .bool false),
    (.bin .gtr 3 (symv 0) (.int .i64 4000), .bool false),
    (.bin .lss 3 (symv 1) (.int .i64 1), .bool false),
    (.bin .gtr 3 (symv 1) (.int .i64 1000000), .bool false),
    (.bin .lss 3 (symv 2) (.int .i64 1), .bool false),
    (.bin .gtr 3 (symv 2) (.int .i64 8), .bool false),
    (.bin .lss 3 (symv 3) (.int .i64 1), .bool false),
    (.bin .gtr 3 (symv 3) (.int .i64 1000), .bool false)]
def C8 : List (FuncId × List Value × Value) := []
set_option maxRecDepth 100000 in
theorem e8 : endVal Tryz.prog Tryz.f10 (at' 28 F8 C8 body s0) = some (.bool true) := by kernel_rfl
@[reducible] noncomputable def vL (x : St) : List Value := [.int .i64 x.1, .int .i64 x.2.1, .int .i64 x.2.2.1, .int .i64 x.2.2.2]
@[reducible] noncomputable def sg (M : Mem) (x : St) : Sig := sgL M (vL x)
set_option maxHeartbeats 4000000 in
set_option maxRecDepth 100000 in
theorem any (W : World) (x : St)  : Calls Tryz.prog 10 #[St.val x] W fun e w' => e = .returned (.bool (decide (ValidP x))) ∧ Low W.heap.size W w' := by
  refine @walk_enter (sg (heapOf W) x ) Tryz.prog 10 Tryz.f10 body [.agg ⟨[symv 0, symv 1, symv 2, symv 3]⟩] (slots [(0, .agg ⟨[symv 0, symv 1, symv 2, symv 3]⟩)]) N W _ Tryz.func10 (by kernel_rfl) (by kernel_rfl) (by kernel_rfl) (by kernel_rfl) (immW_sgL W _) fun a hh => ?_
  letI := (sg (heapOf W) x )
  by_cases h0 : x.1 < 0
  · refine walk_to (F := F0) (T := C0) (fuel := 1000) (d := 10) mixed (allF_cons (FactOk.bi rfl rfl rfl rfl rfl rfl (boolT (by omega))) allF_nil) allC_nil ?_ hh
    exact ostop_end e0 fun w2 hLow hIn => ⟨(by show Ending.returned (.bool _) = _; congr 2; first | exact (decide_eq_true (by unfold ValidP; omega)).symm | exact (decide_eq_false (by unfold ValidP; omega)).symm), hLow⟩   -- returns .bool false
  · by_cases h1 : 4000 < x.1
    · refine walk_to (F := F1) (T := C1) (fuel := 1000) (d := 10) mixed (allF_cons (FactOk.bi rfl rfl rfl rfl rfl rfl (boolF (by omega))) (allF_cons (FactOk.bi rfl rfl rfl rfl rfl rfl (boolT (by omega))) allF_nil)) allC_nil ?_ hh
      exact ostop_end e1 fun w2 hLow hIn => ⟨(by show Ending.returned (.bool _) = _; congr 2; first | exact (decide_eq_true (by unfold ValidP; omega)).symm | exact (decide_eq_false (by unfold ValidP; omega)).symm), hLow⟩   -- returns .bool false
    · by_cases h2 : x.2.1 < 1
      · refine walk_to (F := F2) (T := C2) (fuel := 1000) (d := 10) mixed (allF_cons (FactOk.bi rfl rfl rfl rfl rfl rfl (boolF (by omega))) (allF_cons (FactOk.bi rfl rfl rfl rfl rfl rfl (boolF (by omega))) (allF_cons (FactOk.bi rfl rfl rfl rfl rfl rfl (boolT (by omega))) allF_nil))) allC_nil ?_ hh
        exact ostop_end e2 fun w2 hLow hIn => ⟨(by show Ending.returned (.bool _) = _; congr 2; first | exact (decide_eq_true (by unfold ValidP; omega)).symm | exact (decide_eq_false (by unfold ValidP; omega)).symm), hLow⟩   -- returns .bool false
      · by_cases h3 : 1000000 < x.2.1
        · refine walk_to (F := F3) (T := C3) (fuel := 1000) (d := 10) mixed (allF_cons (FactOk.bi rfl rfl rfl rfl rfl rfl (boolF (by omega))) (allF_cons (FactOk.bi rfl rfl rfl rfl rfl rfl (boolF (by omega))) (allF_cons (FactOk.bi rfl rfl rfl rfl rfl rfl (boolF (by omega))) (allF_cons (FactOk.bi rfl rfl rfl rfl rfl rfl (boolT (by omega))) allF_nil)))) allC_nil ?_ hh
          exact ostop_end e3 fun w2 hLow hIn => ⟨(by show Ending.returned (.bool _) = _; congr 2; first | exact (decide_eq_true (by unfold ValidP; omega)).symm | exact (decide_eq_false (by unfold ValidP; omega)).symm), hLow⟩   -- returns .bool false
        · by_cases h4 : x.2.2.1 < 1
          · refine walk_to (F := F4) (T := C4) (fuel := 1000) (d := 10) mixed (allF_cons (FactOk.bi rfl rfl rfl rfl rfl rfl (boolF (by omega))) (allF_cons (FactOk.bi rfl rfl rfl rfl rfl rfl (boolF (by omega))) (allF_cons (FactOk.bi rfl rfl rfl rfl rfl rfl (boolF (by omega))) (allF_cons (FactOk.bi rfl rfl rfl rfl rfl rfl (boolF (by omega))) (allF_cons (FactOk.bi rfl rfl rfl rfl rfl rfl (boolT (by omega))) allF_nil))))) allC_nil ?_ hh
            exact ostop_end e4 fun w2 hLow hIn => ⟨(by show Ending.returned (.bool _) = _; congr 2; first | exact (decide_eq_true (by unfold ValidP; omega)).symm | exact (decide_eq_false (by unfold ValidP; omega)).symm), hLow⟩   -- returns .bool false
          · by_cases h5 : 8 < x.2.2.1
            · refine walk_to (F := F5) (T := C5) (fuel := 1000) (d := 10) mixed (allF_cons (FactOk.bi rfl rfl rfl rfl rfl rfl (boolF (by omega))) (allF_cons (FactOk.bi rfl rfl rfl rfl rfl rfl (boolF (by omega))) (allF_cons (FactOk.bi rfl rfl rfl rfl rfl rfl (boolF (by omega))) (allF_cons (FactOk.bi rfl rfl rfl rfl rfl rfl (boolF (by omega))) (allF_cons (FactOk.bi rfl rfl rfl rfl rfl rfl (boolF (by omega))) (allF_cons (FactOk.bi rfl rfl rfl rfl rfl rfl (boolT (by omega))) allF_nil)))))) allC_nil ?_ hh
              exact ostop_end e5 fun w2 hLow hIn => ⟨(by show Ending.returned (.bool _) = _; congr 2; first | exact (decide_eq_true (by unfold ValidP; omega)).symm | exact (decide_eq_false (by unfold ValidP; omega)).symm), hLow⟩   -- returns .bool false
            · by_cases h6 : x.2.2.2 < 1
              · refine walk_to (F := F6) (T := C6) (fuel := 1000) (d := 10) mixed (allF_cons (FactOk.bi rfl rfl rfl rfl rfl rfl (boolF (by omega))) (allF_cons (FactOk.bi rfl rfl rfl rfl rfl rfl (boolF (by omega))) (allF_cons (FactOk.bi rfl rfl rfl rfl rfl rfl (boolF (by omega))) (allF_cons (FactOk.bi rfl rfl rfl rfl rfl rfl (boolF (by omega))) (allF_cons (FactOk.bi rfl rfl rfl rfl rfl rfl (boolF (by omega))) (allF_cons (FactOk.bi rfl rfl rfl rfl rfl rfl (boolF (by omega))) (allF_cons (FactOk.bi rfl rfl rfl rfl rfl rfl (boolT (by omega))) allF_nil))))))) allC_nil ?_ hh
                exact ostop_end e6 fun w2 hLow hIn => ⟨(by show Ending.returned (.bool _) = _; congr 2; first | exact (decide_eq_true (by unfold ValidP; omega)).symm | exact (decide_eq_false (by unfold ValidP; omega)).symm), hLow⟩   -- returns .bool false
              · by_cases h7 : 1000 < x.2.2.2
                · refine walk_to (F := F7) (T := C7) (fuel := 1000) (d := 10) mixed (allF_cons (FactOk.bi rfl rfl rfl rfl rfl rfl (boolF (by omega))) (allF_cons (FactOk.bi rfl rfl rfl rfl rfl rfl (boolF (by omega))) (allF_cons (FactOk.bi rfl rfl rfl rfl rfl rfl (boolF (by omega))) (allF_cons (FactOk.bi rfl rfl rfl rfl rfl rfl (boolF (by omega))) (allF_cons (FactOk.bi rfl rfl rfl rfl rfl rfl (boolF (by omega))) (allF_cons (FactOk.bi rfl rfl rfl rfl rfl rfl (boolF (by omega))) (allF_cons (FactOk.bi rfl rfl rfl rfl rfl rfl (boolF (by omega))) (allF_cons (FactOk.bi rfl rfl rfl rfl rfl rfl (boolT (by omega))) allF_nil)))))))) allC_nil ?_ hh
                  exact ostop_end e7 fun w2 hLow hIn => ⟨(by show Ending.returned (.bool _) = _; congr 2; first | exact (decide_eq_true (by unfold ValidP; omega)).symm | exact (decide_eq_false (by unfold ValidP; omega)).symm), hLow⟩   -- returns .bool false
                · refine walk_to (F := F8) (T := C8) (fuel := 1000) (d := 10) mixed (allF_cons (FactOk.bi rfl rfl rfl rfl rfl rfl (boolF (by omega))) (allF_cons (FactOk.bi rfl rfl rfl rfl rfl rfl (boolF (by omega))) (allF_cons (FactOk.bi rfl rfl rfl rfl rfl rfl (boolF (by omega))) (allF_cons (FactOk.bi rfl rfl rfl rfl rfl rfl (boolF (by omega))) (allF_cons (FactOk.bi rfl rfl rfl rfl rfl rfl (boolF (by omega))) (allF_cons (FactOk.bi rfl rfl rfl rfl rfl rfl (boolF (by omega))) (allF_cons (FactOk.bi rfl rfl rfl rfl rfl rfl (boolF (by omega))) (allF_cons (FactOk.bi rfl rfl rfl rfl rfl rfl (boolF (by omega))) allF_nil)))))))) allC_nil ?_ hh
                  exact ostop_end e8 fun w2 hLow hIn => ⟨(by show Ending.returned (.bool _) = _; congr 2; first | exact (decide_eq_true (by unfold ValidP; omega)).symm | exact (decide_eq_false (by unfold ValidP; omega)).symm), hLow⟩   -- returns .bool true
end ValidG
end AE
end Go.Proofs.YtheaofepenbcgaaGreatDoor

/- Calls of the stamp functions, by contract. -/
namespace Go.Proofs.YtheaofepenbcgaaGreatDoor
open Go Go.Proofs Go.RowKit
namespace AE
variable [Sig]

theorem callAny {P : Program} {f : FuncId} {args : List Value} {v : Value} {a : Array Value} {u : Value} (hp : plainSL args = true) (hv : plainS v = true) (ha : interpL args = a.toList) (hu : interp v = u)
    (h : ∀ w, ImmW w → Calls P f a w fun e w' => e = .returned u ∧ Low w.heap.size w w') : CallFactOk P (f, args, v) :=
  ⟨hp, hv, fun w hw => by show Calls P f ⟨interpL args⟩ w _; rw [ha, hu]; exact h w hw⟩

theorem callValidT {v : Value} {x : St} (hp : plainSL [v] = true) (ev : interpL [v] = [x.val]) (h : ValidP x) : CallFactOk Tryz.prog (10, [v], .bool true) :=
  callAny (a := #[x.val]) hp rfl ev rfl fun w _ => (ValidG.any w x).mono fun e w' h' => by rw [decide_eq_true h] at h'; exact h'
theorem callValidF {v : Value} {x : St} (hp : plainSL [v] = true) (ev : interpL [v] = [x.val]) (h : ¬ ValidP x) : CallFactOk Tryz.prog (10, [v], .bool false) :=
  callAny (a := #[x.val]) hp rfl ev rfl fun w _ => (ValidG.any w x).mono fun e w' h' => by rw [decide_eq_false h] at h'; exact h'

omit [Sig]
/-- The first stamp that is not valid. -/
def firstBad (l : List St) : Int := match l.findIdx? (fun x => !decide (ValidP x)) with | some i => i | none => -1

theorem firstBad_at {l : List St} {i : Nat} (h : ∀ j, j < i → ∀ x, l[j]? = some x → ValidP x) (hi : i < l.length) (hb : ¬ ValidP (l.getD i default)) : firstBad l = i := by
  unfold firstBad
  rw [show l.findIdx? (fun x => !decide (ValidP x)) = some i from ?_]
  rw [List.findIdx?_eq_some_iff_getElem]
  refine ⟨hi, ?_, fun j hj => ?_⟩
  · rw [List.getD_eq_getElem?_getD, List.getElem?_eq_getElem hi] at hb
    simpa using hb
  · have := h j hj _ (List.getElem?_eq_getElem (by omega))
    simpa using this

theorem firstBad_none {l : List St} {i : Nat} (h : ∀ j, j < i → ∀ x, l[j]? = some x → ValidP x) (hi : l.length ≤ i) : firstBad l = -1 := by
  unfold firstBad
  rw [show l.findIdx? (fun x => !decide (ValidP x)) = none from ?_]
  rw [List.findIdx?_eq_none_iff]
  intro x hx
  obtain ⟨j, hj, rfl⟩ := List.mem_iff_getElem.1 hx
  have := h j (by omega) _ (List.getElem?_eq_getElem hj)
  simpa using this

theorem firstBad_neg {l : List St} : firstBad l < 0 ↔ ∀ x ∈ l, ValidP x := by
  unfold firstBad
  cases h : l.findIdx? (fun x => !decide (ValidP x)) with
  | some i =>
    rw [List.findIdx?_eq_some_iff_getElem] at h
    obtain ⟨h1, h2, _⟩ := h
    simp only [Bool.not_eq_true', decide_eq_false_iff_not] at h2
    exact ⟨fun h => absurd h (by simp only; omega), fun h => absurd (h _ (List.getElem_mem h1)) h2⟩
  | none =>
    rw [List.findIdx?_eq_none_iff] at h
    exact ⟨fun _ x hx => by simpa using h x hx, fun _ => by simp⟩

theorem bound_firstBad {l : List St} (h : (l.length : Int) < 9223372036854775807) : -1 ≤ firstBad l ∧ firstBad l < l.length + 1 := by
  unfold firstBad
  cases h : l.findIdx? (fun x => !decide (ValidP x)) with
  | some i =>
    rw [List.findIdx?_eq_some_iff_getElem] at h
    obtain ⟨h1, _⟩ := h
    simp only
    omega
  | none => simp only; omega

end AE
end Go.Proofs.YtheaofepenbcgaaGreatDoor

/- AE, S: slices.SortFunc on an array of the call's own, by the library's contract. -/
namespace Go.Proofs.YtheaofepenbcgaaGreatDoor
open Go Go.RowKit
namespace AE

theorem Low.grow {w w' : World} (h : Low w.heap.size w w') : ∃ q os, w' = Sort.grow (w.drewN q) os := by
  refine ⟨w'.drawn - w.drawn, w'.heap.extract w.heap.size w'.heap.size, ?_⟩
  have hd := h.drawn
  have h1 : w'.heap = w.heap ++ w'.heap.extract w.heap.size w'.heap.size := by
    apply Array.ext_getElem?
    intro i
    rw [Array.getElem?_append]
    split
    · rename_i hi
      exact h.block i hi
    · rename_i hi
      rw [Array.getElem?_extract]
      split
      · congr 1; omega
      · rename_i h2
        have := h.size
        rw [Array.getElem?_eq_none (by omega)]
  obtain ⟨heap, tape, drawn, os, output⟩ := w'
  have e1 := h.below.os
  have e2 := h.below.tape
  have e3 := h.below.output
  simp only at e1 e2 e3 h1 hd ⊢
  subst e1; subst e2; subst e3
  unfold Sort.grow World.drewN
  simp only [World.mk.injEq, and_true, true_and]
  exact ⟨h1, by omega⟩

section
variable {α : Type} [Inhabited α] {k : Nat} {enc : α → List Value}

theorem flatK_list (hk : ∀ x, (enc x).length = k) (l : List α) : (Sort.flatK enc k l.toArray).toList = l.flatMap enc := by
  apply List.ext_getElem?
  intro j
  rcases Nat.lt_or_ge j (l.length * k) with hj | hj
  · have k0 : 0 < k := by rcases Nat.eq_zero_or_pos k with h | h; · subst h; simp at hj
                          · exact h
    have hi : j / k < l.length := Nat.div_lt_of_lt_mul (by rwa [Nat.mul_comm] at hj)
    have hr : j % k < k := Nat.mod_lt _ k0
    have h2 := flat_get hk l (j / k) _ (List.getElem?_eq_getElem hi) (j % k) ((enc l[j / k])[j % k]'(by rw [hk]; exact hr)) (List.getElem?_eq_getElem _)
    rw [Nat.div_add_mod'] at h2
    rw [h2, Array.getElem?_toList, Array.getElem?_eq_getElem (by simpa using hj)]
    congr 1
    have h3 := Sort.get_flatK enc k l.toArray j (by simpa using hj)
    rw [getElem!_pos _ j (by simpa using hj)] at h3
    rw [h3]
    have e1 : l.toArray[j / k]! = l[j / k] := by rw [getElem!_pos _ _ (by simpa using hi)]; simp
    rw [e1, getElem!_pos _ _ (by rw [hk]; exact hr)]
  · rw [List.getElem?_eq_none (show (Sort.flatK enc k l.toArray).toList.length ≤ j by simpa using hj), List.getElem?_eq_none (show (l.flatMap enc).length ≤ j by rw [flat_len hk]; exact hj)]

theorem putCells_take (F cur : Array Value) (h : F.size ≤ cur.size) : (Sort.putCells id 0 F cur).toList.take F.size = F.toList := by
  apply List.ext_getElem?
  intro j
  rw [List.getElem?_take]
  split
  · rename_i hj
    unfold Sort.putCells
    rw [Array.getElem?_toList, Array.getElem?_mapIdx, Array.getElem?_eq_getElem (by omega), Array.getElem?_toList, Array.getElem?_eq_getElem hj]
    simp only [Option.map_some, Nat.zero_le, Nat.zero_add, true_and, hj, if_true, id]
    rw [Nat.sub_zero, getElem!_pos F j hj]
  · rename_i hj
    rw [List.getElem?_eq_none (by simpa using hj)]

/-- slices.SortFunc on an array of one's own: its elements in order. -/
theorem sortOwn {P : Program} {ρ : Go.Shelf.Ren} (L : SlLaysF0.n6 P ρ) {B : Nat} {M : Mem} {e : TypeId} {a : Option Addr} {c : Nat} {l : List α} {w : World} (aE : ∀ w, (isAgg (ρ.t 24)).run P w = .ok true w) (zE : ∀ w, (Go.sizeOf (ρ.t 24)).run P w = .ok k w) (hk : ∀ x, (enc x).length = k) (h1 : ∀ x, ∀ v ∈ enc x, v.oneCell' = true)
    (cf : α → α → Int) (hO : Sort.SWO (ltOf cf)) (hT : ∀ x y, ltOf cf x y = false → ltOf cf y x = false → x = y) (g : Nat) (eg : ∀ args w, (callFunc g args).run P w = .ok (.enter g args) w)
    (hcmp : ∀ w x y, Calls P g #[.agg (enc x).toArray, .agg (enc y).toArray] w fun e w' => e = .returned (.int .i64 (cf x y)) ∧ Low w.heap.size w w')
    (hA : OArr B M e k enc (.slice a l.length c) l) (hw : ∀ i o, M i = some o → w.heap[i]? = some o) (hB : B ≤ w.heap.size) (hn : l.length < 4611686018427387904) :
    Calls P (ρ.f 6) #[.slice a l.length c, .func (.func g) #[] #[]] w fun e' w' => e' = .returned (.tuple #[]) ∧ ∃ M', (OArr B M' e k enc (.slice a (l.mergeSort fun x y => !(ltOf cf) y x).length c) (l.mergeSort fun x y => !(ltOf cf) y x) ∧ Keeps M M' (obl (.slice a l.length c))) ∧ Turns B M M' (obl (.slice a l.length c)) w w' := by
  rcases hA with ⟨a', h0, rfl⟩ | ⟨gb, cap, cur, h0, hcap, hBg, hM, hlc, hcm, hcs, htake⟩
  · cases h0
    refine (AnyF.slices_SortFunc_none L a 0 (.func (.func g) #[] #[]) w).mono fun e' w' he => ?_
    obtain ⟨rfl, rfl⟩ := he
    refine ⟨rfl, M, ⟨by simpa using OArr.nil B M e k enc a, fun i o h _ => h⟩, ⟨(fun i h => by rw [show obl (.slice a ([] : List α).length 0) = none from obl_zero _ _] at h; cases h), rfl, rfl, rfl, Nat.le_refl _, Nat.le_refl _, fun _ _ _ => rfl, fun i o h => ⟨hw i o h, .inl (by rw [h]; simp)⟩⟩⟩
  · cases h0
    have hg := hw _ _ hM
    have hblk : gb < w.heap.size := (Array.getElem?_eq_some_iff.1 hg).1
    have hfl := flatK_list hk l
    have hsz : (Sort.flatK enc k l.toArray).size = l.length * k := by simp
    have hle : l.length * k ≤ cur.size := by rw [hcs]; exact Nat.mul_le_mul_right k hlc
    have hH : Sort.HoldsK enc k w gb 0 l.toArray := by
      intro j hj
      rw [hsz] at hj
      refine ⟨?_, frozen_of_row w _ _ _ _ hg⟩
      rw [cell_of_row w _ _ _ _ _ hg, Nat.zero_add]
      have h3 : (cur.toList.take (l.length * k))[j]? = (Sort.flatK enc k l.toArray).toList[j]? := by rw [htake, hfl]
      rw [List.getElem?_take, if_pos hj, Array.getElem?_toList, Array.getElem?_toList] at h3
      rw [h3, Array.getElem?_eq_getElem (by rw [hsz]; exact hj), getElem!_pos _ _ (by rw [hsz]; exact hj)]
      rfl
    have hC : CmpLays P g #[] enc k cf gb 0 l.toArray.size w := fun m os dk _ x y => (hcmp _ x y).mono fun e' w' he => ⟨he.1, he.2.grow⟩
    have hcon := AnyQ.slices_SortFunc_total L k aE zE enc hk h1 cf hO g #[] gb 0 c l.toArray w eg hC hH hblk (by simpa using hn) hT
    have e0 : l.toArray.size = l.length := by simp
    rw [e0] at hcon
    refine hcon.mono fun e' w' he => ?_
    obtain ⟨rfl, n, os, hw'⟩ := he
    refine ⟨rfl, ?_⟩
    have e1 : l.toArray.toList = l := rfl
    rw [e1] at hw'
    generalize hl' : (l.mergeSort fun x y => !(ltOf cf) y x) = l' at hw' ⊢
    have hlen : l'.length = l.length := by rw [← hl']; exact List.length_mergeSort l
    have hobl : obl (.slice (some ⟨gb, 0, none⟩) l.length c) = some gb := obl_pos _ _ hcap
    have hsz' : (Sort.flatK enc k l'.toArray).size = l.length * k := by simp [hlen]
    have hheap : ∀ i, i < w.heap.size → w'.heap[i]? = (w.heap.modify gb (Sort.onCells (Sort.putCells id 0 (Sort.flatK enc k l'.toArray))))[i]? := fun i hi => by
      rw [hw']
      show (Sort.grow _ os).heap[i]? = _
      rw [Sort.heap_grow_old _ _ (by simpa [Sort.putRowK, Sort.size_putRow] using hi)]
      rfl
    have hwg : w'.heap[gb]? = some (.cells (Sort.putCells id 0 (Sort.flatK enc k l'.toArray) cur) e (0, 0)) := by
      rw [hheap gb hblk, Array.getElem?_modify, if_pos rfl, hg]
      rfl
    have hother : ∀ i, i < w.heap.size → some i ≠ some gb → w'.heap[i]? = w.heap[i]? := fun i hi hne => by
      rw [hheap i hi, Array.getElem?_modify, if_neg (fun h => hne (by rw [h]))]
    have hsize : w.heap.size ≤ w'.heap.size := by
      rw [hw']
      show _ ≤ (Sort.grow _ os).heap.size
      rw [Sort.size_grow]
      simp only [Sort.putRowK, Sort.size_putRow]
      exact Nat.le_add_right _ _
    have hrest : (w'.os = w.os ∧ w'.tape = w.tape ∧ w'.output = w.output) ∧ w.drawn ≤ w'.drawn := by
      rw [hw']
      exact ⟨⟨rfl, rfl, rfl⟩, Nat.le_add_right _ _⟩
    obtain ⟨q1, q2⟩ := turns_memTo (B := B) (M := M) (T := some gb) (U := some gb) hw (fun i hi => by cases hi; exact ⟨by rw [hM]; simp, hBg⟩) (fun i hi => .inl hi) hrest.1 hrest.2 hsize hother
    rw [hobl]
    refine ⟨_, ⟨.inr ⟨gb, c, Sort.putCells id 0 (Sort.flatK enc k l'.toArray) cur, rfl, hcap, hBg, ?_, by rw [hlen]; exact hlc, hcm, by simp [Sort.putCells, hcs], ?_⟩, q2⟩, q1⟩
    · unfold memTo
      rw [if_pos rfl]
      exact hwg
    · have := putCells_take (Sort.flatK enc k l'.toArray) cur (by rw [hsz']; exact hle)
      rw [hsz', flatK_list hk l'] at this
      rw [hlen]
      exact this

end
end AE
end Go.Proofs.YtheaofepenbcgaaGreatDoor

/- slices.SortFunc of the library, laid at this program (by the kit's tool for plain layings). -/
namespace Go.Proofs.YtheaofepenbcgaaGreatDoor
open Go Go.Proofs Go.RowKit Go.Shelf
namespace AE
def sortRen : Go.Shelf.Ren := ⟨fun | 6 => 28 | 15 => 45 | 14 => 44 | 28 => 65 | 29 => 66 | 20 => 57 | 21 => 58 | 22 => 59 | 23 => 60 | 24 => 61 | 25 => 62 | 26 => 63 | 27 => 64 | 46 => 78 | 47 => 79 | 48 => 80 | 49 => 81 | 50 => 82 | 57 => 96 | n => n, fun | 22 => 22 | 24 => 24 | 25 => 29 | 3 => 3 | 39 => 66 | 0 => 0 | 53 => 86 | 55 => 88 | 4 => 4 | 46 => 79 | 45 => 78 | 50 => 83 | 5 => 5 | 9 => 9 | 66 => 99 | 70 => 103 | 76 => 121 | 77 => 122 | n => n, fun | n => n⟩
theorem sortLays : Go.Proofs.SlLaysF0.n6 Tryz.prog sortRen := {
  mixed := by kernel_rfl
  f6 := ⟨Tryz.f28.name, by decide, Tryz.func28.trans (congrArg some (by kernel_rfl))⟩
  f14 := ⟨Tryz.f44.name, by decide, Tryz.func44.trans (congrArg some (by kernel_rfl))⟩
  f15 := Tryz.func45.trans (congrArg some (by kernel_rfl))
  f20 := ⟨Tryz.f57.name, by decide, Tryz.func57.trans (congrArg some (by kernel_rfl))⟩
  f21 := ⟨Tryz.f58.name, by decide, Tryz.func58.trans (congrArg some (by kernel_rfl))⟩
  f22 := ⟨Tryz.f59.name, by decide, Tryz.func59.trans (congrArg some (by kernel_rfl))⟩
  f23 := ⟨Tryz.f60.name, by decide, Tryz.func60.trans (congrArg some (by kernel_rfl))⟩
  f24 := ⟨Tryz.f61.name, by decide, Tryz.func61.trans (congrArg some (by kernel_rfl))⟩
  f25 := ⟨Tryz.f62.name, by decide, Tryz.func62.trans (congrArg some (by kernel_rfl))⟩
  f26 := ⟨Tryz.f63.name, by decide, Tryz.func63.trans (congrArg some (by kernel_rfl))⟩
  f27 := ⟨Tryz.f64.name, by decide, Tryz.func64.trans (congrArg some (by kernel_rfl))⟩
  f28 := Tryz.func65.trans (congrArg some (by kernel_rfl))
  f29 := Tryz.func66.trans (congrArg some (by kernel_rfl))
  f46 := ⟨Tryz.f78.name, by decide, Tryz.func78.trans (congrArg some (by kernel_rfl))⟩
  f47 := Tryz.func79.trans (congrArg some (by kernel_rfl))
  f48 := Tryz.func80.trans (congrArg some (by kernel_rfl))
  f49 := ⟨Tryz.f81.name, by decide, Tryz.func81.trans (congrArg some (by kernel_rfl))⟩
  f50 := ⟨Tryz.f82.name, by decide, Tryz.func82.trans (congrArg some (by kernel_rfl))⟩
  f57 := ⟨Tryz.f96.name, by decide, Tryz.func96.trans (congrArg some (by kernel_rfl))⟩
  t0 := Tryz.underlying0
  a0 := Tryz.isAgg0
  z0 := Tryz.sizeOf0
  v0 := Tryz.zeroValue0
  t3 := Tryz.underlying3
  a3 := Tryz.isAgg3
  z3 := Tryz.sizeOf3
  v3 := Tryz.zeroValue3
  t4 := Tryz.underlying4
  a4 := Tryz.isAgg4
  z4 := Tryz.sizeOf4
  v4 := Tryz.zeroValue4
  t5 := Tryz.underlying5
  a5 := Tryz.isAgg5
  z5 := Tryz.sizeOf5
  v5 := Tryz.zeroValue5
  t9 := Tryz.underlying9
  a9 := Tryz.isAgg9
  z9 := Tryz.sizeOf9
  v9 := Tryz.zeroValue9
  t22 := Tryz.underlying22
  a22 := Tryz.isAgg22
  z22 := Tryz.sizeOf22
  v22 := Tryz.zeroValue22
  t25 := Tryz.underlying29
  a25 := Tryz.isAgg29
  z25 := Tryz.sizeOf29
  v25 := Tryz.zeroValue29
  t39 := Tryz.underlying66
  a39 := Tryz.isAgg66
  z39 := Tryz.sizeOf66
  v39 := Tryz.zeroValue66
  t45 := Tryz.underlying78
  a45 := Tryz.isAgg78
  z45 := Tryz.sizeOf78
  v45 := Tryz.zeroValue78
  t46 := Tryz.underlying79
  a46 := Tryz.isAgg79
  z46 := Tryz.sizeOf79
  v46 := Tryz.zeroValue79
  t50 := Tryz.underlying83
  a50 := Tryz.isAgg83
  z50 := Tryz.sizeOf83
  v50 := Tryz.zeroValue83
  t53 := Tryz.underlying86
  a53 := Tryz.isAgg86
  z53 := Tryz.sizeOf86
  v53 := Tryz.zeroValue86
  t55 := Tryz.underlying88
  a55 := Tryz.isAgg88
  z55 := Tryz.sizeOf88
  v55 := Tryz.zeroValue88
  t66 := Tryz.underlying99
  a66 := Tryz.isAgg99
  z66 := Tryz.sizeOf99
  v66 := Tryz.zeroValue99
  t70 := Tryz.underlying103
  a70 := Tryz.isAgg103
  z70 := Tryz.sizeOf103
  v70 := Tryz.zeroValue103
  t76 := Tryz.underlying121
  a76 := Tryz.isAgg121
  z76 := Tryz.sizeOf121
  v76 := Tryz.zeroValue121
  t77 := Tryz.underlying122
  a77 := Tryz.isAgg122
  z77 := Tryz.sizeOf122
  v77 := Tryz.zeroValue122 }

end AE
end Go.Proofs.YtheaofepenbcgaaGreatDoor

/- The orders of stamps: Compare's, and that of Orderly; calls of them by contract. -/
namespace Go.Proofs.YtheaofepenbcgaaGreatDoor
open Go Go.Proofs Go.RowKit
namespace AE

theorem callCmpI [Sig] {x y r : Value} {a b : Int} (hp : plainSL [x, y] = true) (hr : plainS r = true) (ev : interpL [x, y] = [.int .i64 a, .int .i64 b]) (er : interp r = .int .i64 (signI a b)) : CallFactOk Tryz.prog (33, [x, y], r) :=
  callAny (a := #[.int .i64 a, .int .i64 b]) hp hr ev er fun w _ => (cmpCompare_any a b w).mono fun e w' h => ⟨h.1, h.2 ▸ Low.refl _ _⟩
theorem callCmpS [Sig] {x y r : Value} {p q : St} (hp : plainSL [x, y] = true) (hr : plainS r = true) (ev : interpL [x, y] = [p.val, q.val]) (er : interp r = .int .i64 (cmpS p q)) : CallFactOk Tryz.prog (12, [x, y], r) :=
  callAny (a := #[p.val, q.val]) hp hr ev er fun w _ => compare_any _ _ _ _ _ _ _ _ w

/-- The order of Orderly: by the site, the number, and the merge order. -/
def cmpO (p q : St) : Int := if signI p.2.2.1 q.2.2.1 ≠ 0 then signI p.2.2.1 q.2.2.1 else if signI p.2.2.2 q.2.2.2 ≠ 0 then signI p.2.2.2 q.2.2.2 else cmpS p q

theorem cmpO_1 {p q : St} (h : ¬ signI p.2.2.1 q.2.2.1 = 0) : signI p.2.2.1 q.2.2.1 = cmpO p q := by unfold cmpO; rw [if_pos h]
theorem cmpO_2 {p q : St} (h : signI p.2.2.1 q.2.2.1 = 0) (h2 : ¬ signI p.2.2.2 q.2.2.2 = 0) : signI p.2.2.2 q.2.2.2 = cmpO p q := by unfold cmpO; rw [if_neg (fun h3 => h3 h), if_pos h2]
theorem cmpO_3 {p q : St} (h : signI p.2.2.1 q.2.2.1 = 0) (h2 : signI p.2.2.2 q.2.2.2 = 0) : cmpS p q = cmpO p q := by unfold cmpO; rw [if_neg (fun h3 => h3 h), if_neg (fun h3 => h3 h2)]

theorem signI_neg {a b : Int} : signI a b < 0 ↔ a < b := by unfold signI; split <;> (try split) <;> omega
theorem signI_zero {a b : Int} : signI a b = 0 ↔ a = b := by unfold signI; split <;> (try split) <;> omega

theorem cmpS_neg (p q : St) : cmpS p q < 0 ↔ p.1 < q.1 ∨ (p.1 = q.1 ∧ (p.2.1 < q.2.1 ∨ (p.2.1 = q.2.1 ∧ (p.2.2.1 < q.2.2.1 ∨ (p.2.2.1 = q.2.2.1 ∧ p.2.2.2 < q.2.2.2))))) := by
  unfold cmpS cmpI
  have h1 := @signI_neg p.1 q.1
  have h2 := @signI_zero p.1 q.1
  have h3 := @signI_neg p.2.1 q.2.1
  have h4 := @signI_zero p.2.1 q.2.1
  have h5 := @signI_neg p.2.2.1 q.2.2.1
  have h6 := @signI_zero p.2.2.1 q.2.2.1
  have h7 := @signI_neg p.2.2.2 q.2.2.2
  split
  · omega
  · split
    · omega
    · split <;> omega

theorem cmpO_neg (p q : St) : cmpO p q < 0 ↔ p.2.2.1 < q.2.2.1 ∨ (p.2.2.1 = q.2.2.1 ∧ (p.2.2.2 < q.2.2.2 ∨ (p.2.2.2 = q.2.2.2 ∧ cmpS p q < 0))) := by
  unfold cmpO
  have h5 := @signI_neg p.2.2.1 q.2.2.1
  have h6 := @signI_zero p.2.2.1 q.2.2.1
  have h7 := @signI_neg p.2.2.2 q.2.2.2
  have h8 := @signI_zero p.2.2.2 q.2.2.2
  split
  · omega
  · split <;> omega

theorem ltS (p q : St) : ltOf cmpS p q = true ↔ p.1 < q.1 ∨ (p.1 = q.1 ∧ (p.2.1 < q.2.1 ∨ (p.2.1 = q.2.1 ∧ (p.2.2.1 < q.2.2.1 ∨ (p.2.2.1 = q.2.2.1 ∧ p.2.2.2 < q.2.2.2))))) := by
  unfold ltOf
  rw [decide_eq_true_iff]
  exact cmpS_neg p q
theorem ltO (p q : St) : ltOf cmpO p q = true ↔ p.2.2.1 < q.2.2.1 ∨ (p.2.2.1 = q.2.2.1 ∧ (p.2.2.2 < q.2.2.2 ∨ (p.2.2.2 = q.2.2.2 ∧ (p.1 < q.1 ∨ (p.1 = q.1 ∧ p.2.1 < q.2.1))))) := by
  unfold ltOf
  rw [decide_eq_true_iff, cmpO_neg, cmpS_neg]
  omega

theorem ltFalse {b : Bool} {p : Prop} (h : b = true ↔ p) : b = false ↔ ¬ p := by cases b <;> simp_all

theorem swoS : Sort.SWO (ltOf cmpS) where
  irrefl x := (ltFalse (ltS x x)).2 (by omega)
  trans x y z h1 h2 := by rw [ltS] at *; omega
  ntrans x y z h1 h2 := by rw [ltFalse (ltS _ _)] at *; omega
theorem swoO : Sort.SWO (ltOf cmpO) where
  irrefl x := (ltFalse (ltO x x)).2 (by omega)
  trans x y z h1 h2 := by rw [ltO] at *; omega
  ntrans x y z h1 h2 := by rw [ltFalse (ltO _ _)] at *; omega
theorem stEq {x y : St} (h1 : x.1 = y.1) (h2 : x.2.1 = y.2.1) (h3 : x.2.2.1 = y.2.2.1) (h4 : x.2.2.2 = y.2.2.2) : x = y := by
  obtain ⟨a, b, c, d⟩ := x
  obtain ⟨a', b', c', d'⟩ := y
  simp only at h1 h2 h3 h4
  rw [h1, h2, h3, h4]
theorem totS (x y : St) (h1 : ltOf cmpS x y = false) (h2 : ltOf cmpS y x = false) : x = y := by
  rw [ltFalse (ltS _ _)] at *
  exact stEq (by omega) (by omega) (by omega) (by omega)
theorem totO (x y : St) (h1 : ltOf cmpO x y = false) (h2 : ltOf cmpO y x = false) : x = y := by
  rw [ltFalse (ltO _ _)] at *
  exact stEq (by omega) (by omega) (by omega) (by omega)

/-- Stamps in the merge order; in the order of Orderly. -/
def sortS (l : List St) : List St := l.mergeSort fun x y => !(ltOf cmpS) y x
def sortO (l : List St) : List St := l.mergeSort fun x y => !(ltOf cmpO) y x
theorem sortS_len (l : List St) : (sortS l).length = l.length := List.length_mergeSort l
theorem sortO_len (l : List St) : (sortO l).length = l.length := List.length_mergeSort l

theorem oarrLen {B : Nat} {M : Mem} {a : Option Addr} {c n : Nat} {l : List St} (h : OArr B M elS 4 encS (.slice a l.length c) l) (hn : l.length = n) : OArr B M elS 4 encS (.slice a n c) l := by subst hn; exact h

theorem sortCmp {B : Nat} {M : Mem} {a : Option Addr} {c : Nat} {l : List St} {w : World} (hA : OArr B M elS 4 encS (.slice a l.length c) l) (hw : ∀ i o, M i = some o → w.heap[i]? = some o) (hB : B ≤ w.heap.size) (hn : l.length ≤ 1000000) :
    Calls Tryz.prog 28 #[.slice a l.length c, .func (.func 12) #[] #[]] w fun e' w' => e' = .returned (.tuple #[]) ∧ ∃ M', (OArr B M' elS 4 encS (.slice a l.length c) (sortS l) ∧ Keeps M M' (obl (.slice a l.length c))) ∧ Turns B M M' (obl (.slice a l.length c)) w w' :=
  (sortOwn sortLays (pureRun_run aggSt) (pureRun_run sizeSt) hkS honeS cmpS swoS totS 12 (enters_of Tryz.func12 (by kernel_rfl) rfl) (fun w x y => compare_any _ _ _ _ _ _ _ _ w) hA hw hB (by omega)).mono fun e' w' he => by
    obtain ⟨h1, M', ⟨h2, h3⟩, h4⟩ := he
    exact ⟨h1, M', ⟨oarrLen h2 (sortS_len l), h3⟩, h4⟩

end AE
end Go.Proofs.YtheaofepenbcgaaGreatDoor

/- slices.Clone at stamps -/
namespace Go.Proofs.YtheaofepenbcgaaGreatDoor
open Go Go.Proofs Go.RowKit
namespace AE
-- stops at: slices.Clone[[]voxel/api.Stamp,voxel/api.Stamp]: STUCK slices.go:362 operands [.slice (some ⟨0, 0, none⟩) 0 0, symv 0]
namespace CloneG
noncomputable def body : Code := (Tryz.f27.body).getD .skip
def N : Nat := 8
noncomputable abbrev at' (N : Nat) (F : List (FOp × Value)) (C : List (FuncId × List Value × Value)) (c : Code) (s : ASt) : Option Stop := evalTo Tryz.prog F C N 1000 10 c s
noncomputable abbrev leave' (N : Nat) (F : List (FOp × Value)) (C : List (FuncId × List Value × Value)) (ks : List KI) (o : Option Stop) : Option Stop := evalLeave Tryz.prog F C N 1000 10 ks o
noncomputable abbrev unr' (N : Nat) (F : List (FOp × Value)) (C : List (FuncId × List Value × Value)) (m : Nat) (o : Option Stop) : Option Stop := evalUnroll Tryz.prog F C N 1000 10 m o
noncomputable abbrev res' (N : Nat) (F : List (FOp × Value)) (C : List (FuncId × List Value × Value)) (ks : List KI) (x : AX) (s : ASt) : Option Stop := evalRes Tryz.prog F C N 1000 10 ks x s
noncomputable abbrev ops' (N : Nat) (F : List (FOp × Value)) (C : List (FuncId × List Value × Value)) (r : List Oper) (ops : Array Oper) (ks : List KI) (s : ASt) : Option Stop := evalOps Tryz.prog F C N 1000 10 r ops ks s
def s0 : ASt := { sl := slots [(0, symv 0)], ms := [], A := start }
def F0 : List (FOp × Value) := [(.bin .eql 22 (symv 0) (.slice none 0 0), .bool true)]
def C0 : List (FuncId × List Value × Value) := []
set_option maxRecDepth 100000 in
theorem e0 : endVal Tryz.prog Tryz.f27 (at' 8 F0 C0 body s0) = some (.slice none 0 0) := by kernel_rfl
def F1 : List (FOp × Value) := [(.bin .eql 22 (symv 0) (.slice none 0 0), .bool false)]
def C1 : List (FuncId × List Value × Value) := []
set_option maxRecDepth 100000 in
theorem e1 : appOf 22 (at' 8 F1 C1 body s0) = some (.slice (some ⟨0, 0, none⟩) 0 0, symv 0) := by kernel_rfl
noncomputable abbrev so0 := at' 8 F1 C1 body s0
noncomputable def bk0 : List Bk := []
def hd0 : Sl := slots [(2, .slice none 0 0)]
def hp0 : Sl := match aput 8 hd0 (some 7) (symv 1) with | some s => s | none => .nil
set_option maxRecDepth 100000 in
theorem e2 : trAll (stopSt so0) hd0 bk0 = some [] := by kernel_rfl
set_option maxRecDepth 100000 in
theorem e3 : aput 8 hd0 (stopDst so0) (symv 1) = some hp0 := by kernel_rfl
def F2 : List (FOp × Value) := []
def C2 : List (FuncId × List Value × Value) := []
set_option maxRecDepth 100000 in
theorem e4 : endVal Tryz.prog Tryz.f27 (ops' 8 F2 C2 (stopRest so0) (stopOps so0) (stopKs so0) { sl := hp0, ms := [], A := mkAS bk0 }) = some (symv 1) := by kernel_rfl
@[reducible] noncomputable def vL (l : List St) (a_l : Option Addr) (c_l : Nat) (b0 : List St) (a0 : Option Addr) (c0 : Nat) : List Value := [.slice a_l l.length c_l, .slice a0 b0.length c0]
@[reducible] noncomputable def sg (M : Mem) (l : List St) (a_l : Option Addr) (c_l : Nat) (b0 : List St) (a0 : Option Addr) (c0 : Nat) : Sig := sgL M (vL l a_l c_l b0 a0 c0)
set_option maxHeartbeats 4000000 in
set_option maxRecDepth 100000 in
theorem any (W : World) {v_l : Value} {l : List St} (hl : Arr (heapOf W) 4 encS v_l l) (hn : l.length ≤ 100000) : Calls Tryz.prog 27 #[v_l] W fun e w' => (∃ a c, e = .returned (.slice a l.length c) ∧ OArr W.heap.size (heapOf w') elS 4 encS (.slice a l.length c) l) ∧ Low W.heap.size W w' := by
  obtain ⟨a_l, c_l, rfl⟩ := hl.slice
  refine @walk_enter (sg (heapOf W) l a_l c_l [] none 0) Tryz.prog 27 Tryz.f27 body [symv 0] (slots [(0, symv 0)]) N W _ Tryz.func27 (by kernel_rfl) (by kernel_rfl) (by kernel_rfl) (by kernel_rfl) (immW_sgL W _) fun a hh => ?_
  letI := (sg (heapOf W) l a_l c_l [] none 0)
  by_cases h0 : a_l = none
  · refine walk_to (F := F0) (T := C0) (fuel := 1000) (d := 10) mixed (allF_cons (FactOk.nilEqT rfl under27 rfl h0) allF_nil) allC_nil ?_ hh
    exact ostop_end e0 fun w2 hLow hIn => ⟨(by first | (subst h0; exact newEnd_nil hl.isNil) | exact newEnd %last (by rw [hb0]; rfl) hIn), hLow⟩   -- returns .slice none 0 0
  · refine walk_to (F := F1) (T := C1) (fuel := 1000) (d := 10) mixed (allF_cons (FactOk.nilEqF rfl under27 rfl h0) allF_nil) allC_nil ?_ hh
    obtain ⟨b0, hb0⟩ : ∃ b0 : List St, b0 = [] ++ l := ⟨_, rfl⟩
    have hn0 : b0.length = 0 + l.length := by rw [hb0]; first | rfl | simp
    refine ostop_appendO (l := []) (lx := l) (l' := b0) (vals2 := fun a c => (vL l a_l c_l b0 a c)) (T := none) hb0 e1 underSl infoS zeroS iszS ibyS zszS (by decide) hkS honeS e2 e3 rfl (appTo_blk (by kernel_rfl)) (app_sym rfl rfl fun w hw => hl.reads hkS hw) (lenMax (show 0 + l.length ≤ 1000000 by omega)) (show (0 + l.length) * bytesS ≤ 140737488355328 by unfold bytesS; omega) (fun _ _ _ => meet_nil) (fun _ _ _ => rfl) ?_
    intro M0 a0 c0 hO0 hK0 hT0 a w hh
    have hM0 := hK0.up hT0 (Nat.le_refl _) (fun _ _ h => h)
    letI := (sg M0 l a_l c_l b0 a0 c0)
    refine walk_ops (F := F2) (T := C2) (fuel := 1000) (d := 10) mixed allF_nil allC_nil ?_ hh
    exact ostop_end e4 fun w2 hLow hIn => ⟨(by first | (subst h0; exact newEnd_nil hl.isNil) | exact newEnd hO0 (by rw [hb0]; rfl) hIn), hLow⟩   -- returns symv 1
end CloneG
end AE
end Go.Proofs.YtheaofepenbcgaaGreatDoor

/- AE, R: views of arrays, stores into arrays of the call's own, functions that turn an array that is handed to them. -/
namespace Go.Proofs.YtheaofepenbcgaaGreatDoor
open Go Go.RowKit
namespace AE

theorem flat_take {α : Type} {k : Nat} {enc : α → List Value} (hk : ∀ x, (enc x).length = k) : ∀ (l : List α) (j : Nat), (l.take j).flatMap enc = (l.flatMap enc).take (j * k)
  | [], j => by simp
  | x :: r, 0 => by simp
  | x :: r, j + 1 => by
    have h1 : (enc x).take ((j + 1) * k) = enc x := List.take_of_length_le (by rw [hk, Nat.add_mul]; omega)
    rw [List.take_succ_cons, List.flatMap_cons, List.flatMap_cons, flat_take hk r j, List.take_append, h1, hk, show (j + 1) * k - k = j * k by rw [Nat.add_mul]; omega]

theorem flat_drop {α : Type} {k : Nat} {enc : α → List Value} (hk : ∀ x, (enc x).length = k) : ∀ (l : List α) (j : Nat), (l.drop j).flatMap enc = (l.flatMap enc).drop (j * k)
  | [], j => by simp
  | x :: r, 0 => by simp
  | x :: r, j + 1 => by
    have h1 : (enc x).drop ((j + 1) * k) = [] := List.drop_eq_nil_of_le (by rw [hk, Nat.add_mul]; omega)
    rw [List.drop_succ_cons, List.flatMap_cons, flat_drop hk r j, List.drop_append, h1, hk, List.nil_append, show (j + 1) * k - k = j * k by rw [Nat.add_mul]; omega]

/- VIEWS -/

/-- The place of a slice's rest. -/
def dropA (a : Option Addr) (c j k : Nat) : Option Addr := if c = j then a else a.map fun a => a.add (j * k)

section
variable {α : Type} {B : Nat} {M : Mem} {e : TypeId} {k : Nat} {enc : α → List Value} {a : Option Addr} {c : Nat} {l : List α}

theorem Arr.take {j n : Nat} (h : Arr M k enc (.slice a n c) l) (hj : j ≤ n) : Arr M k enc (.slice a j c) (l.take j) := by
  obtain rfl : n = l.length := by obtain ⟨_, _, h2⟩ := h.slice; cases h2; rfl
  generalize hv : Value.slice a l.length c = v at h
  have hlen : (l.take j).length = j := by rw [List.length_take]; omega
  cases h with
  | nil a' c' =>
    have : j = 0 := by simpa using hj
    subst this
    exact .nil _ _
  | mk h1 h2 h3 =>
    cases hv
    have := Arr.mk (enc := enc) (k := k) (l := l.take j) (c := c) h1 (by rw [hlen]; omega) fun i x hx u w hw => by
      rw [List.getElem?_take] at hx
      split at hx
      · exact h3 i x hx u w hw
      · cases hx
    rw [hlen] at this
    exact this

theorem Arr.drop {j n : Nat} (h : Arr M k enc (.slice a n c) l) (hj : j ≤ n) : Arr M k enc (.slice (dropA a c j k) (n - j) (c - j)) (l.drop j) := by
  obtain rfl : n = l.length := by obtain ⟨_, _, h2⟩ := h.slice; cases h2; rfl
  have hlen : (l.drop j).length = l.length - j := List.length_drop
  rcases Nat.lt_or_ge j l.length with hlt | hge
  · generalize hv : Value.slice a l.length c = v at h
    cases h with
    | nil a' c' => simp at hlt
    | mk h1 h2 h3 =>
      rename_i b off c' cs ty fr
      cases hv
      have hd : dropA (some ⟨b, off, none⟩) c j k = some ⟨b, off + j * k, none⟩ := by
        unfold dropA
        rw [if_neg (by omega)]
        simp only [Option.map_some, Addr.add_at]
      rw [hd]
      have := Arr.mk (enc := enc) (k := k) (l := l.drop j) (off := off + j * k) (c := c - j) h1 (by rw [hlen]; omega) fun i x hx u w hw => by
        rw [List.getElem?_drop] at hx
        have := h3 (j + i) x hx u w hw
        rw [Nat.add_mul] at this
        rw [← this]
        congr 1
        omega
      rw [hlen] at this
      exact this
  · have h0 : l.length - j = 0 := by omega
    rw [h0, List.drop_eq_nil_of_le hge]
    exact .nil _ _

theorem OArr.take (hk : ∀ x, (enc x).length = k) {j n : Nat} (h : OArr B M e k enc (.slice a n c) l) (hj : j ≤ l.length) : OArr B M e k enc (.slice a j c) (l.take j) := by
  have hlen : (l.take j).length = j := by rw [List.length_take]; omega
  rcases h with ⟨a', h0, rfl⟩ | ⟨g, cap, cur, h0, h1, h2, h3, h4, h5, h6, h7⟩
  · cases h0
    have : j = 0 := by simpa using hj
    subst this
    exact .inl ⟨_, rfl, rfl⟩
  · cases h0
    refine .inr ⟨g, c, cur, by rw [hlen], h1, h2, h3, by rw [hlen]; omega, h5, h6, ?_⟩
    rw [hlen]
    have h8 : (cur.toList.take (l.length * k)).take (j * k) = (l.flatMap enc).take (j * k) := by rw [h7]
    rw [List.take_take, Nat.min_eq_left (Nat.mul_le_mul_right k hj)] at h8
    rw [h8, flat_take hk]

/-- Elements laid into an array of one's own. -/
theorem own_put {v : Value} {w : World} (hk : ∀ x, (enc x).length = k) (hone : ∀ x, ∀ u ∈ enc x, u.oneCell' = true) (hA : OArr B M e k enc v l) (hw : ∀ i o, M i = some o → w.heap[i]? = some o) (h0 : 0 < l.length) (i : Nat) (xs : List α) (hi : i + xs.length ≤ l.length) :
    ∃ g c w', v = .slice (some ⟨g, 0, none⟩) l.length c ∧ l.length ≤ c ∧ (∀ P, (storeCells ⟨g, i * k, none⟩ (xs.flatMap enc)).run P w = .ok () w') ∧ ∃ M', OArr B M' e k enc v (l.take i ++ xs ++ l.drop (i + xs.length)) ∧ Turns B M M' (obl v) w w' ∧ Keeps M M' (obl v) := by
  rcases hA with ⟨a, rfl, rfl⟩ | ⟨g, cap, cur, rfl, hcap, hBg, hM, hlc, hcm, hcs, htake⟩
  · exact absurd h0 (by simp)
  · have hg := hw _ _ hM
    have hfl := flat_len hk xs
    have hik : i * k + xs.length * k ≤ l.length * k := by rw [← Nat.add_mul]; exact Nat.mul_le_mul_right k hi
    have hlk : l.length * k ≤ cur.size := by rw [hcs]; exact Nat.mul_le_mul_right k hlc
    have h1 : ∀ u ∈ xs.flatMap enc, u.oneCell' = true := fun u hu => by
      obtain ⟨y, _, hy⟩ := List.mem_flatMap.1 hu
      exact hone y u hy
    let cur' : Array Value := (cur.toList.take (i * k) ++ xs.flatMap enc ++ cur.toList.drop (i * k + (xs.flatMap enc).length)).toArray
    have hrun : ∀ P, (storeCells ⟨g, i * k, none⟩ (xs.flatMap enc)).run P w = .ok () (w.setRow g cur') := fun P => by
      have := run_storeCells_at P g (i * k) e (xs.flatMap enc) 0 cur w hg (by rw [hfl]; omega) h1
      simpa only [Nat.add_zero] using this
    have hsz : cur'.size = cap * k := by
      show (cur.toList.take (i * k) ++ xs.flatMap enc ++ cur.toList.drop (i * k + (xs.flatMap enc).length)).toArray.size = _
      simp only [List.size_toArray, List.length_append, List.length_take, List.length_drop, Array.length_toList, hfl]
      omega
    obtain ⟨q1, q2⟩ := turns_memTo (B := B) (M := M) (w' := w.setRow g cur') (T := some g) (U := some g) hw (fun i hi => by cases hi; exact ⟨by rw [hM]; simp, hBg⟩) (fun i hi => .inl hi) ⟨rfl, rfl, rfl⟩ (Nat.le_refl _) (by simp [World.setRow]) (fun j _ hj => setRow_other w g j cur' (fun h => hj (by rw [h])))
    have hlen' : (l.take i ++ xs ++ l.drop (i + xs.length)).length = l.length := by
      simp only [List.length_append, List.length_take, List.length_drop]
      omega
    refine ⟨g, cap, w.setRow g cur', rfl, hlc, hrun, ?_⟩
    rw [obl_pos _ _ hcap]
    refine ⟨_, .inr ⟨g, cap, cur', by rw [hlen'], hcap, hBg, ?_, by rw [hlen']; exact hlc, hcm, hsz, ?_⟩, q1, q2⟩
    · unfold memTo
      rw [if_pos rfl]
      exact setRow_heap w g cur cur' e (0, 0) hg
    · rw [hlen', List.flatMap_append, List.flatMap_append, flat_take hk, flat_drop hk, ← htake]
      show (cur.toList.take (i * k) ++ xs.flatMap enc ++ cur.toList.drop (i * k + (xs.flatMap enc).length)).take (l.length * k) = _
      have l1 : (cur.toList.take (i * k) ++ xs.flatMap enc).length = i * k + xs.length * k := by
        rw [List.length_append, List.length_take, Array.length_toList, hfl, Nat.min_eq_left (by omega)]
      rw [hfl, List.take_append, l1, List.take_of_length_le (by rw [l1]; exact hik), List.take_take, Nat.min_eq_left (by omega), Nat.add_mul, List.drop_take]
end

section
variable [Sig] {P : Program}

omit [Sig] in
theorem addr_add0 (a : Addr) (n : Nat) : a.add (0 * n) = a := by
  rw [Nat.zero_mul]
  cases a
  simp [Addr.add]

omit [Sig] in
theorem run_slcLo {t e : TypeId} {sz : Nat} (ht : P.underlying t = some (.slice e)) (hsz : pureRun P (sizeOf e) = some sz) (a : Option Addr) (n c j : Nat) (hj : j ≤ n) (w : World) :
    (Instr.sliceAt t (.slice a n c) (some (.int .i64 j)) none none).run P w = .ok (.slice (dropA a c j sz) (n - j) (c - j)) w := by
  have hb : (Instr.sliceBound (.int .i64 (j : Int)) n .sliceB).run P w = .ok j w := by
    have := run_sliceBound (P := P) (w := w) .i64 (j : Int) n .sliceB (by omega) (by omega)
    simpa using this
  simp [Instr.sliceAt, Instr.slice, run_underlying ht, Instr.sliceBounds, hb, pureRun_run hsz w, dropA]

omit [Sig] in
theorem run_slcHi {t e : TypeId} {sz : Nat} (ht : P.underlying t = some (.slice e)) (hsz : pureRun P (sizeOf e) = some sz) (a : Option Addr) (n c j : Nat) (hj : j ≤ c) (w : World) :
    (Instr.sliceAt t (.slice a n c) none (some (.int .i64 j)) none).run P w = .ok (.slice a j c) w := by
  have hb : (Instr.sliceBound (.int .i64 (j : Int)) c .sliceAcap).run P w = .ok j w := by
    have := run_sliceBound (P := P) (w := w) .i64 (j : Int) c .sliceAcap (by omega) (by omega)
    simpa using this
  simp [Instr.sliceAt, Instr.slice, run_underlying ht, Instr.sliceBounds, hb, pureRun_run hsz w]
  intro _
  cases a with
  | none => rfl
  | some a =>
    have := addr_add0 a sz
    rw [Nat.zero_mul] at this
    simpa using this

theorem FactOk.slcLo {t e : TypeId} {sz : Nat} {x i r : Value} {a : Option Addr} {n c j : Nat} (hx : plainS x = true) (hi : plainS i = true) (hr : plainS r = true) (ht : P.underlying t = some (.slice e)) (hsz : pureRun P (sizeOf e) = some sz) (ex : interp x = .slice a n c) (ei : interp i = .int .i64 (j : Int)) (hj : j ≤ n)
    (er : interp r = .slice (dropA a c j sz) (n - j) (c - j)) : FactOk P (.slc t x (some i) none none, r) := by
  refine ⟨by simp [plainF, plainO, hx, hi], hr, fun xo yo w _ => ?_⟩
  show (semF xo yo (.slc t (interp x) (some (interp i)) none none)).run P w = _
  rw [ex, ei, er]
  unfold semF
  simp only [Sem.run_bind, run_slcLo ht hsz a n c j hj w, Result.andThen_ok]
  rfl

theorem FactOk.slcHi {t e : TypeId} {sz : Nat} {x i r : Value} {a : Option Addr} {n c j : Nat} (hx : plainS x = true) (hi : plainS i = true) (hr : plainS r = true) (ht : P.underlying t = some (.slice e)) (hsz : pureRun P (sizeOf e) = some sz) (ex : interp x = .slice a n c) (ei : interp i = .int .i64 (j : Int)) (hj : j ≤ c)
    (er : interp r = .slice a j c) : FactOk P (.slc t x none (some i) none, r) := by
  refine ⟨by simp [plainF, plainO, hx, hi], hr, fun xo yo w _ => ?_⟩
  show (semF xo yo (.slc t (interp x) none (some (interp i)) none)).run P w = _
  rw [ex, ei, er]
  unfold semF
  simp only [Sem.run_bind, run_slcHi ht hsz a n c j hj w, Result.andThen_ok]
  rfl
end

theorem zero_flat {α : Type} {k : Nat} {enc : α → List Value} {zr : α} {zc : Array Value} (hk : ∀ x, (enc x).length = k) (hz : zc.toList = enc zr) (m : Nat) : (Builtin.zeroCells zc m).toList = (List.replicate m zr).flatMap enc := by
  have hs : zc.size = k := by rw [← Array.length_toList, hz, hk]
  apply List.ext_getElem?
  intro j
  unfold Builtin.zeroCells
  rw [hs, Array.getElem?_toList, Array.getElem?_map]
  rcases Nat.lt_or_ge j (m * k) with hj | hj
  · have k0 : 0 < k := by rcases Nat.eq_zero_or_pos k with h | h; · subst h; simp at hj
                          · exact h
    have hi : j / k < (List.replicate m zr).length := by rw [List.length_replicate]; exact Nat.div_lt_of_lt_mul (by rwa [Nat.mul_comm] at hj)
    have hr : j % k < k := Nat.mod_lt _ k0
    have h2 := flat_get hk (List.replicate m zr) (j / k) zr (by rw [List.getElem?_eq_getElem hi]; simp) (j % k) ((enc zr)[j % k]'(by rw [hk]; exact hr)) (List.getElem?_eq_getElem _)
    rw [Nat.div_add_mod'] at h2
    rw [h2, Array.getElem?_eq_getElem (by simpa using hj)]
    simp only [Array.getElem_range, Option.map_some]
    have hr2 : j % k < zc.size := by omega
    rw [getElem!_pos zc _ hr2]
    have : zc.toList[j % k]? = (enc zr)[j % k]? := by rw [hz]
    rw [Array.getElem?_toList, Array.getElem?_eq_getElem hr2, List.getElem?_eq_getElem (by rw [hk]; exact hr)] at this
    exact this
  · rw [Array.getElem?_eq_none (by simpa using hj), List.getElem?_eq_none (by rw [flat_len hk, List.length_replicate]; exact hj)]
    rfl

/- STORES -/

/-- The store that an evaluation stops at: its type, its place, its value. -/
def stoOf : Option Stop → Option (TypeId × Value × Value)
  | some (.oper o _ ops s _) => match o.op with
    | .store t pO xO => match aWanted ops o s.sl with
      | some true => some (t, evs .nil s.sl pO, evs .nil s.sl xO)
      | _ => none
    | _ => none
  | _ => none

theorem ostop_storeO [Outer] {α : Type} {P : Program} {N B : Nat} {w0 : World} {Q : Exit → Act → World → Prop} {M : Mem} {vals vals2 : List Value} {o : Option Stop} {t e : TypeId} {k : Nat} {p x u : Value} {enc : α → List Value} {l l' : List α} {i : Nat} {y : α} {sl2 sl3 : Sl} {bks : List Bk} {obs : Obs}
    (hl' : l' = l.set i y) (h : stoOf o = some (t, p, x)) (hsz : pureRun P (sizeOf t) = some k) (hk : ∀ x, (enc x).length = k) (hone : ∀ x, ∀ u ∈ enc x, u.oneCell' = true)
    (htr : trAll (stopSt o) sl2 bks = some obs) (hput : aput N sl2 (stopDst o) undef = some sl3) (hp : plainS p = true) (hx : plainS x = true) (ep : @interp (sgL M vals) p = cellPtr u (i * k)) (ex : @interp (sgL M vals) x = .agg ⟨enc y⟩)
    (hO : OArr B M e k enc u l) (hi : i < l.length) (hm : ∀ M', Meet (sgL M vals) (sgL M' vals2) obs)
    (rest : ∀ M', OArr B M' e k enc u l' → Keeps M M' (obl u) → ∀ a' w, @Here (sgL M' vals2) _ N { sl := sl3, ms := [], A := mkAS bks } B w0 a' w → wpListIn (Fr none) 0 P (stopOps o) (KQ P (stopKs o) Q) (stopRest o) a' w)
    (hn : Outer.n0 ≤ bks.length := by first | exact Nat.zero_le _ | exact Nat.le_of_ble_eq_true rfl) (hc : SameC (stopSt o).A bks 0 := by exact sameC_none rfl) : @OStop (sgL M vals) _ P N B w0 Q o := by
  letI := sgL M vals
  unfold stoOf at h
  split at h
  · rename_i op r ops s ks
    refine ⟨_, rfl, fun a w hh => ?_⟩
    split at h
    · rename_i t' pO xO hop
      split at h
      · rename_i hwt
        cases h
        have hh0 := hh
        obtain ⟨⟨φ, ds, h1, h2, h3, h4, _⟩, h5, h6⟩ := hh
        unfold wpListIn
        rw [wanted_spec h2.get hwt, if_pos rfl]
        have es : a.eval pO = cellPtr u (i * k) := (VRel.eq_of_plainS _ hp (evs_rel (gr_nil φ) h2.get pO)).trans ep
        have exx : a.eval xO = .agg ⟨enc y⟩ := (VRel.eq_of_plainS _ hx (evs_rel (gr_nil φ) h2.get xO)).trans ex
        have hw : ∀ i o, M i = some o → w.heap[i]? = some o := hh0.immW
        obtain ⟨g, c, w', rfl, hlc, hrun0, M', g2, g3, g4⟩ := own_put hk hone hO hw (by omega) i [y] (by simp only [List.length_cons, List.length_nil]; omega)
        have hset : l.take i ++ [y] ++ l.drop (i + [y].length) = l.set i y := by
          rw [List.set_eq_take_append_cons_drop, if_pos hi]
          simp
        rw [hset, ← hl'] at g2
        have hrun : (execOp a.eval op).run P w = .ok .skip w' := by
          unfold execOp
          rw [hop]
          simp only [es, exx]
          show (do Instr.storeAt t (cellPtr (.slice (some ⟨g, 0, none⟩) l.length c) (i * k)) (.agg ⟨enc y⟩); pure Next.skip : Sem Next).run P w = _
          have hst : (Instr.storeAt t (cellPtr (.slice (some ⟨g, 0, none⟩) l.length c) (i * k)) (.agg ⟨enc y⟩)).run P w = .ok () w' := by
            unfold Instr.storeAt
            refine run_pre (a := (⟨g, 0 + i * k, none⟩ : Addr)) rfl ?_
            unfold storeVar
            refine run_pre hsz ?_
            rw [if_neg (by simp [Value.cells, hk])]
            have := hrun0 P
            rw [List.flatMap_cons, List.flatMap_nil, List.append_nil] at this
            rw [Nat.zero_add]
            exact this
          simp only [Sem.run_bind, hst, Result.andThen_ok]
          rfl
        have hnd : ∀ c', op.op ≠ .defer c' := fun c' h => by rw [hop] at h; cases h
        refine ⟨fun _ _ => trivial, ?_⟩
        rw [Oper.semAt_eq _ _ _ hnd, hrun, Oper.uponIn_skip]
        have hh2 := Here.turns (vals' := vals2) htr (hm M') g3 hn hc hh0
        letI := sgL M' vals2
        exact rest M' g2 g4 _ w' (Here.put (d := op.dst) hh2 (v := undef) rfl hput)
      · cases h
    · cases h
  · cases h

/-- The clear of a slice that an evaluation stops at. -/
def clrOf (t : TypeId) : Option Stop → Option Value
  | some (.oper o _ ops s _) => match o.op with
    | .call c => match c.callee, c.args with
      | .builtin .clear, ⟨[xO]⟩ => bif decide (c.argTypes = #[t]) then match aWanted ops o s.sl with
        | some true => some (evs .nil s.sl xO)
        | _ => none
        else none
      | _, _ => none
    | _ => none
  | _ => none

theorem ostop_clearO [Outer] {α : Type} {P : Program} {N B : Nat} {w0 : World} {Q : Exit → Act → World → Prop} {M : Mem} {vals vals2 : List Value} {o : Option Stop} {t e : TypeId} {k : Nat} {x u z : Value} {enc : α → List Value} {l l' : List α} {i : Nat} {zr : α} {a : Option Addr} {c : Nat} {sl2 sl3 : Sl} {bks : List Bk} {obs : Obs}
    (hl' : l' = l.take i ++ List.replicate (l.length - i) zr) (h : clrOf t o = some x) (ht : P.underlying t = some (.slice e)) (hz : pureRun P (zeroValue e) = some z) (hzc : z.cells.toList = enc zr) (hk : ∀ x, (enc x).length = k) (hone : ∀ x, ∀ u ∈ enc x, u.oneCell' = true)
    (htr : trAll (stopSt o) sl2 bks = some obs) (hput : aput N sl2 (stopDst o) undef = some sl3) (hx : plainS x = true) (hu : u = .slice a l.length c) (ex : @interp (sgL M vals) x = .slice (dropA a c i k) (l.length - i) (c - i))
    (hO : OArr B M e k enc u l) (hi : i < l.length) (hm : ∀ M', Meet (sgL M vals) (sgL M' vals2) obs)
    (rest : ∀ M', OArr B M' e k enc u l' → Keeps M M' (obl u) → ∀ a' w, @Here (sgL M' vals2) _ N { sl := sl3, ms := [], A := mkAS bks } B w0 a' w → wpListIn (Fr none) 0 P (stopOps o) (KQ P (stopKs o) Q) (stopRest o) a' w)
    (hn : Outer.n0 ≤ bks.length := by first | exact Nat.zero_le _ | exact Nat.le_of_ble_eq_true rfl) (hc : SameC (stopSt o).A bks 0 := by exact sameC_none rfl) : @OStop (sgL M vals) _ P N B w0 Q o := by
  letI := sgL M vals
  unfold clrOf at h
  split at h
  · rename_i op r ops s ks
    refine ⟨_, rfl, fun a1 w hh => ?_⟩
    split at h
    · rename_i cl hop
      split at h
      · rename_i xO hcal hargs
        cases hty : decide (cl.argTypes = #[t]) with
        | false => rw [hty] at h; cases h
        | true =>
          rw [hty, cond_true] at h
          have hty' : cl.argTypes = #[t] := of_decide_eq_true hty
          split at h
          · rename_i hwt
            cases h
            have hh0 := hh
            obtain ⟨⟨φ, ds, h1, h2, h3, h4, _⟩, h5, h6⟩ := hh
            unfold wpListIn
            rw [wanted_spec h2.get hwt, if_pos rfl]
            have exx : a1.eval xO = .slice (dropA a c i k) (l.length - i) (c - i) := (VRel.eq_of_plainS _ hx (evs_rel (gr_nil φ) h2.get xO)).trans ex
            have hw : ∀ i o, M i = some o → w.heap[i]? = some o := hh0.immW
            obtain ⟨g, c', w', hu', hlc, hrun0, M', g2, g3, g4⟩ := own_put hk hone hO hw (by omega) i (List.replicate (l.length - i) zr) (by rw [List.length_replicate]; omega)
            rw [hu'] at hu
            cases hu
            rw [show l.take i ++ List.replicate (l.length - i) zr ++ l.drop (i + (List.replicate (l.length - i) zr).length) = l' by
              rw [hl', List.length_replicate, List.drop_eq_nil_of_le (by omega), List.append_nil]] at g2
            have hd : dropA (some (⟨g, 0, none⟩ : Addr)) c i k = some ⟨g, i * k, none⟩ := by
              unfold dropA
              rw [if_neg (by omega)]
              simp only [Option.map_some, Addr.add_at, Nat.zero_add]
            have hcells : (Builtin.zeroCells z.cells (l.length - i)).toList = (List.replicate (l.length - i) zr).flatMap enc := by
              exact zero_flat hk hzc _
            have hclr : (Builtin.clear_ #[t] op.type #[.slice (some ⟨g, i * k, none⟩) (l.length - i) (c - i)]).run P w = .ok (.tuple #[]) w' := by
              obtain ⟨m, hm'⟩ : ∃ m, l.length - i = m + 1 := ⟨l.length - i - 1, by omega⟩
              rw [hm'] at hcells ⊢
              have := hrun0 P
              rw [hm', ← hcells] at this
              simp [Builtin.clear_, run_underlying ht, pureRun_run hz w, this]
            have hrun : (execOp a1.eval op).run P w = .ok (.value (.tuple #[])) w' := by
              unfold execOp resolve
              rw [hop]
              simp only [hcal, hargs, hty', List.map_toArray, List.map_cons, List.map_nil, exx, hd]
              show (do pure (Next.value (← Builtin.clear_ #[t] op.type #[.slice (some ⟨g, i * k, none⟩) (l.length - i) (c - i)])) : Sem Next).run P w = _
              simp only [Sem.run_bind, hclr, Result.andThen_ok]
              rfl
            have hnd : ∀ c', op.op ≠ .defer c' := fun c' h => by rw [hop] at h; cases h
            refine ⟨fun _ _ => trivial, ?_⟩
            rw [Oper.semAt_eq _ _ _ hnd, hrun, Oper.uponIn_value]
            have hh2 := Here.turns (vals' := vals2) htr (hm M') g3 hn hc hh0
            letI := sgL M' vals2
            exact rest M' g2 g4 _ w' (Here.put (d := op.dst) hh2 (v := undef) rfl hput)
          · cases h
      · cases h
    · cases h
  · cases h

/- FUNCTIONS THAT TURN AN ARRAY THAT IS HANDED TO THEM -/

/-- A function is entered where all memory is known. -/
theorem walk_enter0 [Sig] {P : Program} {f : FuncId} {fn : Func} {c : Code} {args : List Value} {sl : Sl} {N : Nat} {W : World} {R : Ending → World → Prop} (hfn : P.funcs[f]? = some fn) (hc : fn.body = some c) (hsl : setArgs 0 args .nil = some sl) (hp : plainSL args = true)
    (hN : args.length + (fn.ntmps - args.length) = N) (hW : ImmW W) (hbody : ∀ a, @Here _ noOuter N { sl, ms := [], A := start } 0 W a W → c.wpIn (Fr none) 0 P (@EndX noOuter P fn N 0 W R) a W) : Calls P f ⟨interpL args⟩ W R := by
  subst hN
  letI := noOuter
  exact calls_here hfn hc hsl (rel_start hW) (fun b e h => by cases h) (Outs.none _ _) ⟨by simp [interpL_length], fun j hj => by simpa using VRel.of_plainSL (fun _ => none) args hp j hj⟩ (Low.refl _ _) (Nat.zero_le _) hbody

theorem obl_same (a : Option Addr) (n m c : Nat) : obl (.slice a n c) = obl (.slice a m c) := by cases a <;> rfl

theorem OArr.cap {α : Type} {B : Nat} {M : Mem} {e : TypeId} {k : Nat} {enc : α → List Value} {a : Option Addr} {n c : Nat} {l : List α} (h : OArr B M e k enc (.slice a n c) l) : n ≤ c := by
  rcases h with ⟨a', h0, rfl⟩ | ⟨g, cap, cur, h0, h1, h2, h3, h4, h5, h6, h7⟩
  · cases h0; exact Nat.le_refl _
  · cases h0; exact h4

/-- A call that turns an array of the caller's own. -/
theorem inplFrom {α : Type} {P : Program} {f : FuncId} {args : Array Value} {B : Nat} {M : Mem} {e : TypeId} {k : Nat} {enc : α → List Value} {v v' r : Value} {l l' : List α} {w : World} (hA : OArr B M e k enc v l) (hw : ∀ i o, M i = some o → w.heap[i]? = some o) (hT : ∀ i, some i = obl v' → some i = obl v)
    (h : OArr 0 (heapOf w) e k enc v l → Calls P f args w fun e' w' => (∃ M', e' = .returned r ∧ OArr 0 M' e k enc v' l' ∧ Keeps (heapOf w) M' (obl v) ∧ ∀ i o, M' i = some o → w'.heap[i]? = some o) ∧ Low 0 w w') :
    Calls P f args w fun e' w' => e' = .returned r ∧ ∃ M', (OArr B M' e k enc v' l' ∧ Keeps M M' (obl v)) ∧ Turns B M M' (obl v) w w' :=
  (h (hA.mono (Nat.zero_le _) fun i _ o ho => hw i o ho)).mono fun e' w' he => by
    obtain ⟨⟨M1, rfl, h1, h2, h3⟩, hb⟩ := he
    obtain ⟨q1, q2⟩ := turns_memTo (B := B) (M := M) (w' := w') (T := obl v) (U := obl v) hw hA.known (fun i hi => .inl hi) ⟨hb.below.os, hb.below.tape, hb.below.output⟩ hb.drawn hb.size fun i hi hne => by
      have h4 : heapOf w i = some w.heap[i] := Array.getElem?_eq_getElem hi
      rw [h3 i _ (h2 i _ h4 hne)]
      exact h4.symm
    refine ⟨rfl, _, ⟨?_, q2⟩, q1⟩
    rcases h1 with ⟨a', rfl, rfl⟩ | ⟨g, cap, cur, rfl, g1, g2, g3, g4, g5, g6, g7⟩
    · exact .inl ⟨a', rfl, rfl⟩
    · have hg := hT g (by rw [obl_pos _ _ g1])
      refine .inr ⟨g, cap, cur, rfl, g1, (hA.known g hg).2, ?_, g4, g5, g6, g7⟩
      unfold memTo
      rw [if_pos hg]
      exact h3 _ _ g3

/-- Back at a loop's head, memory turned. -/
theorem ostop_backM {s1 : Sig} [Outer] {P : Program} {N B : Nat} {w0 : World} {X : Type} {sg : X → Sig} {I : X → Prop} {μ : X → Nat} {head : Sl} {bks : List Bk} {o : Option Stop} {x : X} (x' : X) {obs : Obs} {Q : Exit → Act → World → Prop} (hb : backObs head bks o = some obs) (hm : Meet s1 (sg x') obs)
    (himm : ∀ i o, (sg x').imm i = some o → s1.imm i = some o) (hI : I x') (hμ : μ x' < μ x) (hn : Outer.n0 ≤ bks.length := by first | exact Nat.zero_le _ | exact Nat.le_of_ble_eq_true rfl) (hc : SameC (stopSt o).A bks 0 := by exact sameC_none rfl) : @OStop s1 _ P N B w0 (Exit.then (fun a w => ∃ x', I x' ∧ μ x' < μ x ∧ @Here (sg x') _ N (headSt head bks) B w0 a w) Q) o := by
  cases o with
  | none => cases hb
  | some st =>
    refine ⟨st, rfl, ?_⟩
    unfold backObs at hb
    split at hb
    · rename_i s hst
      cases hst
      intro a w hh
      exact ⟨x', hI, hμ, Here.move hb hm himm hn hc hh⟩
    · cases hb

end AE
end Go.Proofs.YtheaofepenbcgaaGreatDoor

/- slices.Compact at stamps: the plain layer. -/
namespace Go.Proofs.YtheaofepenbcgaaGreatDoor
open Go Go.Proofs Go.RowKit
namespace AE

def zrS : St := (0, 0, 0, 0)
theorem zvS : pureRun Tryz.prog (zeroValue elS) = some (.agg ⟨[.int .i64 0, .int .i64 0, .int .i64 0, .int .i64 0]⟩) := by kernel_rfl

/-- Place j is kept: the first one, or one that differs from the one before it. -/
def keepAt (l : List St) (j : Nat) : Prop := j = 0 ∨ l.getD j default ≠ l.getD (j - 1) default
instance (l : List St) (j : Nat) : Decidable (keepAt l j) := by unfold keepAt; infer_instance
/-- Of the first m stamps those that are kept. -/
def cuTo (l : List St) (m : Nat) : List St := ((List.range m).filter fun j => decide (keepAt l j)).map fun j => l.getD j default
def compactS (l : List St) : List St := cuTo l l.length

theorem cuTo_succ (l : List St) (m : Nat) : cuTo l (m + 1) = cuTo l m ++ (if keepAt l m then [l.getD m default] else []) := by
  unfold cuTo
  rw [List.range_succ, List.filter_append, List.map_append]
  congr 1
  by_cases h : keepAt l m <;> simp [h]

theorem cuTo_all {l : List St} {m : Nat} (h : ∀ j, j < m → keepAt l j) (hm : m ≤ l.length) : cuTo l m = l.take m := by
  induction m with
  | zero => simp [cuTo]
  | succ m ih =>
    rw [cuTo_succ, if_pos (h m (by omega)), ih (fun j hj => h j (by omega)) (by omega), List.take_add_one, getSome (show m < l.length by omega)]
    rfl

theorem compact_same {l : List St} (h : ∀ j, j < l.length → keepAt l j) : compactS l = l := by
  unfold compactS
  rw [cuTo_all h (Nat.le_refl _), List.take_length]

/-- The second loop: m places have been looked at, q stamps are kept at the head; behind it all is as it was. -/
structure Comp (l : List St) (m q : Nat) (b : List St) : Prop where
  len : b.length = l.length
  cl : (cuTo l m).length = q
  lt : q < m
  low : b.take q = cuTo l m
  high : ∀ j, q ≤ j → b.getD j default = l.getD j default

theorem Comp.start {l : List St} {k : Nat} (hall : ∀ j, j < k → keepAt l j) (hk : k < l.length) (hdup : ¬ keepAt l k) : Comp l (k + 1) k l where
  len := rfl
  cl := by rw [cuTo_succ, if_neg hdup, List.append_nil, cuTo_all hall (by omega), List.length_take]; omega
  lt := Nat.lt_succ_self _
  low := by rw [cuTo_succ, if_neg hdup, List.append_nil, cuTo_all hall (by omega)]
  high := fun _ _ => rfl

theorem Comp.skip {l b : List St} {m q : Nat} (h : Comp l m q b) (hk : ¬ keepAt l m) : Comp l (m + 1) q b where
  len := h.len
  cl := by rw [cuTo_succ, if_neg hk, List.append_nil]; exact h.cl
  lt := by have := h.lt; omega
  low := by rw [cuTo_succ, if_neg hk, List.append_nil]; exact h.low
  high := h.high

theorem Comp.keep {l b b' : List St} {m q : Nat} {x : St} (h : Comp l m q b) (hm : m < l.length) (hk : keepAt l m) (hx : x = l.getD m default) (hb : b' = b.set q x) : Comp l (m + 1) (q + 1) b' where
  len := by rw [hb, List.length_set]; exact h.len
  cl := by rw [cuTo_succ, if_pos hk, List.length_append, h.cl]; rfl
  lt := by have := h.lt; omega
  low := by
    have hq : q < b.length := by have := h.lt; have := h.len; omega
    rw [cuTo_succ, if_pos hk, hb, hx, ← h.low, List.take_add_one, List.take_set, List.getElem?_set_self hq]
    congr 1
    exact List.set_eq_of_length_le (by rw [List.length_take]; omega)
  high := fun j hj => by
    rw [hb, List.getD_eq_getElem?_getD, List.getElem?_set_ne (by omega), ← List.getD_eq_getElem?_getD]
    exact h.high j (by omega)

theorem drop_getD (b : List St) (k r : Nat) : (b.drop k).getD r default = b.getD (k + r) default := by
  rw [List.getD_eq_getElem?_getD, List.getElem?_drop, ← List.getD_eq_getElem?_getD]

theorem Keeps.refl (M : Mem) (T : Option Nat) : Keeps M M T := fun _ _ h _ => h
theorem Keeps.trans {M M1 M2 : Mem} {T : Option Nat} (h : Keeps M M1 T) (g : Keeps M1 M2 T) : Keeps M M2 T := fun i o hi hn => g i o (h i o hi hn) hn

section
variable {W w' : World} {M : Mem} {a : Option Addr} {c : Nat} {l b b1 : List St} {q : Nat}

theorem compEnd0 (hl : OArr 0 (heapOf W) elS 4 encS (.slice a l.length c) l) (hall : ∀ j, j < l.length → keepAt l j) (hin : ∀ i o, heapOf W i = some o → w'.heap[i]? = some o) :
    ∃ M', Ending.returned (.slice a l.length c) = .returned (.slice a (compactS l).length c) ∧ OArr 0 M' elS 4 encS (.slice a (compactS l).length c) (compactS l) ∧ Keeps (heapOf W) M' (obl (.slice a l.length c)) ∧ ∀ i o, M' i = some o → w'.heap[i]? = some o := by
  rw [compact_same hall]
  exact ⟨_, rfl, hl, Keeps.refl _ _, hin⟩

theorem compEnd1 (hO : OArr 0 M elS 4 encS (.slice a l.length c) b1) (hb : b1 = b.take q ++ List.replicate (b.length - q) zrS) (hC : Comp l l.length q b) (hK : Keeps (heapOf W) M (obl (.slice a l.length c))) (hin : ∀ i o, M i = some o → w'.heap[i]? = some o) :
    ∃ M', Ending.returned (.slice a q c) = .returned (.slice a (compactS l).length c) ∧ OArr 0 M' elS 4 encS (.slice a (compactS l).length c) (compactS l) ∧ Keeps (heapOf W) M' (obl (.slice a l.length c)) ∧ ∀ i o, M' i = some o → w'.heap[i]? = some o := by
  have hq : (compactS l).length = q := hC.cl
  have hqb : q ≤ b.length := by have := hC.lt; have := hC.len; omega
  have ht : b1.take q = compactS l := by
    rw [hb, List.take_append, List.length_take, Nat.min_eq_left hqb, Nat.sub_self, List.take_zero, List.append_nil, List.take_take, Nat.min_self]
    exact hC.low
  have hl1 : q ≤ b1.length := by rw [hb, List.length_append, List.length_take]; omega
  rw [hq]
  have := OArr.take hkS hO hl1
  rw [ht] at this
  exact ⟨M, rfl, this, hK, hin⟩
end

end AE
end Go.Proofs.YtheaofepenbcgaaGreatDoor

/- slices.Compact at stamps -/
namespace Go.Proofs.YtheaofepenbcgaaGreatDoor
open Go Go.Proofs Go.RowKit
namespace AE
-- stops at: slices.Compact[[]voxel/api.Stamp,voxel/api.Stamp]: STUCK slices.go:380 operands [symv 31, .agg ⟨[symv 20, symv 21, symv 22, symv 23]⟩]
-- stops at: slices.Compact[[]voxel/api.Stamp,voxel/api.Stamp]: STUCK slices.go:385 operands [symv 33]
namespace CompG
noncomputable def body : Code := (Tryz.f29.body).getD .skip
def N : Nat := 61
noncomputable abbrev at' (N : Nat) (F : List (FOp × Value)) (C : List (FuncId × List Value × Value)) (c : Code) (s : ASt) : Option Stop := evalTo Tryz.prog F C N 1000 10 c s
noncomputable abbrev leave' (N : Nat) (F : List (FOp × Value)) (C : List (FuncId × List Value × Value)) (ks : List KI) (o : Option Stop) : Option Stop := evalLeave Tryz.prog F C N 1000 10 ks o
noncomputable abbrev unr' (N : Nat) (F : List (FOp × Value)) (C : List (FuncId × List Value × Value)) (m : Nat) (o : Option Stop) : Option Stop := evalUnroll Tryz.prog F C N 1000 10 m o
noncomputable abbrev res' (N : Nat) (F : List (FOp × Value)) (C : List (FuncId × List Value × Value)) (ks : List KI) (x : AX) (s : ASt) : Option Stop := evalRes Tryz.prog F C N 1000 10 ks x s
noncomputable abbrev ops' (N : Nat) (F : List (FOp × Value)) (C : List (FuncId × List Value × Value)) (r : List Oper) (ops : Array Oper) (ks : List KI) (s : ASt) : Option Stop := evalOps Tryz.prog F C N 1000 10 r ops ks s
def s0 : ASt := { sl := slots [(0, symv 0)], ms := [], A := start }
def F0 : List (FOp × Value) := [(.len #[22] 3 (symv 0), symv 1),
    (.bin .lss 3 (symv 1) (.int .i64 2), .bool true)]
def C0 : List (FuncId × List Value × Value) := []
set_option maxRecDepth 100000 in
theorem e0 : endVal Tryz.prog Tryz.f29 (at' 61 F0 C0 body s0) = some (symv 0) := by kernel_rfl
def F1 : List (FOp × Value) := [(.len #[22] 3 (symv 0), symv 1),
    (.bin .lss 3 (symv 1) (.int .i64 2), .bool false)]
def C1 : List (FuncId × List Value × Value) := []
-- loop 0: slots [(8, .bool false), (7, symv 1), (6, symv 0), (3, .int .i64 1), (2, .slice none 0 0), (0, symv 0)] blocks 0 ms [] []
noncomputable def bks0 : List Bk := []
def head0 : Sl := slots [(3, symv 2), (0, symv 0)]
noncomputable abbrev at0 := at' 61 F1 C1 body s0
set_option maxRecDepth 100000 in
theorem e1 : headObs head0 bks0 at0 = some [(symv 0, symv 0), (.int .i64 1, symv 2)] := by kernel_rfl
def F2 : List (FOp × Value) := [(.len #[22] 3 (symv 0), symv 1),
    (.bin .lss 3 (symv 2) (symv 1), .bool true),
    (.ixa 22 (symv 0) (symv 2), symv 3),
    (.ld 24 (symv 3), .agg ⟨[symv 4, symv 5, symv 6, symv 7]⟩),
    (.bin .sub 3 (symv 2) (.int .i64 1), symv 8),
    (.ixa 22 (symv 0) (symv 8), symv 9),
    (.ld 24 (symv 9), .agg ⟨[symv 10, symv 11, symv 12, symv 13]⟩),
    (.bin .eql 24 (.agg ⟨[symv 4, symv 5, symv 6, symv 7]⟩) (.agg ⟨[symv 10, symv 11, symv 12, symv 13]⟩), .bool true),
    (.slc 22 (symv 0) (some (symv 2)) none none, symv 14)]
def C2 : List (FuncId × List Value × Value) := []
-- loop 1: slots [(28, symv 14), (27, symv 2), (26, symv 0), (25, .bool true), (24, .agg ⟨[symv 10, symv 11, symv 12, symv 13]⟩), (23, symv 9), (22, symv 8), (21, symv 2), (20, symv 0), (19, .agg ⟨[symv 4, symv 5, symv 6, symv 7]⟩), (18, symv 3), (17, symv 2), (16, symv 0), (13, .bool true), (12, symv 1), (11, symv 0), (10, symv 2), (5, .int .i64 1), (4, symv 14), (3, symv 2), (0, symv 0)] blocks 0 ms [] []
noncomputable def bks1 : List Bk := []
def head1 : Sl := slots [(5, symv 17), (4, symv 14), (3, symv 16), (0, symv 0)]
noncomputable abbrev at1 := at' 61 F2 C2 (stopCode at0) (headSt head0 bks0)
set_option maxRecDepth 100000 in
theorem e2 : headObs head1 bks1 at1 = some [(symv 0, symv 0), (symv 2, symv 16), (.int .i64 1, symv 17), (symv 14, symv 14)] := by kernel_rfl
def F3 : List (FOp × Value) := [(.len #[22] 3 (symv 14), symv 18),
    (.bin .lss 3 (symv 17) (symv 18), .bool true),
    (.ixa 22 (symv 14) (symv 17), symv 19),
    (.ld 24 (symv 19), .agg ⟨[symv 20, symv 21, symv 22, symv 23]⟩),
    (.bin .sub 3 (symv 17) (.int .i64 1), symv 24),
    (.ixa 22 (symv 14) (symv 24), symv 25),
    (.ld 24 (symv 25), .agg ⟨[symv 26, symv 27, symv 28, symv 29]⟩),
    (.bin .neq 24 (.agg ⟨[symv 20, symv 21, symv 22, symv 23]⟩) (.agg ⟨[symv 26, symv 27, symv 28, symv 29]⟩), .bool false),
    (.bin .add 3 (symv 17) (.int .i64 1), symv 30)]
def C3 : List (FuncId × List Value × Value) := []
set_option maxRecDepth 100000 in
theorem e3 : backObs head1 bks1 (at' 61 F3 C3 (stopCode at1) (headSt head1 bks1)) = some [(symv 0, symv 0), (symv 16, symv 16), (symv 30, symv 17), (symv 14, symv 14)] := by kernel_rfl
def F4 : List (FOp × Value) := [(.len #[22] 3 (symv 14), symv 18),
    (.bin .lss 3 (symv 17) (symv 18), .bool true),
    (.ixa 22 (symv 14) (symv 17), symv 19),
    (.ld 24 (symv 19), .agg ⟨[symv 20, symv 21, symv 22, symv 23]⟩),
    (.bin .sub 3 (symv 17) (.int .i64 1), symv 24),
    (.ixa 22 (symv 14) (symv 24), symv 25),
    (.ld 24 (symv 25), .agg ⟨[symv 26, symv 27, symv 28, symv 29]⟩),
    (.bin .neq 24 (.agg ⟨[symv 20, symv 21, symv 22, symv 23]⟩) (.agg ⟨[symv 26, symv 27, symv 28, symv 29]⟩), .bool true),
    (.ixa 22 (symv 0) (symv 16), symv 31)]
def C4 : List (FuncId × List Value × Value) := []
set_option maxRecDepth 100000 in
theorem e4 : stoOf (at' 61 F4 C4 (stopCode at1) (headSt head1 bks1)) = some (24, (symv 31), (.agg ⟨[symv 20, symv 21, symv 22, symv 23]⟩)) := by kernel_rfl
noncomputable abbrev so0 := at' 61 F4 C4 (stopCode at1) (headSt head1 bks1)
noncomputable def bk0 : List Bk := []
def hd0 : Sl := slots [(5, symv 17), (4, symv 14), (3, symv 16), (0, symv 0)]
def hp0 : Sl := match aput 61 hd0 none (.tuple ⟨[]⟩) with | some s => s | none => .nil
set_option maxRecDepth 100000 in
theorem e5 : trAll (stopSt so0) hd0 bk0 = some [(symv 0, symv 0), (symv 16, symv 16), (symv 17, symv 17), (symv 14, symv 14)] := by kernel_rfl
set_option maxRecDepth 100000 in
theorem e6 : aput 61 hd0 (stopDst so0) (.tuple ⟨[]⟩) = some hp0 := by kernel_rfl
def F5 : List (FOp × Value) := [(.bin .add 3 (symv 16) (.int .i64 1), symv 32),
    (.bin .add 3 (symv 17) (.int .i64 1), symv 30)]
def C5 : List (FuncId × List Value × Value) := []
set_option maxRecDepth 100000 in
theorem e7 : backObs head1 bks1 (ops' 61 F5 C5 (stopRest so0) (stopOps so0) (stopKs so0) { sl := hp0, ms := [], A := mkAS bk0 }) = some [(symv 0, symv 0), (symv 32, symv 16), (symv 30, symv 17), (symv 14, symv 14)] := by kernel_rfl
def F6 : List (FOp × Value) := [(.len #[22] 3 (symv 14), symv 18),
    (.bin .lss 3 (symv 17) (symv 18), .bool false)]
def C6 : List (FuncId × List Value × Value) := []
def F7 : List (FOp × Value) := [(.slc 22 (symv 0) (some (symv 16)) none none, symv 33)]
def C7 : List (FuncId × List Value × Value) := []
set_option maxRecDepth 100000 in
theorem e8 : clrOf 22 (leave' 61 F7 C7 (stopKs at1) (at' 61 F6 C6 (stopCode at1) (headSt head1 bks1))) = some (symv 33) := by kernel_rfl
noncomputable abbrev so1 := leave' 61 F7 C7 (stopKs at1) (at' 61 F6 C6 (stopCode at1) (headSt head1 bks1))
noncomputable def bk1 : List Bk := []
def hd1 : Sl := slots [(3, symv 16), (0, symv 0)]
def hp1 : Sl := match aput 61 hd1 none (.tuple ⟨[]⟩) with | some s => s | none => .nil
set_option maxRecDepth 100000 in
theorem e9 : trAll (stopSt so1) hd1 bk1 = some [(symv 0, symv 0), (symv 16, symv 16)] := by kernel_rfl
set_option maxRecDepth 100000 in
theorem e10 : aput 61 hd1 (stopDst so1) (.tuple ⟨[]⟩) = some hp1 := by kernel_rfl
def F8 : List (FOp × Value) := [(.slc 22 (symv 0) none (some (symv 16)) none, symv 34)]
def C8 : List (FuncId × List Value × Value) := []
def F9 : List (FOp × Value) := []
def C9 : List (FuncId × List Value × Value) := []
set_option maxRecDepth 100000 in
theorem e11 : endVal Tryz.prog Tryz.f29 (leave' 61 F9 C9 (stopKs at0) (ops' 61 F8 C8 (stopRest so1) (stopOps so1) (stopKs so1) { sl := hp1, ms := [], A := mkAS bk1 })) = some (symv 34) := by kernel_rfl
def F10 : List (FOp × Value) := [(.len #[22] 3 (symv 0), symv 1),
    (.bin .lss 3 (symv 2) (symv 1), .bool true),
    (.ixa 22 (symv 0) (symv 2), symv 3),
    (.ld 24 (symv 3), .agg ⟨[symv 4, symv 5, symv 6, symv 7]⟩),
    (.bin .sub 3 (symv 2) (.int .i64 1), symv 8),
    (.ixa 22 (symv 0) (symv 8), symv 9),
    (.ld 24 (symv 9), .agg ⟨[symv 10, symv 11, symv 12, symv 13]⟩),
    (.bin .eql 24 (.agg ⟨[symv 4, symv 5, symv 6, symv 7]⟩) (.agg ⟨[symv 10, symv 11, symv 12, symv 13]⟩), .bool false),
    (.bin .add 3 (symv 2) (.int .i64 1), symv 15)]
def C10 : List (FuncId × List Value × Value) := []
set_option maxRecDepth 100000 in
theorem e12 : backObs head0 bks0 (at' 61 F10 C10 (stopCode at0) (headSt head0 bks0)) = some [(symv 0, symv 0), (symv 15, symv 2)] := by kernel_rfl
def F11 : List (FOp × Value) := [(.len #[22] 3 (symv 0), symv 1),
    (.bin .lss 3 (symv 2) (symv 1), .bool false)]
def C11 : List (FuncId × List Value × Value) := []
set_option maxRecDepth 100000 in
theorem e13 : endVal Tryz.prog Tryz.f29 (leave' 61 F9 C9 (stopKs at0) (at' 61 F11 C11 (stopCode at0) (headSt head0 bks0))) = some (symv 0) := by kernel_rfl
@[reducible] noncomputable def vL (l : List St) (a_l : Option Addr) (c_l : Nat) (k : Nat) (b : List St) (q : Nat) (r : Nat) (b0 : List St) : List Value := [.slice a_l l.length c_l, .int .i64 ((l.length : Nat) : Int), .int .i64 ((k : Nat) : Int), cellPtr (.slice a_l l.length c_l) (k * 4), .int .i64 (l.getD (k) default).1, .int .i64 (l.getD (k) default).2.1, .int .i64 (l.getD (k) default).2.2.1, .int .i64 (l.getD (k) default).2.2.2, .int .i64 (((k : Nat) : Int) - 1), cellPtr (.slice a_l l.length c_l) (((((k : Nat) : Int) - 1)).toNat * 4), .int .i64 (l.getD (((((k : Nat) : Int) - 1)).toNat) default).1, .int .i64 (l.getD (((((k : Nat) : Int) - 1)).toNat) default).2.1, .int .i64 (l.getD (((((k : Nat) : Int) - 1)).toNat) default).2.2.1, .int .i64 (l.getD (((((k : Nat) : Int) - 1)).toNat) default).2.2.2, .slice (dropA a_l c_l k 4) (l.length - k) (c_l - k), .int .i64 ((k + 1 : Nat) : Int), .int .i64 ((q : Nat) : Int), .int .i64 ((r : Nat) : Int), .int .i64 (((b.drop k).length : Nat) : Int), cellPtr (.slice (dropA a_l c_l k 4) (l.length - k) (c_l - k)) (r * 4), .int .i64 ((b.drop k).getD (r) default).1, .int .i64 ((b.drop k).getD (r) default).2.1, .int .i64 ((b.drop k).getD (r) default).2.2.1, .int .i64 ((b.drop k).getD (r) default).2.2.2, .int .i64 (((r : Nat) : Int) - 1), cellPtr (.slice (dropA a_l c_l k 4) (l.length - k) (c_l - k)) (((((r : Nat) : Int) - 1)).toNat * 4), .int .i64 ((b.drop k).getD (((((r : Nat) : Int) - 1)).toNat) default).1, .int .i64 ((b.drop k).getD (((((r : Nat) : Int) - 1)).toNat) default).2.1, .int .i64 ((b.drop k).getD (((((r : Nat) : Int) - 1)).toNat) default).2.2.1, .int .i64 ((b.drop k).getD (((((r : Nat) : Int) - 1)).toNat) default).2.2.2, .int .i64 ((r + 1 : Nat) : Int), cellPtr (.slice a_l l.length c_l) (q * 4), .int .i64 ((q + 1 : Nat) : Int), .slice (dropA a_l c_l q 4) (l.length - q) (c_l - q), .slice a_l q c_l]
@[reducible] noncomputable def sg (M : Mem) (l : List St) (a_l : Option Addr) (c_l : Nat) (k : Nat) (b : List St) (q : Nat) (r : Nat) (b0 : List St) : Sig := sgL M (vL l a_l c_l k b q r b0)
set_option maxHeartbeats 4000000 in
set_option maxRecDepth 100000 in
theorem any (W : World) {a_l : Option Addr} {c_l : Nat} {l : List St} (hl : OArr 0 (heapOf W) elS 4 encS (.slice a_l l.length c_l) l) (hn : l.length ≤ 100000) : Calls Tryz.prog 29 #[.slice a_l l.length c_l] W fun e w' => (∃ M', e = .returned (.slice a_l (compactS l).length c_l) ∧ OArr 0 M' elS 4 encS (.slice a_l (compactS l).length c_l) (compactS l) ∧ Keeps (heapOf W) M' (obl (.slice a_l l.length c_l)) ∧ ∀ i o, M' i = some o → w'.heap[i]? = some o) ∧ Low 0 W w' := by
  refine @walk_enter0 (sg (heapOf W) l a_l c_l 0 [] 0 0 []) Tryz.prog 29 Tryz.f29 body [symv 0] (slots [(0, symv 0)]) N W _ Tryz.func29 (by kernel_rfl) (by kernel_rfl) (by kernel_rfl) (by kernel_rfl) (immW_sgL W _) fun a hh => ?_
  letI := (sg (heapOf W) l a_l c_l 0 [] 0 0 [])
  have hcap := hl.cap
  by_cases h0 : ((l.length : Nat) : Int) < 2
  · refine walk_to (F := F0) (T := C0) (fuel := 1000) (d := 10) mixed (allF_cons (FactOk.arrLen (hl.arr hkS) rfl rfl under27 rfl rfl) (allF_cons (FactOk.bi rfl rfl rfl rfl rfl rfl (boolT (by omega))) allF_nil)) allC_nil ?_ hh
    exact ostop_end e0 fun w2 hLow hIn => ⟨(by first | exact compEnd0 hl (fun j hj => .inl (by omega)) hIn | exact compEnd0 hl (fun j hj => hI.2.2 j (by omega)) hIn | exact compEnd1 (by rw [hbl] at hO0; exact hO0) hb0 (by have := hI.2.2.1; rwa [show k + r = l.length by omega] at this) (hI.2.1.trans (by rw [obl_same a_l l.length b.length]; exact hK0)) hIn), hLow⟩   -- returns symv 0
  · refine walk_to (F := F1) (T := C1) (fuel := 1000) (d := 10) mixed (allF_cons (FactOk.arrLen (hl.arr hkS) rfl rfl under27 rfl rfl) (allF_cons (FactOk.bi rfl rfl rfl rfl rfl rfl (boolF (by omega))) allF_nil)) allC_nil ?_ hh
    -- LOOP 0: slot 2 = .slice none 0 0 is written in the loop: left out
    refine ostop_loop (sg := (fun k => sg (heapOf W) l a_l c_l k [] 0 0 [])) (fun k => 1 ≤ k ∧ k ≤ l.length ∧ (∀ j, j < k → keepAt l j)) (fun k => l.length - k) 1 e1 (meet_cons (by exact meetV (.slice a_l l.length c_l) rfl rfl) (meet_cons rfl meet_nil)) (fun _ _ h => h) (by exact ⟨Nat.le_refl _, by omega, fun j hj => .inl (by omega)⟩) ?_
    intro k hI a w hh
    letI := (sg (heapOf W) l a_l c_l k [] 0 0 [])
    have hk1 : (((k : Nat) : Int) - 1).toNat = k - 1 := by omega
    by_cases p0 : ((k : Nat) : Int) < ((l.length : Nat) : Int)
    · by_cases p1 : (l.getD (k) default) = (l.getD (((((k : Nat) : Int) - 1)).toNat) default)
      · refine walk_to (F := F2) (T := C2) (fuel := 1000) (d := 10) mixed (allF_cons (FactOk.arrLen (hl.arr hkS) rfl rfl under27 rfl rfl) (allF_cons (FactOk.bi rfl rfl rfl rfl rfl rfl (boolT (by omega))) (allF_cons (FactOk.arrIxa (hl.arr hkS) (show k < l.length by omega) rfl rfl rfl under27 sizeSt rfl rfl rfl) (allF_cons (FactOk.arrLd (hl.arr hkS) (getSome (show k < l.length by omega)) rfl rfl aggSt sizeSt rfl rfl rfl) (allF_cons (FactOk.bi rfl rfl rfl rfl rfl rfl (intI (by omega) (by omega) (by omega))) (allF_cons (FactOk.arrIxa (hl.arr hkS) (show ((((k : Nat) : Int) - 1)).toNat < l.length by omega) rfl rfl rfl under27 sizeSt rfl (natI (by omega)) rfl) (allF_cons (FactOk.arrLd (hl.arr hkS) (getSome (show ((((k : Nat) : Int) - 1)).toNat < l.length by omega)) rfl rfl aggSt sizeSt rfl rfl rfl) (allF_cons (eqS rfl rfl rfl rfl (decide_eq_true p1).symm) (allF_cons (FactOk.slcLo rfl rfl rfl under27 sizeSt rfl rfl (show k ≤ l.length by omega) rfl) allF_nil))))))))) allC_nil ?_ hh
        refine ostop_loop (sg := (fun (⟨M, b, q, r⟩ : Mem × List St × Nat × Nat) => sg M l a_l c_l k b q r [])) (fun (⟨M, b, q, r⟩ : Mem × List St × Nat × Nat) => OArr 0 M elS 4 encS (.slice a_l l.length c_l) b ∧ Keeps (heapOf W) M (obl (.slice a_l l.length c_l)) ∧ Comp l (k + r) q b ∧ 1 ≤ r ∧ k + r ≤ l.length) (fun (⟨M, b, q, r⟩ : Mem × List St × Nat × Nat) => l.length - (k + r)) ⟨heapOf W, l, k, 1⟩ e2 (meet_cons (by exact meetV (.slice a_l l.length c_l) rfl rfl) (meet_cons (by exact meetV (.int .i64 ((k : Nat) : Int)) rfl rfl) (meet_cons rfl (meet_cons (by exact meetV (.slice (dropA a_l c_l k 4) (l.length - k) (c_l - k)) rfl rfl) meet_nil)))) (fun _ _ h => h) (by exact ⟨hl, Keeps.refl _ _, Comp.start hI.2.2 (by omega) (fun h => by rw [hk1] at p1; exact h.elim (by omega) (fun h => h p1)), by omega, by omega⟩) ?_
        intro ⟨M, b, q, r⟩ hI a w hh
        letI := (sg M l a_l c_l k b q r [])
        have hkI := hI
        have hO := hI.1
        have hv1 := (hO.arr hkS).drop (show k ≤ l.length by omega)
        have hd : (b.drop k).length = b.length - k := List.length_drop
        have hbl : b.length = l.length := hI.2.2.1.len
        have hlt := hI.2.2.1.lt
        have hr1 : (((r : Nat) : Int) - 1).toNat = r - 1 := by omega
        have g1 : (b.drop k).getD r default = l.getD (k + r) default := by rw [drop_getD, hI.2.2.1.high _ (by omega)]
        have g2 : (b.drop k).getD (r - 1) default = l.getD (k + r - 1) default := by rw [drop_getD, show k + (r - 1) = k + r - 1 by omega, hI.2.2.1.high _ (by omega)]
        by_cases q0 : ((r : Nat) : Int) < (((b.drop k).length : Nat) : Int)
        · by_cases q1 : ((b.drop k).getD (r) default) = ((b.drop k).getD (((((r : Nat) : Int) - 1)).toNat) default)
          · refine walk_to (F := F3) (T := C3) (fuel := 1000) (d := 10) mixed (allF_cons (FactOk.arrLen hv1 rfl rfl under27 rfl rfl) (allF_cons (FactOk.bi rfl rfl rfl rfl rfl rfl (boolT (by omega))) (allF_cons (FactOk.arrIxa hv1 (show r < (b.drop k).length by omega) rfl rfl rfl under27 sizeSt rfl rfl rfl) (allF_cons (FactOk.arrLd hv1 (getSome (show r < (b.drop k).length by omega)) rfl rfl aggSt sizeSt rfl rfl rfl) (allF_cons (FactOk.bi rfl rfl rfl rfl rfl rfl (intI (by omega) (by omega) (by omega))) (allF_cons (FactOk.arrIxa hv1 (show ((((r : Nat) : Int) - 1)).toNat < (b.drop k).length by omega) rfl rfl rfl under27 sizeSt rfl (natI (by omega)) rfl) (allF_cons (FactOk.arrLd hv1 (getSome (show ((((r : Nat) : Int) - 1)).toNat < (b.drop k).length by omega)) rfl rfl aggSt sizeSt rfl rfl rfl) (allF_cons (neqS rfl rfl rfl rfl (by rw [decide_eq_true q1]; rfl)) (allF_cons (FactOk.bi rfl rfl rfl rfl rfl rfl (intI (by omega) (by omega) (by omega))) allF_nil))))))))) allC_nil ?_ hh
            exact ostop_backM (s1 := (sg M l a_l c_l k b q r [])) (sg := (fun (⟨M, b, q, r⟩ : Mem × List St × Nat × Nat) => sg M l a_l c_l k b q r [])) (I := fun (⟨M, b, q, r⟩ : Mem × List St × Nat × Nat) => OArr 0 M elS 4 encS (.slice a_l l.length c_l) b ∧ Keeps (heapOf W) M (obl (.slice a_l l.length c_l)) ∧ Comp l (k + r) q b ∧ 1 ≤ r ∧ k + r ≤ l.length) (μ := fun (⟨M, b, q, r⟩ : Mem × List St × Nat × Nat) => l.length - (k + r)) (x := ⟨M, b, q, r⟩) ⟨M, b, q, r + 1⟩ e3 (meet_cons (by exact meetV (.slice a_l l.length c_l) rfl rfl) (meet_cons (by exact meetV (.int .i64 ((q : Nat) : Int)) rfl rfl) (meet_cons (by exact meetV (.int .i64 ((r + 1 : Nat) : Int)) rfl rfl) (meet_cons (by exact meetV (.slice (dropA a_l c_l k 4) (l.length - k) (c_l - k)) rfl rfl) meet_nil)))) (fun _ _ h => h) (by first | exact ⟨hO0, hI.2.1.trans hK0, hI.2.2.1.keep (by omega) (.inr (fun h => q1 ((g1.trans h).trans (g2.symm.trans (by rw [hr1]))))) g1 hb0, by omega, by omega⟩ | exact ⟨hO, hI.2.1, hI.2.2.1.skip (fun h => h.elim (by omega) (fun h => h (g1.symm.trans ((q1.trans (by rw [hr1])).trans g2)))), by omega, by omega⟩) (by (try dsimp only); omega)
          · refine walk_to (F := F4) (T := C4) (fuel := 1000) (d := 10) mixed (allF_cons (FactOk.arrLen hv1 rfl rfl under27 rfl rfl) (allF_cons (FactOk.bi rfl rfl rfl rfl rfl rfl (boolT (by omega))) (allF_cons (FactOk.arrIxa hv1 (show r < (b.drop k).length by omega) rfl rfl rfl under27 sizeSt rfl rfl rfl) (allF_cons (FactOk.arrLd hv1 (getSome (show r < (b.drop k).length by omega)) rfl rfl aggSt sizeSt rfl rfl rfl) (allF_cons (FactOk.bi rfl rfl rfl rfl rfl rfl (intI (by omega) (by omega) (by omega))) (allF_cons (FactOk.arrIxa hv1 (show ((((r : Nat) : Int) - 1)).toNat < (b.drop k).length by omega) rfl rfl rfl under27 sizeSt rfl (natI (by omega)) rfl) (allF_cons (FactOk.arrLd hv1 (getSome (show ((((r : Nat) : Int) - 1)).toNat < (b.drop k).length by omega)) rfl rfl aggSt sizeSt rfl rfl rfl) (allF_cons (neqS rfl rfl rfl rfl (by rw [decide_eq_false q1]; rfl)) (allF_cons (FactOk.arrIxa (hO.arr hkS) (show q < b.length by omega) rfl rfl rfl under27 sizeSt rfl rfl rfl) allF_nil))))))))) allC_nil ?_ hh
            obtain ⟨b0, hb0⟩ : ∃ b0, b0 = (b.set q ((b.drop k).getD (r) default)) := ⟨_, rfl⟩
            have hn0 : b0.length = b.length := by rw [hb0]; exact List.length_set
            refine ostop_storeO (u := .slice a_l l.length c_l) (l := b) (l' := b0) (i := q) (y := ((b.drop k).getD (r) default)) (vals2 := (vL l a_l c_l k b q r b0)) hb0 e4 sizeSt hkS honeS e5 e6 rfl rfl rfl rfl hO (show q < b.length by omega) (fun _ => (meet_cons (by exact meetV (.slice a_l l.length c_l) rfl rfl) (meet_cons (by exact meetV (.int .i64 ((q : Nat) : Int)) rfl rfl) (meet_cons (by exact meetV (.int .i64 ((r : Nat) : Int)) rfl rfl) (meet_cons (by exact meetV (.slice (dropA a_l c_l k 4) (l.length - k) (c_l - k)) rfl rfl) meet_nil))))) ?_
            intro M0 hO0 hK0 a w hh
            skip
            letI := (sg M0 l a_l c_l k b q r b0)
            refine walk_ops (F := F5) (T := C5) (fuel := 1000) (d := 10) mixed (allF_cons (FactOk.bi rfl rfl rfl rfl rfl rfl (intI (by omega) (by omega) (by omega))) (allF_cons (FactOk.bi rfl rfl rfl rfl rfl rfl (intI (by omega) (by omega) (by omega))) allF_nil)) allC_nil ?_ hh
            exact ostop_backM (s1 := (sg M0 l a_l c_l k b q r b0)) (sg := (fun (⟨M, b, q, r⟩ : Mem × List St × Nat × Nat) => sg M l a_l c_l k b q r [])) (I := fun (⟨M, b, q, r⟩ : Mem × List St × Nat × Nat) => OArr 0 M elS 4 encS (.slice a_l l.length c_l) b ∧ Keeps (heapOf W) M (obl (.slice a_l l.length c_l)) ∧ Comp l (k + r) q b ∧ 1 ≤ r ∧ k + r ≤ l.length) (μ := fun (⟨M, b, q, r⟩ : Mem × List St × Nat × Nat) => l.length - (k + r)) (x := ⟨M, b, q, r⟩) ⟨M0, b0, q + 1, r + 1⟩ e7 (meet_cons (by exact meetV (.slice a_l l.length c_l) rfl rfl) (meet_cons (by exact meetV (.int .i64 ((q + 1 : Nat) : Int)) rfl rfl) (meet_cons (by exact meetV (.int .i64 ((r + 1 : Nat) : Int)) rfl rfl) (meet_cons (by exact meetV (.slice (dropA a_l c_l k 4) (l.length - k) (c_l - k)) rfl rfl) meet_nil)))) (fun _ _ h => h) (by first | exact ⟨hO0, hI.2.1.trans hK0, hI.2.2.1.keep (by omega) (.inr (fun h => q1 ((g1.trans h).trans (g2.symm.trans (by rw [hr1]))))) g1 hb0, by omega, by omega⟩ | exact ⟨hO, hI.2.1, hI.2.2.1.skip (fun h => h.elim (by omega) (fun h => h (g1.symm.trans ((q1.trans (by rw [hr1])).trans g2)))), by omega, by omega⟩) (by (try dsimp only); omega)
        · refine walk_to (F := F6) (T := C6) (fuel := 1000) (d := 10) mixed (allF_cons (FactOk.arrLen hv1 rfl rfl under27 rfl rfl) (allF_cons (FactOk.bi rfl rfl rfl rfl rfl rfl (boolF (by omega))) allF_nil)) allC_nil ?_ hh
          refine walk_leave (F := F7) (T := C7) (fuel := 1000) (d := 10) mixed (allF_cons (FactOk.slcLo rfl rfl rfl under27 sizeSt rfl rfl (show q ≤ l.length by omega) rfl) allF_nil) allC_nil ?_
          obtain ⟨b0, hb0⟩ : ∃ b0, b0 = (b.take q ++ List.replicate (b.length - q) zrS) := ⟨_, rfl⟩
          have hn0 : b0.length = b.length := by rw [hb0, List.length_append, List.length_take, List.length_replicate]; omega
          refine ostop_clearO (u := .slice a_l b.length c_l) (l := b) (l' := b0) (i := q) (zr := zrS) (a := a_l) (c := c_l) (vals2 := (vL l a_l c_l k b q r b0)) hb0 e8 underSl zvS rfl hkS honeS e9 e10 rfl rfl (by rw [show b.length = l.length by omega]; rfl) (by rw [show b.length = l.length by omega]; exact hO) (show q < b.length by omega) (fun _ => (meet_cons (by exact meetV (.slice a_l l.length c_l) rfl rfl) (meet_cons (by exact meetV (.int .i64 ((q : Nat) : Int)) rfl rfl) meet_nil))) ?_
          intro M0 hO0 hK0 a w hh
          skip
          letI := (sg M0 l a_l c_l k b q r b0)
          refine walk_ops (F := F8) (T := C8) (fuel := 1000) (d := 10) mixed (allF_cons (FactOk.slcHi rfl rfl rfl under27 sizeSt rfl rfl (show q ≤ c_l by omega) rfl) allF_nil) allC_nil ?_ hh
          refine walk_leave (F := F9) (T := C9) (fuel := 1000) (d := 10) mixed allF_nil allC_nil ?_
          exact ostop_end e11 fun w2 hLow hIn => ⟨(by first | exact compEnd0 hl (fun j hj => .inl (by omega)) hIn | exact compEnd0 hl (fun j hj => hI.2.2 j (by omega)) hIn | exact compEnd1 (by rw [hbl] at hO0; exact hO0) hb0 (by have := hI.2.2.1; rwa [show k + r = l.length by omega] at this) (hI.2.1.trans (by rw [obl_same a_l l.length b.length]; exact hK0)) hIn), hLow⟩   -- returns symv 34
      · refine walk_to (F := F10) (T := C10) (fuel := 1000) (d := 10) mixed (allF_cons (FactOk.arrLen (hl.arr hkS) rfl rfl under27 rfl rfl) (allF_cons (FactOk.bi rfl rfl rfl rfl rfl rfl (boolT (by omega))) (allF_cons (FactOk.arrIxa (hl.arr hkS) (show k < l.length by omega) rfl rfl rfl under27 sizeSt rfl rfl rfl) (allF_cons (FactOk.arrLd (hl.arr hkS) (getSome (show k < l.length by omega)) rfl rfl aggSt sizeSt rfl rfl rfl) (allF_cons (FactOk.bi rfl rfl rfl rfl rfl rfl (intI (by omega) (by omega) (by omega))) (allF_cons (FactOk.arrIxa (hl.arr hkS) (show ((((k : Nat) : Int) - 1)).toNat < l.length by omega) rfl rfl rfl under27 sizeSt rfl (natI (by omega)) rfl) (allF_cons (FactOk.arrLd (hl.arr hkS) (getSome (show ((((k : Nat) : Int) - 1)).toNat < l.length by omega)) rfl rfl aggSt sizeSt rfl rfl rfl) (allF_cons (eqS rfl rfl rfl rfl (decide_eq_false p1).symm) (allF_cons (FactOk.bi rfl rfl rfl rfl rfl rfl (intI (by omega) (by omega) (by omega))) allF_nil))))))))) allC_nil ?_ hh
        exact ostop_back (sg := (fun k => sg (heapOf W) l a_l c_l k [] 0 0 [])) (I := fun k => 1 ≤ k ∧ k ≤ l.length ∧ (∀ j, j < k → keepAt l j)) (μ := fun k => l.length - k) (x := k) (k + 1) e12 (meet_cons (by exact meetV (.slice a_l l.length c_l) rfl rfl) (meet_cons (by exact meetV (.int .i64 ((k + 1 : Nat) : Int)) rfl rfl) meet_nil)) (fun _ _ h => h) (by exact ⟨by omega, by omega, fun j hj => by rcases Nat.lt_succ_iff_lt_or_eq.1 hj with h | rfl; exact hI.2.2 j h; simp only [hk1] at *; exact .inr p1⟩) (by (try dsimp only); omega)
    · refine walk_to (F := F11) (T := C11) (fuel := 1000) (d := 10) mixed (allF_cons (FactOk.arrLen (hl.arr hkS) rfl rfl under27 rfl rfl) (allF_cons (FactOk.bi rfl rfl rfl rfl rfl rfl (boolF (by omega))) allF_nil)) allC_nil ?_ hh
      refine walk_leave (F := F9) (T := C9) (fuel := 1000) (d := 10) mixed allF_nil allC_nil ?_
      exact ostop_end e13 fun w2 hLow hIn => ⟨(by first | exact compEnd0 hl (fun j hj => .inl (by omega)) hIn | exact compEnd0 hl (fun j hj => hI.2.2 j (by omega)) hIn | exact compEnd1 (by rw [hbl] at hO0; exact hO0) hb0 (by have := hI.2.2.1; rwa [show k + r = l.length by omega] at this) (hI.2.1.trans (by rw [obl_same a_l l.length b.length]; exact hK0)) hIn), hLow⟩   -- returns symv 0
end CompG
end AE
end Go.Proofs.YtheaofepenbcgaaGreatDoor

/- What Sorted computes: strictly increasing stamps, the same for each order of the list, each stamp of the list among them. -/
namespace Go.Proofs.YtheaofepenbcgaaGreatDoor
open Go Go.Proofs Go.RowKit
namespace AE

theorem compCall {B : Nat} {M : Mem} {a : Option Addr} {n c : Nat} {l : List St} {w : World} (hA : OArr B M elS 4 encS (.slice a n c) l) (hw : ∀ i o, M i = some o → w.heap[i]? = some o) (hn : l.length ≤ 100000) :
    Calls Tryz.prog 29 #[.slice a n c] w fun e' w' => e' = .returned (.slice a (compactS l).length c) ∧ ∃ M', (OArr B M' elS 4 encS (.slice a (compactS l).length c) (compactS l) ∧ Keeps M M' (obl (.slice a n c))) ∧ Turns B M M' (obl (.slice a n c)) w w' := by
  obtain rfl : n = l.length := by obtain ⟨_, _, h2⟩ := hA.slice; cases h2; rfl
  exact inplFrom hA hw (fun i hi => by rw [obl_same a l.length (compactS l).length c]; exact hi) fun h0 => CompG.any w h0 hn

/-- What Sorted computes. -/
def sortedS (l : List St) : List St := compactS (sortS l)

theorem sortS_pair (l : List St) : (sortS l).Pairwise fun x y => ¬ ltOf cmpS y x = true := by
  have h := List.pairwise_mergeSort (le := fun x y => !(ltOf cmpS) y x) (fun a b c h1 h2 => by
    simp only [Bool.not_eq_true'] at h1 h2 ⊢
    exact swoS.ntrans c b a h2 h1) (fun a b => by
    cases h1 : ltOf cmpS b a with
    | false => simp
    | true =>
      cases h2 : ltOf cmpS a b with
      | false => simp
      | true =>
        have := swoS.trans a b a h2 h1
        rw [swoS.irrefl] at this
        cases this) l
  exact h.imp fun {a b} h => by simpa using h

theorem sortS_mem (l : List St) (x : St) : x ∈ sortS l ↔ x ∈ l := List.mem_mergeSort

theorem sortS_perm {l l' : List St} (h : l.Perm l') : sortS l = sortS l' := by
  refine List.Perm.eq_of_pairwise (le := fun x y => ¬ ltOf cmpS y x = true) (fun a b _ _ h1 h2 => totS a b (by simpa using h2) (by simpa using h1)) (sortS_pair l) (sortS_pair l') ?_
  exact (List.mergeSort_perm l _).trans (h.trans (List.mergeSort_perm l' _).symm)

theorem sortedS_rev (l : List St) : sortedS l.reverse = sortedS l := by
  unfold sortedS
  rw [sortS_perm (List.reverse_perm l)]

theorem cuTo_len (l : List St) (m : Nat) : (cuTo l m).length ≤ m := by
  unfold cuTo
  rw [List.length_map]
  have := List.length_filter_le (fun j => decide (keepAt l j)) (List.range m)
  rwa [List.length_range] at this

theorem sortedS_len (l : List St) : (sortedS l).length ≤ l.length := by
  have := cuTo_len (sortS l) (sortS l).length
  rw [sortS_len] at this
  unfold sortedS compactS
  rwa [sortS_len]

/-- What is kept of the first m: each of them is among it; strictly increasing, and ending in the m-th, where the list is sorted. -/
theorem cuTo_spec {l : List St} (hp : l.Pairwise fun x y => ¬ ltOf cmpS y x = true) (m : Nat) (hm : m ≤ l.length) : (∀ x, x ∈ cuTo l m ↔ x ∈ l.take m) ∧ (cuTo l m).Pairwise (fun x y => ltOf cmpS x y = true) ∧ ∀ x ∈ cuTo l m, ∀ y, 0 < m → l[m - 1]? = some y → ¬ ltOf cmpS y x = true := by
  induction m with
  | zero => exact ⟨fun x => by simp [cuTo], by simp [cuTo], fun x hx => by simp [cuTo] at hx⟩
  | succ m ih =>
    obtain ⟨h1, h2, h3⟩ := ih (by omega)
    have hlm : m < l.length := by omega
    have hget := getSome hlm
    have hle : ∀ x ∈ l.take m, ¬ ltOf cmpS (l.getD m default) x = true := fun x hx => by
      obtain ⟨j, hj, rfl⟩ := List.mem_iff_getElem.1 hx
      rw [List.length_take] at hj
      rw [List.getElem_take]
      have := List.pairwise_iff_getElem.1 hp j m (by omega) hlm (by omega)
      rw [List.getElem?_eq_getElem hlm] at hget
      rw [← Option.some.inj hget]
      exact this
    rw [cuTo_succ]
    by_cases hk : keepAt l m
    · rw [if_pos hk]
      refine ⟨fun x => ?_, ?_, fun x hx y _ hy => ?_⟩
      · rw [List.mem_append, h1, List.take_add_one, hget]
        simp
      · rw [List.pairwise_append]
        refine ⟨h2, by simp, fun x hx y hy => ?_⟩
        have hy : y = l.getD m default := by simpa using hy
        subst hy
        have hxm := (h1 x).1 hx
        have h5 := hle x hxm
        cases h4 : ltOf cmpS x (l.getD m default) with
        | true => rfl
        | false =>
          exfalso
          have heq : x = l.getD m default := totS _ _ h4 (by simpa using h5)
          have hm0 : 0 < m := by
            rcases Nat.eq_zero_or_pos m with h | h
            · subst h; simp at hxm
            · exact h
          have h6 := h3 x hx (l.getD (m - 1) default) hm0 (getSome (by omega))
          have h7 : ¬ ltOf cmpS (l.getD m default) (l.getD (m - 1) default) = true := hle _ (by
            refine List.mem_iff_getElem?.2 ⟨m - 1, ?_⟩
            rw [List.getElem?_take, if_pos (by omega)]
            exact getSome (by omega))
          rw [heq] at h6
          have h8 := totS _ _ (by simpa using h6) (by simpa using h7)
          rcases hk with h | h
          · omega
          · exact h h8.symm
      · have hy2 : y = l.getD m default := by
          rw [Nat.add_sub_cancel, hget] at hy
          exact (Option.some.inj hy).symm
        subst hy2
        rcases List.mem_append.1 hx with h | h
        · exact hle x ((h1 x).1 h)
        · have : x = l.getD m default := by simpa using h
          rw [this, swoS.irrefl]
          simp
    · rw [if_neg hk, List.append_nil]
      have hm0 : m ≠ 0 := fun h => hk (.inl h)
      have heq : l.getD m default = l.getD (m - 1) default := by
        rcases Classical.em (l.getD m default = l.getD (m - 1) default) with h | h
        · exact h
        · exact absurd (.inr h) hk
      refine ⟨fun x => ?_, h2, fun x hx y _ hy => ?_⟩
      · rw [h1, List.take_add_one, hget]
        simp only [Option.toList_some, List.mem_append, List.mem_singleton]
        refine ⟨fun h => .inl h, fun h => ?_⟩
        rcases h with h | rfl
        · exact h
        · rw [heq]
          refine List.mem_iff_getElem?.2 ⟨m - 1, ?_⟩
          rw [List.getElem?_take, if_pos (by omega)]
          exact getSome (by omega)
      · have hy2 : y = l.getD m default := by
          rw [Nat.add_sub_cancel, hget] at hy
          exact (Option.some.inj hy).symm
        subst hy2
        exact hle x ((h1 x).1 hx)

theorem sortedS_mem (l : List St) (x : St) : x ∈ sortedS l ↔ x ∈ l := by
  unfold sortedS compactS
  rw [(cuTo_spec (sortS_pair l) _ (Nat.le_refl _)).1, List.take_length, sortS_mem]

theorem sortedS_lt {l : List St} {i : Nat} (h0 : 0 < i) (hi : i < (sortedS l).length) : cmpS ((sortedS l).getD (i - 1) default) ((sortedS l).getD i default) < 0 := by
  have h := (cuTo_spec (sortS_pair l) _ (Nat.le_refl _)).2.1
  have h2 := List.pairwise_iff_getElem.1 h (i - 1) i (by have := hi; unfold sortedS compactS at this; omega) hi (by omega)
  unfold ltOf at h2
  rw [decide_eq_true_iff] at h2
  have e1 : (sortedS l).getD i default = (sortedS l)[i] := by rw [List.getD_eq_getElem?_getD, List.getElem?_eq_getElem hi]; rfl
  have hi2 : i - 1 < (sortedS l).length := by omega
  have e2 : (sortedS l).getD (i - 1) default = (sortedS l)[i - 1] := by rw [List.getD_eq_getElem?_getD, List.getElem?_eq_getElem hi2]; rfl
  rw [e1, e2]
  exact h2

end AE
end Go.Proofs.YtheaofepenbcgaaGreatDoor

/- stamp.Sorted for all lists -/
namespace Go.Proofs.YtheaofepenbcgaaGreatDoor
open Go Go.Proofs Go.RowKit
namespace AE
-- stops at: a call with an effect
-- stops at: a call with an effect
-- stops at: a call with an effect
namespace SortedG
noncomputable def body : Code := (Tryz.f8.body).getD .skip
def N : Nat := 10
noncomputable abbrev at' (N : Nat) (F : List (FOp × Value)) (C : List (FuncId × List Value × Value)) (c : Code) (s : ASt) : Option Stop := evalTo Tryz.prog F C N 1000 10 c s
noncomputable abbrev leave' (N : Nat) (F : List (FOp × Value)) (C : List (FuncId × List Value × Value)) (ks : List KI) (o : Option Stop) : Option Stop := evalLeave Tryz.prog F C N 1000 10 ks o
noncomputable abbrev unr' (N : Nat) (F : List (FOp × Value)) (C : List (FuncId × List Value × Value)) (m : Nat) (o : Option Stop) : Option Stop := evalUnroll Tryz.prog F C N 1000 10 m o
noncomputable abbrev res' (N : Nat) (F : List (FOp × Value)) (C : List (FuncId × List Value × Value)) (ks : List KI) (x : AX) (s : ASt) : Option Stop := evalRes Tryz.prog F C N 1000 10 ks x s
noncomputable abbrev ops' (N : Nat) (F : List (FOp × Value)) (C : List (FuncId × List Value × Value)) (r : List Oper) (ops : Array Oper) (ks : List KI) (s : ASt) : Option Stop := evalOps Tryz.prog F C N 1000 10 r ops ks s
def s0 : ASt := { sl := slots [(0, symv 0)], ms := [], A := start }
def F0 : List (FOp × Value) := []
def C0 : List (FuncId × List Value × Value) := []
set_option maxRecDepth 100000 in
theorem e0 : callAt Tryz.prog (at' 10 F0 C0 body s0) = some (27, [symv 0]) := by kernel_rfl
noncomputable abbrev so0 := at' 10 F0 C0 body s0
noncomputable def bk0 : List Bk := []
def hd0 : Sl := slots [(2, .slice none 0 0)]
def hp0 : Sl := match aput 10 hd0 (some 5) (symv 1) with | some s => s | none => .nil
set_option maxRecDepth 100000 in
theorem e1 : trAll (stopSt so0) hd0 bk0 = some [] := by kernel_rfl
set_option maxRecDepth 100000 in
theorem e2 : aput 10 hd0 (stopDst so0) (symv 1) = some hp0 := by kernel_rfl
set_option maxRecDepth 100000 in
theorem e3 : callAt Tryz.prog (ops' 10 F0 C0 (stopRest so0) (stopOps so0) (stopKs so0) { sl := hp0, ms := [], A := mkAS bk0 }) = some (28, [symv 1, .func (.func 12) ⟨[]⟩ ⟨[]⟩]) := by kernel_rfl
noncomputable abbrev so1 := ops' 10 F0 C0 (stopRest so0) (stopOps so0) (stopKs so0) { sl := hp0, ms := [], A := mkAS bk0 }
noncomputable def bk1 : List Bk := []
def hd1 : Sl := slots [(3, symv 1), (2, .slice none 0 0)]
def hp1 : Sl := match aput 10 hd1 (some 7) (.tuple ⟨[]⟩) with | some s => s | none => .nil
set_option maxRecDepth 100000 in
theorem e4 : trAll (stopSt so1) hd1 bk1 = some [(symv 1, symv 1)] := by kernel_rfl
set_option maxRecDepth 100000 in
theorem e5 : aput 10 hd1 (stopDst so1) (.tuple ⟨[]⟩) = some hp1 := by kernel_rfl
set_option maxRecDepth 100000 in
theorem e6 : callAt Tryz.prog (ops' 10 F0 C0 (stopRest so1) (stopOps so1) (stopKs so1) { sl := hp1, ms := [], A := mkAS bk1 }) = some (29, [symv 1]) := by kernel_rfl
noncomputable abbrev so2 := ops' 10 F0 C0 (stopRest so1) (stopOps so1) (stopKs so1) { sl := hp1, ms := [], A := mkAS bk1 }
noncomputable def bk2 : List Bk := []
def hd2 : Sl := slots [(2, .slice none 0 0)]
def hp2 : Sl := match aput 10 hd2 (some 9) (symv 2) with | some s => s | none => .nil
set_option maxRecDepth 100000 in
theorem e7 : trAll (stopSt so2) hd2 bk2 = some [] := by kernel_rfl
set_option maxRecDepth 100000 in
theorem e8 : aput 10 hd2 (stopDst so2) (symv 2) = some hp2 := by kernel_rfl
set_option maxRecDepth 100000 in
theorem e9 : endVal Tryz.prog Tryz.f8 (ops' 10 F0 C0 (stopRest so2) (stopOps so2) (stopKs so2) { sl := hp2, ms := [], A := mkAS bk2 }) = some (symv 2) := by kernel_rfl
@[reducible] noncomputable def vL (l : List St) (a_l : Option Addr) (c_l : Nat) (b0 : List St) (a0 : Option Addr) (c0 : Nat) (b1 : List St) (b2 : List St) : List Value := [.slice a_l l.length c_l, .slice a0 b0.length c0, .slice a0 b2.length c0]
@[reducible] noncomputable def sg (M : Mem) (l : List St) (a_l : Option Addr) (c_l : Nat) (b0 : List St) (a0 : Option Addr) (c0 : Nat) (b1 : List St) (b2 : List St) : Sig := sgL M (vL l a_l c_l b0 a0 c0 b1 b2)
set_option maxHeartbeats 4000000 in
set_option maxRecDepth 100000 in
theorem any (W : World) {v_l : Value} {l : List St} (hl : Arr (heapOf W) 4 encS v_l l) (hn : l.length ≤ 100000) : Calls Tryz.prog 8 #[v_l] W fun e w' => (∃ a c, e = .returned (.slice a (sortedS l).length c) ∧ OArr W.heap.size (heapOf w') elS 4 encS (.slice a (sortedS l).length c) (sortedS l)) ∧ Low W.heap.size W w' := by
  obtain ⟨a_l, c_l, rfl⟩ := hl.slice
  refine @walk_enter (sg (heapOf W) l a_l c_l [] none 0 [] []) Tryz.prog 8 Tryz.f8 body [symv 0] (slots [(0, symv 0)]) N W _ Tryz.func8 (by kernel_rfl) (by kernel_rfl) (by kernel_rfl) (by kernel_rfl) (immW_sgL W _) fun a hh => ?_
  letI := (sg (heapOf W) l a_l c_l [] none 0 [] [])
  refine walk_to (F := F0) (T := C0) (fuel := 1000) (d := 10) mixed allF_nil allC_nil ?_ hh
  obtain ⟨b0, hb0⟩ : ∃ b0 : List St, b0 = l := ⟨_, rfl⟩
  refine ostop_callT (Y := Option Addr × Nat) (vals2 := fun y => (vL l a_l c_l b0 y.1 y.2 [] [])) (T := none) (R := fun y M' => OArr W.heap.size M' elS 4 encS (.slice y.1 b0.length y.2) b0 ∧ Keeps (heapOf W) M' none) e0 e1 e2 rfl (fun w hw hB => by subst hb0; exact newOf hw hB (fun y M' => rfl) (CloneG.any w (hl.mono hw) (by omega))) (fun _ _ _ => meet_nil) ?_
  intro M0 ⟨a0, c0⟩ hR0 a w hh
  obtain ⟨hO0, hK0⟩ := hR0
  have hM0 := hK0.up (fun _ h => by cases h) (Nat.le_refl _) (fun _ _ h => h)
  have hn0 : b0.length = l.length := by rw [hb0]; first | done | exact rfl
  letI := (sg M0 l a_l c_l b0 a0 c0 [] [])
  refine walk_ops (F := F0) (T := C0) (fuel := 1000) (d := 10) mixed allF_nil allC_nil ?_ hh
  obtain ⟨b1, hb1⟩ : ∃ b1 : List St, b1 = sortS b0 := ⟨_, rfl⟩
  have hn1 : b1.length = b0.length := by rw [hb1]; first | done | exact sortS_len b0
  refine ostop_callT (Y := Unit) (vals2 := fun _ => (vL l a_l c_l b0 a0 c0 b1 [])) (T := obl (.slice a0 b0.length c0)) (R := fun _ M' => OArr W.heap.size M' elS 4 encS (.slice a0 b0.length c0) b1 ∧ Keeps M0 M' (obl (.slice a0 b0.length c0))) e3 e4 e5 rfl (fun w hw hB => by subst hb1; exact inplOf (fun M' => rfl) (sortCmp hO0 hw hB (by omega))) (fun _ _ _ => (meet_cons (by exact meetV (.slice a0 b0.length c0) rfl rfl) meet_nil)) ?_
  intro M1 _ hR1 a w hh
  obtain ⟨hO1, hK1⟩ := hR1
  have hM1 := hK1.up (fun i h => (hO0.known i h).2) (Nat.le_refl _) hM0
  letI := (sg M1 l a_l c_l b0 a0 c0 b1 [])
  refine walk_ops (F := F0) (T := C0) (fuel := 1000) (d := 10) mixed allF_nil allC_nil ?_ hh
  obtain ⟨b2, hb2⟩ : ∃ b2 : List St, b2 = compactS b1 := ⟨_, rfl⟩
  refine ostop_callT (Y := Unit) (vals2 := fun _ => (vL l a_l c_l b0 a0 c0 b1 b2)) (T := obl (.slice a0 b0.length c0)) (R := fun _ M' => OArr W.heap.size M' elS 4 encS (.slice a0 b2.length c0) b2 ∧ Keeps M1 M' (obl (.slice a0 b0.length c0))) e6 e7 e8 rfl (fun w hw hB => by subst hb2; exact inplOf (fun M' => rfl) (compCall hO1 hw (by omega))) (fun _ _ _ => meet_nil) ?_
  intro M2 _ hR2 a w hh
  obtain ⟨hO2, hK2⟩ := hR2
  have hM2 := hK2.up (fun i h => (hO1.known i h).2) (Nat.le_refl _) hM1
  letI := (sg M2 l a_l c_l b0 a0 c0 b1 b2)
  refine walk_ops (F := F0) (T := C0) (fuel := 1000) (d := 10) mixed allF_nil allC_nil ?_ hh
  exact ostop_end e9 fun w2 hLow hIn => ⟨(by exact newEnd hO2 (by rw [hb2, hb1, hb0]; rfl) hIn), hLow⟩   -- returns symv 2
end SortedG
end AE
end Go.Proofs.YtheaofepenbcgaaGreatDoor

/- Same of the reference -/
namespace Go.Proofs.YtheaofepenbcgaaGreatDoor
open Go Go.Proofs Go.RowKit
namespace AE
namespace Same
noncomputable def body : Code := (Tryz.f7.body).getD .skip
def N : Nat := 26
noncomputable abbrev at' (N : Nat) (F : List (FOp × Value)) (C : List (FuncId × List Value × Value)) (c : Code) (s : ASt) : Option Stop := evalTo Tryz.prog F C N 1000 10 c s
noncomputable abbrev leave' (N : Nat) (F : List (FOp × Value)) (C : List (FuncId × List Value × Value)) (ks : List KI) (o : Option Stop) : Option Stop := evalLeave Tryz.prog F C N 1000 10 ks o
noncomputable abbrev unr' (N : Nat) (F : List (FOp × Value)) (C : List (FuncId × List Value × Value)) (m : Nat) (o : Option Stop) : Option Stop := evalUnroll Tryz.prog F C N 1000 10 m o
noncomputable abbrev res' (N : Nat) (F : List (FOp × Value)) (C : List (FuncId × List Value × Value)) (ks : List KI) (x : AX) (s : ASt) : Option Stop := evalRes Tryz.prog F C N 1000 10 ks x s
noncomputable abbrev ops' (N : Nat) (F : List (FOp × Value)) (C : List (FuncId × List Value × Value)) (r : List Oper) (ops : Array Oper) (ks : List KI) (s : ASt) : Option Stop := evalOps Tryz.prog F C N 1000 10 r ops ks s
def s0 : ASt := { sl := slots [(1, symv 1), (0, symv 0)], ms := [], A := start }
def F0 : List (FOp × Value) := [(.len #[22] 3 (symv 0), symv 2),
    (.len #[22] 3 (symv 1), symv 3),
    (.bin .neq 3 (symv 2) (symv 3), .bool false)]
def C0 : List (FuncId × List Value × Value) := []
-- loop 0: slots [(10, .bool false), (9, symv 3), (8, symv 1), (7, symv 2), (6, symv 0), (5, .int .i64 0), (4, .bool false), (1, symv 1), (0, symv 0)] blocks 0 ms [] []
noncomputable def bks0 : List Bk := []
def head0 : Sl := slots [(5, symv 4), (1, symv 1), (0, symv 0)]
noncomputable abbrev at0 := at' 26 F0 C0 body s0
set_option maxRecDepth 100000 in
theorem e0 : headObs head0 bks0 at0 = some [(symv 0, symv 0), (symv 1, symv 1), (.int .i64 0, symv 4)] := by kernel_rfl
def F1 : List (FOp × Value) := [(.len #[22] 3 (symv 0), symv 2),
    (.bin .lss 3 (symv 4) (symv 2), .bool true),
    (.ixa 22 (symv 0) (symv 4), symv 5),
    (.ld 24 (symv 5), .agg ⟨[symv 6, symv 7, symv 8, symv 9]⟩),
    (.ixa 22 (symv 1) (symv 4), symv 10),
    (.ld 24 (symv 10), .agg ⟨[symv 11, symv 12, symv 13, symv 14]⟩),
    (.bin .neq 24 (.agg ⟨[symv 6, symv 7, symv 8, symv 9]⟩) (.agg ⟨[symv 11, symv 12, symv 13, symv 14]⟩), .bool false),
    (.bin .add 3 (symv 4) (.int .i64 1), symv 15)]
def C1 : List (FuncId × List Value × Value) := []
set_option maxRecDepth 100000 in
theorem e1 : backObs head0 bks0 (at' 26 F1 C1 (stopCode at0) (headSt head0 bks0)) = some [(symv 0, symv 0), (symv 1, symv 1), (symv 15, symv 4)] := by kernel_rfl
def F2 : List (FOp × Value) := [(.len #[22] 3 (symv 0), symv 2),
    (.bin .lss 3 (symv 4) (symv 2), .bool true),
    (.ixa 22 (symv 0) (symv 4), symv 5),
    (.ld 24 (symv 5), .agg ⟨[symv 6, symv 7, symv 8, symv 9]⟩),
    (.ixa 22 (symv 1) (symv 4), symv 10),
    (.ld 24 (symv 10), .agg ⟨[symv 11, symv 12, symv 13, symv 14]⟩),
    (.bin .neq 24 (.agg ⟨[symv 6, symv 7, symv 8, symv 9]⟩) (.agg ⟨[symv 11, symv 12, symv 13, symv 14]⟩), .bool true)]
def C2 : List (FuncId × List Value × Value) := []
def F3 : List (FOp × Value) := []
def C3 : List (FuncId × List Value × Value) := []
set_option maxRecDepth 100000 in
theorem e2 : endVal Tryz.prog Tryz.f7 (leave' 26 F3 C3 (stopKs at0) (at' 26 F2 C2 (stopCode at0) (headSt head0 bks0))) = some (.bool false) := by kernel_rfl
def F4 : List (FOp × Value) := [(.len #[22] 3 (symv 0), symv 2),
    (.bin .lss 3 (symv 4) (symv 2), .bool false)]
def C4 : List (FuncId × List Value × Value) := []
set_option maxRecDepth 100000 in
theorem e3 : endVal Tryz.prog Tryz.f7 (leave' 26 F3 C3 (stopKs at0) (at' 26 F4 C4 (stopCode at0) (headSt head0 bks0))) = some (.bool true) := by kernel_rfl
def F5 : List (FOp × Value) := [(.len #[22] 3 (symv 0), symv 2),
    (.len #[22] 3 (symv 1), symv 3),
    (.bin .neq 3 (symv 2) (symv 3), .bool true)]
def C5 : List (FuncId × List Value × Value) := []
set_option maxRecDepth 100000 in
theorem e4 : endVal Tryz.prog Tryz.f7 (at' 26 F5 C5 body s0) = some (.bool false) := by kernel_rfl
@[reducible] noncomputable def vL (la : List St) (a_la : Option Addr) (c_la : Nat) (lb : List St) (a_lb : Option Addr) (c_lb : Nat) (i : Nat) : List Value := [.slice a_la la.length c_la, .slice a_lb lb.length c_lb, .int .i64 ((la.length : Nat) : Int), .int .i64 ((lb.length : Nat) : Int), .int .i64 ((i : Nat) : Int), cellPtr (.slice a_la la.length c_la) (i * 4), .int .i64 (la.getD (i) default).1, .int .i64 (la.getD (i) default).2.1, .int .i64 (la.getD (i) default).2.2.1, .int .i64 (la.getD (i) default).2.2.2, cellPtr (.slice a_lb lb.length c_lb) (i * 4), .int .i64 (lb.getD (i) default).1, .int .i64 (lb.getD (i) default).2.1, .int .i64 (lb.getD (i) default).2.2.1, .int .i64 (lb.getD (i) default).2.2.2, .int .i64 ((i + 1 : Nat) : Int)]
@[reducible] noncomputable def sg (M : Mem) (la : List St) (a_la : Option Addr) (c_la : Nat) (lb : List St) (a_lb : Option Addr) (c_lb : Nat) (i : Nat) : Sig := sgL M (vL la a_la c_la lb a_lb c_lb i)
set_option maxHeartbeats 4000000 in
set_option maxRecDepth 100000 in
theorem any (W : World) {v_la : Value} {la : List St} (ha : Arr (heapOf W) 4 encS v_la la) {v_lb : Value} {lb : List St} (hb : Arr (heapOf W) 4 encS v_lb lb) (hn : (la.length : Int) < 9223372036854775807) : Calls Tryz.prog 7 #[v_la, v_lb] W fun e w' => e = .returned (.bool (decide (la = lb))) ∧ Low W.heap.size W w' := by
  obtain ⟨a_la, c_la, rfl⟩ := ha.slice
  obtain ⟨a_lb, c_lb, rfl⟩ := hb.slice
  refine @walk_enter (sg (heapOf W) la a_la c_la lb a_lb c_lb 0) Tryz.prog 7 Tryz.f7 body [symv 0, symv 1] (slots [(1, symv 1), (0, symv 0)]) N W _ Tryz.func7 (by kernel_rfl) (by kernel_rfl) (by kernel_rfl) (by kernel_rfl) (immW_sgL W _) fun a hh => ?_
  letI := (sg (heapOf W) la a_la c_la lb a_lb c_lb 0)
  by_cases h0 : ((la.length : Nat) : Int) = ((lb.length : Nat) : Int)
  · refine walk_to (F := F0) (T := C0) (fuel := 1000) (d := 10) mixed (allF_cons (FactOk.arrLen ha rfl rfl under27 rfl rfl) (allF_cons (FactOk.arrLen hb rfl rfl under27 rfl rfl) (allF_cons (FactOk.bi rfl rfl rfl rfl rfl rfl (nboolF (by omega))) allF_nil))) allC_nil ?_ hh
    -- LOOP 0: slot 4 = .bool false is written in the loop: left out
    refine ostop_loop (sg := (fun i => sg (heapOf W) la a_la c_la lb a_lb c_lb i)) (fun i => i ≤ la.length ∧ ∀ j, j < i → la[j]? = lb[j]?) (fun i => la.length - i) 0 e0 (meet_cons (by exact meetV (.slice a_la la.length c_la) rfl rfl) (meet_cons (by exact meetV (.slice a_lb lb.length c_lb) rfl rfl) (meet_cons rfl meet_nil))) (fun _ _ h => h) (by exact ⟨Nat.zero_le _, fun j h => absurd h (Nat.not_lt_zero _)⟩) ?_
    intro i hI a w hh
    letI := (sg (heapOf W) la a_la c_la lb a_lb c_lb i)
    by_cases p0 : ((i : Nat) : Int) < ((la.length : Nat) : Int)
    · by_cases p1 : (la.getD (i) default) = (lb.getD (i) default)
      · refine walk_to (F := F1) (T := C1) (fuel := 1000) (d := 10) mixed (allF_cons (FactOk.arrLen ha rfl rfl under27 rfl rfl) (allF_cons (FactOk.bi rfl rfl rfl rfl rfl rfl (boolT (by omega))) (allF_cons (FactOk.arrIxa ha (show i < la.length by omega) rfl rfl rfl under27 sizeSt rfl rfl rfl) (allF_cons (FactOk.arrLd ha (getSome (show i < la.length by omega)) rfl rfl aggSt sizeSt rfl rfl rfl) (allF_cons (FactOk.arrIxa hb (show i < lb.length by omega) rfl rfl rfl under27 sizeSt rfl rfl rfl) (allF_cons (FactOk.arrLd hb (getSome (show i < lb.length by omega)) rfl rfl aggSt sizeSt rfl rfl rfl) (allF_cons (neqS rfl rfl rfl rfl (by rw [decide_eq_true p1]; rfl)) (allF_cons (FactOk.bi rfl rfl rfl rfl rfl rfl (intI (by omega) (by omega) (by omega))) allF_nil)))))))) allC_nil ?_ hh
        exact ostop_back (sg := (fun i => sg (heapOf W) la a_la c_la lb a_lb c_lb i)) (I := fun i => i ≤ la.length ∧ ∀ j, j < i → la[j]? = lb[j]?) (μ := fun i => la.length - i) (x := i) (i + 1) e1 (meet_cons (by exact meetV (.slice a_la la.length c_la) rfl rfl) (meet_cons (by exact meetV (.slice a_lb lb.length c_lb) rfl rfl) (meet_cons (by exact meetV (.int .i64 ((i + 1 : Nat) : Int)) rfl rfl) meet_nil))) (fun _ _ h => h) (by exact ⟨by omega, fun j hj => by rcases Nat.lt_succ_iff_lt_or_eq.1 hj with h | rfl; exact hI.2 j h; rw [getSome (show j < la.length by omega), getSome (show j < lb.length by omega), p1]⟩) (by (try dsimp only); omega)
      · refine walk_to (F := F2) (T := C2) (fuel := 1000) (d := 10) mixed (allF_cons (FactOk.arrLen ha rfl rfl under27 rfl rfl) (allF_cons (FactOk.bi rfl rfl rfl rfl rfl rfl (boolT (by omega))) (allF_cons (FactOk.arrIxa ha (show i < la.length by omega) rfl rfl rfl under27 sizeSt rfl rfl rfl) (allF_cons (FactOk.arrLd ha (getSome (show i < la.length by omega)) rfl rfl aggSt sizeSt rfl rfl rfl) (allF_cons (FactOk.arrIxa hb (show i < lb.length by omega) rfl rfl rfl under27 sizeSt rfl rfl rfl) (allF_cons (FactOk.arrLd hb (getSome (show i < lb.length by omega)) rfl rfl aggSt sizeSt rfl rfl rfl) (allF_cons (neqS rfl rfl rfl rfl (by rw [decide_eq_false p1]; rfl)) allF_nil))))))) allC_nil ?_ hh
        refine walk_leave (F := F3) (T := C3) (fuel := 1000) (d := 10) mixed allF_nil allC_nil ?_
        exact ostop_end e2 fun w2 hLow hIn => ⟨(by show Ending.returned (.bool _) = _; congr 2; first | exact (decide_eq_false fun h => p1 (by rw [h])).symm | exact (decide_eq_true (sameAll hI.2 (by omega) (by omega))).symm | exact (decide_eq_false fun h => h0 (by rw [h])).symm), hLow⟩   -- returns .bool false
    · refine walk_to (F := F4) (T := C4) (fuel := 1000) (d := 10) mixed (allF_cons (FactOk.arrLen ha rfl rfl under27 rfl rfl) (allF_cons (FactOk.bi rfl rfl rfl rfl rfl rfl (boolF (by omega))) allF_nil)) allC_nil ?_ hh
      refine walk_leave (F := F3) (T := C3) (fuel := 1000) (d := 10) mixed allF_nil allC_nil ?_
      exact ostop_end e3 fun w2 hLow hIn => ⟨(by show Ending.returned (.bool _) = _; congr 2; first | exact (decide_eq_false fun h => p1 (by rw [h])).symm | exact (decide_eq_true (sameAll hI.2 (by omega) (by omega))).symm | exact (decide_eq_false fun h => h0 (by rw [h])).symm), hLow⟩   -- returns .bool true
  · refine walk_to (F := F5) (T := C5) (fuel := 1000) (d := 10) mixed (allF_cons (FactOk.arrLen ha rfl rfl under27 rfl rfl) (allF_cons (FactOk.arrLen hb rfl rfl under27 rfl rfl) (allF_cons (FactOk.bi rfl rfl rfl rfl rfl rfl (nboolT (by omega))) allF_nil))) allC_nil ?_ hh
    exact ostop_end e4 fun w2 hLow hIn => ⟨(by show Ending.returned (.bool _) = _; congr 2; first | exact (decide_eq_false fun h => p1 (by rw [h])).symm | exact (decide_eq_true (sameAll hI.2 (by omega) (by omega))).symm | exact (decide_eq_false fun h => h0 (by rw [h])).symm), hLow⟩   -- returns .bool false
end Same
end AE
end Go.Proofs.YtheaofepenbcgaaGreatDoor

/- Calls of Same, Sorted and the sanity example, by contract. -/
namespace Go.Proofs.YtheaofepenbcgaaGreatDoor
open Go Go.Proofs Go.RowKit
namespace AE

theorem getMemS {l : List St} {i : Nat} (h : i < l.length) : l.getD i default ∈ l := by
  rw [List.getD_eq_getElem?_getD, List.getElem?_eq_getElem h]
  exact List.getElem_mem h
theorem memGetS {l : List St} {x : St} (h : x ∈ l) : ∃ i, i < l.length ∧ l.getD i default = x := by
  obtain ⟨i, hi, rfl⟩ := List.mem_iff_getElem.1 h
  exact ⟨i, hi, by rw [List.getD_eq_getElem?_getD, List.getElem?_eq_getElem hi]; rfl⟩
theorem drop_rev {l : List St} {n : Nat} (h : n < l.length) : (l.drop (n + 1)).reverse ++ [l.getD n default] = (l.drop n).reverse := by
  have e : l.getD n default = l[n] := by rw [List.getD_eq_getElem?_getD, List.getElem?_eq_getElem h]; rfl
  rw [List.drop_eq_getElem_cons h, List.reverse_cons, e]

variable [Sig]

theorem callSanity : CallFactOk Tryz.prog (6, [], .bool true) :=
  callAny (a := #[]) rfl rfl rfl rfl fun w _ => sanity_any w
theorem callSameT {x y : Value} {u v : Value} {la lb : List St} (hp : plainSL [x, y] = true) (ev : interpL [x, y] = [u, v]) (ha : Arr Sig.imm 4 encS u la) (hb : Arr Sig.imm 4 encS v lb) (hn : (la.length : Int) < 9223372036854775807) (h : la = lb) : CallFactOk Tryz.prog (7, [x, y], .bool true) :=
  callAny (a := #[u, v]) hp rfl ev rfl fun w hw => (Same.any w (ha.mono hw) (hb.mono hw) hn).mono fun e w' h' => by rw [decide_eq_true h] at h'; exact h'
theorem callSameF {x y : Value} {u v : Value} {la lb : List St} (hp : plainSL [x, y] = true) (ev : interpL [x, y] = [u, v]) (ha : Arr Sig.imm 4 encS u la) (hb : Arr Sig.imm 4 encS v lb) (hn : (la.length : Int) < 9223372036854775807) (h : ¬ la = lb) : CallFactOk Tryz.prog (7, [x, y], .bool false) :=
  callAny (a := #[u, v]) hp rfl ev rfl fun w hw => (Same.any w (ha.mono hw) (hb.mono hw) hn).mono fun e w' h' => by rw [decide_eq_false h] at h'; exact h'

omit [Sig] in
theorem meetB {M M' : Mem} {vals vals' : List Value} {a : Nat} {b b' : Bool} (h1 : oneC (vals.getD a (.bool false)) = .bool b) (h : b = b') : @interp (sgL M vals) (symv a) = @interp (sgL M' vals') (.bool b') := by
  subst h
  exact (@interp_symv (sgL M vals) a).trans h1

end AE
end Go.Proofs.YtheaofepenbcgaaGreatDoor

/- the order of Orderly -/
namespace Go.Proofs.YtheaofepenbcgaaGreatDoor
open Go Go.Proofs Go.RowKit
namespace AE
namespace OrdC
noncomputable def body : Code := (Tryz.f35.body).getD .skip
def N : Nat := 20
noncomputable abbrev at' (N : Nat) (F : List (FOp × Value)) (C : List (FuncId × List Value × Value)) (c : Code) (s : ASt) : Option Stop := evalTo Tryz.prog F C N 1000 10 c s
noncomputable abbrev leave' (N : Nat) (F : List (FOp × Value)) (C : List (FuncId × List Value × Value)) (ks : List KI) (o : Option Stop) : Option Stop := evalLeave Tryz.prog F C N 1000 10 ks o
noncomputable abbrev unr' (N : Nat) (F : List (FOp × Value)) (C : List (FuncId × List Value × Value)) (m : Nat) (o : Option Stop) : Option Stop := evalUnroll Tryz.prog F C N 1000 10 m o
noncomputable abbrev res' (N : Nat) (F : List (FOp × Value)) (C : List (FuncId × List Value × Value)) (ks : List KI) (x : AX) (s : ASt) : Option Stop := evalRes Tryz.prog F C N 1000 10 ks x s
noncomputable abbrev ops' (N : Nat) (F : List (FOp × Value)) (C : List (FuncId × List Value × Value)) (r : List Oper) (ops : Array Oper) (ks : List KI) (s : ASt) : Option Stop := evalOps Tryz.prog F C N 1000 10 r ops ks s
def s0 : ASt := { sl := slots [(1, .agg ⟨[symv 4, symv 5, symv 6, symv 7]⟩), (0, .agg ⟨[symv 0, symv 1, symv 2, symv 3]⟩)], ms := [], A := start }
def F0 : List (FOp × Value) := [(.bin .neq 3 (symv 8) (.int .i64 0), .bool false),
    (.bin .neq 3 (symv 9) (.int .i64 0), .bool false),
    (.bin .neq 3 (symv 10) (.int .i64 0), .bool false)]
def C0 : List (FuncId × List Value × Value) := [(33, [symv 2, symv 6], symv 8),
    (33, [symv 3, symv 7], symv 9),
    (12, [.agg ⟨[symv 0, symv 1, symv 2, symv 3]⟩, .agg ⟨[symv 4, symv 5, symv 6, symv 7]⟩], symv 10)]
set_option maxRecDepth 100000 in
theorem e0 : endVal Tryz.prog Tryz.f35 (at' 20 F0 C0 body s0) = some (.int .i64 0) := by kernel_rfl
def F1 : List (FOp × Value) := [(.bin .neq 3 (symv 8) (.int .i64 0), .bool false),
    (.bin .neq 3 (symv 9) (.int .i64 0), .bool false),
    (.bin .neq 3 (symv 10) (.int .i64 0), .bool true)]
def C1 : List (FuncId × List Value × Value) := [(33, [symv 2, symv 6], symv 8),
    (33, [symv 3, symv 7], symv 9),
    (12, [.agg ⟨[symv 0, symv 1, symv 2, symv 3]⟩, .agg ⟨[symv 4, symv 5, symv 6, symv 7]⟩], symv 10)]
set_option maxRecDepth 100000 in
theorem e1 : endVal Tryz.prog Tryz.f35 (at' 20 F1 C1 body s0) = some (symv 10) := by kernel_rfl
def F2 : List (FOp × Value) := [(.bin .neq 3 (symv 8) (.int .i64 0), .bool false),
    (.bin .neq 3 (symv 9) (.int .i64 0), .bool true)]
def C2 : List (FuncId × List Value × Value) := [(33, [symv 2, symv 6], symv 8),
    (33, [symv 3, symv 7], symv 9),
    (12, [.agg ⟨[symv 0, symv 1, symv 2, symv 3]⟩, .agg ⟨[symv 4, symv 5, symv 6, symv 7]⟩], symv 10)]
set_option maxRecDepth 100000 in
theorem e2 : endVal Tryz.prog Tryz.f35 (at' 20 F2 C2 body s0) = some (symv 9) := by kernel_rfl
def F3 : List (FOp × Value) := [(.bin .neq 3 (symv 8) (.int .i64 0), .bool true)]
def C3 : List (FuncId × List Value × Value) := [(33, [symv 2, symv 6], symv 8),
    (33, [symv 3, symv 7], symv 9),
    (12, [.agg ⟨[symv 0, symv 1, symv 2, symv 3]⟩, .agg ⟨[symv 4, symv 5, symv 6, symv 7]⟩], symv 10)]
set_option maxRecDepth 100000 in
theorem e3 : endVal Tryz.prog Tryz.f35 (at' 20 F3 C3 body s0) = some (symv 8) := by kernel_rfl
@[reducible] noncomputable def vL (x : St) (y : St) : List Value := [.int .i64 x.1, .int .i64 x.2.1, .int .i64 x.2.2.1, .int .i64 x.2.2.2, .int .i64 y.1, .int .i64 y.2.1, .int .i64 y.2.2.1, .int .i64 y.2.2.2, .int .i64 (signI x.2.2.1 y.2.2.1), .int .i64 (signI x.2.2.2 y.2.2.2), .int .i64 (cmpS x y)]
@[reducible] noncomputable def sg (M : Mem) (x : St) (y : St) : Sig := sgL M (vL x y)
set_option maxHeartbeats 4000000 in
set_option maxRecDepth 100000 in
theorem any (W : World) (x : St) (y : St)  : Calls Tryz.prog 35 #[St.val x, St.val y] W fun e w' => e = .returned (.int .i64 (cmpO x y)) ∧ Low W.heap.size W w' := by
  refine @walk_enter (sg (heapOf W) x y ) Tryz.prog 35 Tryz.f35 body [.agg ⟨[symv 0, symv 1, symv 2, symv 3]⟩, .agg ⟨[symv 4, symv 5, symv 6, symv 7]⟩] (slots [(1, .agg ⟨[symv 4, symv 5, symv 6, symv 7]⟩), (0, .agg ⟨[symv 0, symv 1, symv 2, symv 3]⟩)]) N W _ Tryz.func35 (by kernel_rfl) (by kernel_rfl) (by kernel_rfl) (by kernel_rfl) (immW_sgL W _) fun a hh => ?_
  letI := (sg (heapOf W) x y )
  by_cases h0 : (signI x.2.2.1 y.2.2.1) = 0
  · by_cases h1 : (signI x.2.2.2 y.2.2.2) = 0
    · by_cases h2 : (cmpS x y) = 0
      · refine walk_to (F := F0) (T := C0) (fuel := 1000) (d := 10) mixed (allF_cons (FactOk.bi rfl rfl rfl rfl rfl rfl (nboolF (by omega))) (allF_cons (FactOk.bi rfl rfl rfl rfl rfl rfl (nboolF (by omega))) (allF_cons (FactOk.bi rfl rfl rfl rfl rfl rfl (nboolF (by omega))) allF_nil))) (allC_cons (callCmpI rfl rfl rfl rfl) (allC_cons (callCmpI rfl rfl rfl rfl) (allC_cons (callCmpS rfl rfl rfl rfl) allC_nil))) ?_ hh
        exact ostop_end e0 fun w2 hLow hIn => ⟨(by refine congrArg (fun z => Ending.returned (.int .i64 z)) ?_; first | exact cmpO_1 h0 | exact cmpO_2 h0 h1 | exact cmpO_3 h0 h1 | exact h2.symm.trans (cmpO_3 h0 h1)), hLow⟩   -- returns .int .i64 0
      · refine walk_to (F := F1) (T := C1) (fuel := 1000) (d := 10) mixed (allF_cons (FactOk.bi rfl rfl rfl rfl rfl rfl (nboolF (by omega))) (allF_cons (FactOk.bi rfl rfl rfl rfl rfl rfl (nboolF (by omega))) (allF_cons (FactOk.bi rfl rfl rfl rfl rfl rfl (nboolT (by omega))) allF_nil))) (allC_cons (callCmpI rfl rfl rfl rfl) (allC_cons (callCmpI rfl rfl rfl rfl) (allC_cons (callCmpS rfl rfl rfl rfl) allC_nil))) ?_ hh
        exact ostop_end e1 fun w2 hLow hIn => ⟨(by refine congrArg (fun z => Ending.returned (.int .i64 z)) ?_; first | exact cmpO_1 h0 | exact cmpO_2 h0 h1 | exact cmpO_3 h0 h1 | exact h2.symm.trans (cmpO_3 h0 h1)), hLow⟩   -- returns symv 10
    · refine walk_to (F := F2) (T := C2) (fuel := 1000) (d := 10) mixed (allF_cons (FactOk.bi rfl rfl rfl rfl rfl rfl (nboolF (by omega))) (allF_cons (FactOk.bi rfl rfl rfl rfl rfl rfl (nboolT (by omega))) allF_nil)) (allC_cons (callCmpI rfl rfl rfl rfl) (allC_cons (callCmpI rfl rfl rfl rfl) (allC_cons (callCmpS rfl rfl rfl rfl) allC_nil))) ?_ hh
      exact ostop_end e2 fun w2 hLow hIn => ⟨(by refine congrArg (fun z => Ending.returned (.int .i64 z)) ?_; first | exact cmpO_1 h0 | exact cmpO_2 h0 h1 | exact cmpO_3 h0 h1 | exact h2.symm.trans (cmpO_3 h0 h1)), hLow⟩   -- returns symv 9
  · refine walk_to (F := F3) (T := C3) (fuel := 1000) (d := 10) mixed (allF_cons (FactOk.bi rfl rfl rfl rfl rfl rfl (nboolT (by omega))) allF_nil) (allC_cons (callCmpI rfl rfl rfl rfl) (allC_cons (callCmpI rfl rfl rfl rfl) (allC_cons (callCmpS rfl rfl rfl rfl) allC_nil))) ?_ hh
    exact ostop_end e3 fun w2 hLow hIn => ⟨(by refine congrArg (fun z => Ending.returned (.int .i64 z)) ?_; first | exact cmpO_1 h0 | exact cmpO_2 h0 h1 | exact cmpO_3 h0 h1 | exact h2.symm.trans (cmpO_3 h0 h1)), hLow⟩   -- returns symv 8
end OrdC
end AE
end Go.Proofs.YtheaofepenbcgaaGreatDoor

/- What Orderly computes; the calls that it makes. -/
namespace Go.Proofs.YtheaofepenbcgaaGreatDoor
open Go Go.Proofs Go.RowKit
namespace AE

theorem sortOrd {B : Nat} {M : Mem} {a : Option Addr} {c : Nat} {l : List St} {w : World} (hA : OArr B M elS 4 encS (.slice a l.length c) l) (hw : ∀ i o, M i = some o → w.heap[i]? = some o) (hB : B ≤ w.heap.size) (hn : l.length ≤ 1000000) :
    Calls Tryz.prog 28 #[.slice a l.length c, .func (.func 35) #[] #[]] w fun e' w' => e' = .returned (.tuple #[]) ∧ ∃ M', (OArr B M' elS 4 encS (.slice a l.length c) (sortO l) ∧ Keeps M M' (obl (.slice a l.length c))) ∧ Turns B M M' (obl (.slice a l.length c)) w w' :=
  (sortOwn sortLays (pureRun_run aggSt) (pureRun_run sizeSt) hkS honeS cmpO swoO totO 35 (enters_of Tryz.func35 (by kernel_rfl) rfl) (fun w x y => OrdC.any w x y) hA hw hB (by omega)).mono fun e' w' he => by
    obtain ⟨h1, M', ⟨h2, h3⟩, h4⟩ := he
    exact ⟨h1, M', ⟨oarrLen h2 (sortO_len l), h3⟩, h4⟩

/-- What Orderly asks of a place of the sorted stamps. -/
def okAt (s : List St) (i : Nat) : Prop := ValidP (s.getD i default) ∧ (i = 0 ∨ s.getD (i - 1) default = s.getD i default ∨ (s.getD (i - 1) default).2.2.1 ≠ (s.getD i default).2.2.1 ∨
  ((s.getD (i - 1) default).2.2.2 ≠ (s.getD i default).2.2.2 ∧ (s.getD (i - 1) default).2.1 < (s.getD i default).2.1 ∧ (s.getD (i - 1) default).1 ≤ (s.getD i default).1))
instance (s : List St) (i : Nat) : Decidable (okAt s i) := by unfold okAt; infer_instance
/-- What Orderly computes. -/
def ordB (l : List St) : Bool := decide (∀ i, i < (sortO l).length → okAt (sortO l) i)

theorem ordB_no {l b : List St} {i : Nat} (hb : b = sortO l) (hi : i < b.length) (h : ¬ okAt b i) : false = ordB l := by
  subst hb
  exact (decide_eq_false fun hall => h (hall i hi)).symm
theorem ordB_yes {l b : List St} (hb : b = sortO l) (h : ∀ i, i < b.length → okAt b i) : true = ordB l := by
  subst hb
  exact (decide_eq_true h).symm

end AE
end Go.Proofs.YtheaofepenbcgaaGreatDoor

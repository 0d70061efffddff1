/- AE, calls by contract: a table of calls that leave all memory as it was; evaluation from nothing. -/
import Derived.Below
import Derived.Test.YtheaofepenbcgaaDoorAe21
namespace Go.Proofs.YtheaofepenbcgaaDoor
open Go Go.RowKit
namespace AE

/-- Calls that are not entered: the function, its arguments, its result. -/
class CallTab (P : Program) where
  calls : List (FuncId × List Value × Value)

def findC (f : FuncId) (args : List Value) : List (FuncId × List Value × Value) → Option Value
  | [] => none
  | p :: r => bif Nat.beq f p.1 && eqVL args p.2.1 then some p.2.2 else findC f args r

theorem findC_mem {f : FuncId} {args : List Value} {v : Value} : ∀ {l : List (FuncId × List Value × Value)}, findC f args l = some v → (f, args, v) ∈ l
  | [], h => by cases h
  | p :: r, h => by
    unfold findC at h
    cases he : (Nat.beq f p.1 && eqVL args p.2.1) with
    | true =>
      rw [he, cond_true, Option.some.injEq] at h
      simp only [Bool.and_eq_true] at he
      have h1 := Nat.eq_of_beq_eq_true he.1
      have h2 := eqVL_sound _ _ he.2
      subst h1; subst h2; subst h
      exact List.mem_cons_self
    | false =>
      rw [he, cond_false] at h
      exact List.mem_cons_of_mem _ (findC_mem h)

def overF (P : Program) [CallTab P] (C : ACalls) : ACalls where
  call := fun f args A => match findC f args (CallTab.calls P) with
    | some v => some (v, A)
    | none => C.call f args A
  round := C.round

/-- The evaluator, with the table at every depth. -/
def ocalls (P : Program) [Lib P] [Facts P] [CallTab P] (gl : Tr Nat) (fuel : Nat) : Nat → ACalls
  | 0 => overF P { call := fun _ _ _ => none, round := fun _ _ _ => none }
  | d + 1 => overF P { call := acallBy P gl fuel (ocalls P gl fuel d), round := aroundBy P gl fuel (ocalls P gl fuel d) }

variable [Sig]

def CallFactOk (P : Program) (p : FuncId × List Value × Value) : Prop :=
  plainSL p.2.1 = true ∧ plainS p.2.2 = true ∧ ∀ w, ImmW w → Calls P p.1 ⟨interpL p.2.1⟩ w fun e w' => e = .returned (interp p.2.2) ∧ Below w.heap.size w w'

def CallsOk (P : Program) [CallTab P] : Prop := ∀ p ∈ CallTab.calls P, CallFactOk P p

theorem Step.below {φ : Emb} {A : AS} {w w' : World} (hr : Rel φ A w) (hb : Below w.heap.size w w') : Step φ A w φ A w' where
  rel := ⟨hr.wf, fun b e h => by
      obtain ⟨k, h1, h2, h3⟩ := hr.dom b e h
      exact ⟨k, h1, h2, h3.mono (fun _ _ h => h) (hb.block _ h3.lt)⟩, hr.apart, hr.along, fun i o hi => by
      obtain ⟨h1, h2⟩ := hr.imm i o hi
      exact ⟨by rw [hb.block i (Array.getElem?_eq_some_iff.1 h1).1]; exact h1, h2⟩⟩
  dom := fun _ _ => rfl
  newm := fun b h1 h2 => by omega
  new := fun b e h1 h2 => absurd (hr.lt h2) (by omega)
  n_le := Nat.le_refl _
  low := Nat.le_refl _
  same := fun _ _ _ => rfl
  ro := fun _ _ h _ => h
  keep := fun i hi _ => hb.block i hi
  hsize := hb.size
  os := hb.os
  tape := hb.tape
  output := hb.output

theorem overF_ok {P : Program} [Facts P] [CallTab P] {gl : Tr Nat} {C : ACalls} (hC : CallsOk P) (h : CallOk P gl C) : CallOk P gl (overF P C) := by
  refine ⟨h.facts, fun f args A v A' φ w args' hc hr hg hargs => ?_, h.round⟩
  unfold overF at hc
  simp only at hc
  split at hc
  · rename_i u hu
    cases hc
    obtain ⟨h1, h2, h3⟩ := hC _ (findC_mem hu)
    simp only at h1 h2 h3
    have he : args' = ⟨interpL args⟩ := by
      obtain ⟨l⟩ := args'
      rw [VRel.eq_of_plainSL args l h1 hargs.1.symm (fun i hi => by simpa using hargs.2 i hi)]
    subst he
    refine (h3 w fun i o hi => (hr.imm i o hi).1).mono fun e w' he => ?_
    obtain ⟨rfl, hb⟩ := he
    exact ⟨φ, VRel.of_plainS φ _ h2, Step.below hr hb⟩
  · exact h.call f args A v A' φ w args' hc hr hg hargs

theorem ocalls_ok {P : Program} [Lib P] [Facts P] [CallTab P] {gl : Tr Nat} {fuel : Nat} (hmix : P.follows .mixedOrders = true) (hF : FactsOk P) (hC : CallsOk P) : ∀ d, CallOk P gl (ocalls P gl fuel d)
  | 0 => overF_ok hC ⟨hF, fun f args A v A' φ w args' h => (by cases h), fun b args A v A' φ w args' e k lp r h => (by cases h)⟩
  | d + 1 => overF_ok hC ⟨hF, fun f args A v A' φ w args' h hr hg hargs => acallBy_ok hmix (ocalls_ok hmix hF hC d) h hr hg hargs,
      fun b args A v A' φ w args' e k lp r h hr hg hargs he hk hobj hheap hoth => aroundBy_ok hmix (ocalls_ok hmix hF hC d) h hr hg hargs he hk hobj hheap hoth⟩

def start : AS := { bl := .nil, n := 0, mem := .nil, low := 0 }

/-- What holds of whatever world: nothing is known of it but the memory that is laid down. -/
theorem rel_start {w : World} (hi : ImmW w) : Rel (fun _ => none) start w :=
  ⟨⟨fun _ _ h => (by cases h), fun _ _ h => (by cases h), fun _ _ h => (by cases h), fun _ _ _ _ h => (by cases h)⟩, fun _ _ h => (by cases h), fun _ _ _ _ _ _ h => (by cases h), fun _ _ _ _ _ _ h => (by cases h), fun i o h => ⟨hi i o h, fun _ _ h => by cases h⟩⟩

/-- What a call evaluates to, from nothing. -/
def evalCall (P : Program) [Lib P] [Facts P] [CallTab P] (fuel d : Nat) (f : FuncId) (args : List Value) : Option Value :=
  match acallBy P .nil fuel (ocalls P .nil fuel d) f args start with
  | some (v, _) => bif plainS v && plainSL args then some v else none
  | none => none

theorem evalCall_any {P : Program} [Lib P] [Facts P] [CallTab P] {fuel d : Nat} (hmix : P.follows .mixedOrders = true) (hF : FactsOk P) (hC : CallsOk P) {f : FuncId} {args : List Value} {v : Value} (h : evalCall P fuel d f args = some v) {w : World} (hi : ImmW w) :
    Calls P f ⟨interpL args⟩ w fun e w' => e = .returned (interp v) ∧ Below w.heap.size w w' := by
  unfold evalCall at h
  split at h
  · rename_i u A' hc
    cases hp : (plainS u && plainSL args) with
    | false => rw [hp] at h; cases h
    | true =>
      rw [hp, cond_true, Option.some.injEq] at h
      subst h
      simp only [Bool.and_eq_true] at hp
      refine (acallBy_ok hmix (ocalls_ok hmix hF hC d) hc (rel_start hi) (fun g b hg => by cases hg) (args' := ⟨interpL args⟩) ⟨by simp [interpL_length], fun j hj => ?_⟩).mono fun e w' he => ?_
      · have := VRel.of_plainSL (fun _ => none) args hp.2 j hj
        simpa using this
      · cases e with
        | returned v' =>
          obtain ⟨φ', hv, hs⟩ := he
          rw [VRel.eq_of_plainS u hp.1 hv]
          exact ⟨rfl, hs.os, hs.tape, hs.output, hs.hsize, fun k hk => hs.keep k hk fun b e k h => by cases h⟩
        | panicked ch => exact he.elim
        | outgrown => exact he.elim
  · cases h

/-- No symbol is used. -/
@[reducible] def noSig : Sig := ⟨fun _ => .bool false, fun _ _ => ⟨fun h => (by cases h), fun h => (by cases h)⟩, fun _ => none⟩
@[reducible] def noFacts (P : Program) : Facts P := ⟨[]⟩
@[reducible] def noCalls (P : Program) : CallTab P := ⟨[]⟩

end AE
end Go.Proofs.YtheaofepenbcgaaDoor

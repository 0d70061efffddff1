/- The sanity example of chapter 24, evaluated by the kernel: it returns true in whatever world, and changes nothing that was there. -/
import Derived.KernelRfl
import Derived.Test.YtheaofepenbcgaaDoorProg
import Derived.Test.YtheaofepenbcgaaDoorAeG
namespace Go.Proofs.YtheaofepenbcgaaDoor
open Go Go.Proofs Go.RowKit
namespace AE

theorem lib_same (x : Value) : pureRun Tryd.prog (callFunc 82 #[x]) = some (.value x) := by kernel_rfl
theorem lib_nozero (n : Int) (w : World) : (callFunc 83 #[.int .i64 n]).run Tryd.prog w =
    (do pure (Next.value (← Extern.BytealgMakeNoZero.makeNoZero Tryd.f83.params Tryd.f83.resultTypes #[.int .i64 n])) : Sem Next).run Tryd.prog w := by kernel_rfl

noncomputable def bytesT : TypeId := Tryd.f83.resultTypes.getD 0 0
noncomputable def byteT : TypeId := match Tryd.prog.underlying bytesT with
  | some (.slice e) => e
  | _ => 0

noncomputable instance : Lib Tryd.prog where
  same := [82]
  sameOk := fun f hf x => by
    have : f = 82 := by simpa using hf
    subst this
    exact lib_same x
  nozero := [(83, byteT)]
  nozeroOk := fun p hp => by
    have : p = (83, byteT) := by simpa using hp
    subst this
    exact ⟨Tryd.f83.params, Tryd.f83.resultTypes, bytesT, lib_nozero, by kernel_rfl, by kernel_rfl⟩

set_option maxRecDepth 100000 in
theorem mixed : Tryd.prog.follows .mixedOrders = true := by kernel_rfl

set_option maxRecDepth 100000 in
theorem sanity_runs : @evalCall Tryd.prog _ (noFacts _) (noCalls _) 100000 30 6 [] = some (.bool true) := by kernel_rfl

theorem sanity_any (w : World) : Calls Tryd.prog 6 #[] w fun e w' => e = .returned (.bool true) ∧ Below w.heap.size w w' := by
  letI := noSig
  letI := noFacts Tryd.prog
  letI := noCalls Tryd.prog
  exact evalCall_any mixed (fun p h => by cases h) (fun p h => by cases h) sanity_runs (fun i o h => by cases h)

end AE
end Go.Proofs.YtheaofepenbcgaaDoor

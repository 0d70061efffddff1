/- Parts of the proof, in the order in which they are built: MV0, MV, MVal, MK0, MChk, MSan, MW1, MC, MP0, MPa0, MPw, MPa1, MPi, MPn, MPa2. -/
import Derived.Test.YtblhndlmgibljaaDoorPsCard3
import Derived.Lib.AtoiErrMem
import Derived.Lib.AppendIntMem

/- the walks of isName and of -/
namespace Go.Proofs.YtblhndlmgibljaaDoor
open Go Go.Proofs Go.RowKit
set_option maxRecDepth 100000
namespace AE
namespace NameG
noncomputable def body : Code := (Tryd.f47.body).getD .skip
def N : Nat := 31
noncomputable abbrev at' (N : Nat) (F : List (FOp × Value)) (C : List (FuncId × List Value × Value)) (c : Code) (s : ASt) : Option Stop := evalTo Tryd.prog F C N 1000 10 c s
def s0 : ASt := { sl := slots [(0, symv 0)], ms := [], A := start }
def F0 : List (FOp × Value) := [(.len #[9] 3 (symv 0), symv 1),
    (.bin .gtr 3 (symv 1) (.int .i64 0), .bool true),
    (.bin .leq 3 (symv 1) (.int .i64 32), .bool true),
    (.ix 9 (symv 0) (.int .i64 0), symv 2),
    (.bin .neq 5 (symv 2) (.int .u8 45), .bool false)]
def C0 : List (FuncId × List Value × Value) := []
theorem e0 : endVal Tryd.prog Tryd.f47 (at' 31 F0 C0 body s0) = some (.bool false) := by kernel_rfl
def F1 : List (FOp × Value) := [(.len #[9] 3 (symv 0), symv 1),
    (.bin .gtr 3 (symv 1) (.int .i64 0), .bool true),
    (.bin .leq 3 (symv 1) (.int .i64 32), .bool true),
    (.ix 9 (symv 0) (.int .i64 0), symv 2),
    (.bin .neq 5 (symv 2) (.int .u8 45), .bool true),
    (.bin .sub 3 (symv 1) (.int .i64 1), symv 3),
    (.ix 9 (symv 0) (symv 3), symv 4),
    (.bin .neq 5 (symv 4) (.int .u8 45), .bool false)]
def C1 : List (FuncId × List Value × Value) := []
theorem e1 : endVal Tryd.prog Tryd.f47 (at' 31 F1 C1 body s0) = some (.bool false) := by kernel_rfl
def F2 : List (FOp × Value) := [(.len #[9] 3 (symv 0), symv 1),
    (.bin .gtr 3 (symv 1) (.int .i64 0), .bool true),
    (.bin .leq 3 (symv 1) (.int .i64 32), .bool true),
    (.ix 9 (symv 0) (.int .i64 0), symv 2),
    (.bin .neq 5 (symv 2) (.int .u8 45), .bool true),
    (.bin .sub 3 (symv 1) (.int .i64 1), symv 3),
    (.ix 9 (symv 0) (symv 3), symv 4),
    (.bin .neq 5 (symv 4) (.int .u8 45), .bool true),
    (.bin .lss 3 (symv 5) (.int .i64 0), .bool true)]
def C2 : List (FuncId × List Value × Value) := [(62, [symv 0, .func (.func 63) ⟨[]⟩ ⟨[.agg ⟨[.slice none 7 7, .func (.func 61) ⟨[]⟩ ⟨[]⟩]⟩]⟩], symv 5)]
theorem e2 : endVal Tryd.prog Tryd.f47 (at' 31 F2 C2 body s0) = some (.bool true) := by kernel_rfl
def F3 : List (FOp × Value) := [(.len #[9] 3 (symv 0), symv 1),
    (.bin .gtr 3 (symv 1) (.int .i64 0), .bool true),
    (.bin .leq 3 (symv 1) (.int .i64 32), .bool true),
    (.ix 9 (symv 0) (.int .i64 0), symv 2),
    (.bin .neq 5 (symv 2) (.int .u8 45), .bool true),
    (.bin .sub 3 (symv 1) (.int .i64 1), symv 3),
    (.ix 9 (symv 0) (symv 3), symv 4),
    (.bin .neq 5 (symv 4) (.int .u8 45), .bool true),
    (.bin .lss 3 (symv 5) (.int .i64 0), .bool false)]
def C3 : List (FuncId × List Value × Value) := [(62, [symv 0, .func (.func 63) ⟨[]⟩ ⟨[.agg ⟨[.slice none 7 7, .func (.func 61) ⟨[]⟩ ⟨[]⟩]⟩]⟩], symv 5)]
theorem e3 : endVal Tryd.prog Tryd.f47 (at' 31 F3 C3 body s0) = some (.bool false) := by kernel_rfl
def F4 : List (FOp × Value) := [(.len #[9] 3 (symv 0), symv 1),
    (.bin .gtr 3 (symv 1) (.int .i64 0), .bool true),
    (.bin .leq 3 (symv 1) (.int .i64 32), .bool false)]
def C4 : List (FuncId × List Value × Value) := []
theorem e4 : endVal Tryd.prog Tryd.f47 (at' 31 F4 C4 body s0) = some (.bool false) := by kernel_rfl
def F5 : List (FOp × Value) := [(.len #[9] 3 (symv 0), symv 1),
    (.bin .gtr 3 (symv 1) (.int .i64 0), .bool false)]
def C5 : List (FuncId × List Value × Value) := []
theorem e5 : endVal Tryd.prog Tryd.f47 (at' 31 F5 C5 body s0) = some (.bool false) := by kernel_rfl
@[reducible] noncomputable def vL (s : Bs) : List Value := [strV s, .int .i64 ((s.length : Nat) : Int), .int .u8 (((s.getD 0 0).toNat : Nat) : Int), .int .i64 (((s.length : Nat) : Int) - 1), .int .u8 (((s.getD ((((s.length : Nat) : Int) - 1)).toNat 0).toNat : Nat) : Int), .int .i64 (Lib.idxFunc badP true ⟨s.toArray⟩)]
@[reducible] noncomputable def sg (M : Mem) (s : Bs) : Sig := sgL M (vL s)
set_option maxHeartbeats 4000000 in
theorem any (W : World) (s : Bs)  : Calls Tryd.prog 47 #[strV s] W fun e w' => e = .returned (.bool (decide (nameP s))) ∧ Low W.heap.size W w' := by
  refine @walk_enter (sg (heapOf W) s ) Tryd.prog 47 Tryd.f47 body [symv 0] (slots [(0, symv 0)]) N W _ Tryd.func47 (by kernel_rfl) (by kernel_rfl) (by kernel_rfl) (by kernel_rfl) (immW_sgL W _) fun a hh => ?_
  letI := (sg (heapOf W) s )
  by_cases h0 : 0 < ((s.length : Nat) : Int)
  · by_cases h1 : ((s.length : Nat) : Int) ≤ 32
    · by_cases h2 : (((s.getD 0 0).toNat : Nat) : Int) = 45
      · refine walk_to (F := F0) (T := C0) (fuel := 1000) (d := 10) mixed (aFc (FactOk.strLen rfl rfl underStr rfl rfl) (aFc (FactOk.bi rfl rfl rfl rfl rfl rfl (boolT (by omega))) (aFc (FactOk.bi rfl rfl rfl rfl rfl rfl (boolT (by omega))) (aFc (FactOk.strIx (l := s) (j := 0) (show 0 < s.length by omega) rfl rfl rfl underStr rfl rfl rfl) (aFc (FactOk.bi rfl rfl rfl rfl rfl rfl (nboolF (by omega))) aFn))))) aCn ?_ hh
        exact ostop_end e0 fun w2 hLow hIn => ⟨(by first | (rw [decide_eq_true (show nameP s from ⟨⟨by omega, by omega⟩, by assumption, by assumption, by assumption⟩)]; rfl) | (rw [decide_eq_false (fun h : nameP s => by have h1 := h.1; have h2 := h.2.1; have h3 := h.2.2.1; have h4 := h.2.2.2; first | omega | contradiction)]; rfl)), hLow⟩
      · by_cases h3 : (((s.getD ((((s.length : Nat) : Int) - 1)).toNat 0).toNat : Nat) : Int) = 45
        · refine walk_to (F := F1) (T := C1) (fuel := 1000) (d := 10) mixed (aFc (FactOk.strLen rfl rfl underStr rfl rfl) (aFc (FactOk.bi rfl rfl rfl rfl rfl rfl (boolT (by omega))) (aFc (FactOk.bi rfl rfl rfl rfl rfl rfl (boolT (by omega))) (aFc (FactOk.strIx (l := s) (j := 0) (show 0 < s.length by omega) rfl rfl rfl underStr rfl rfl rfl) (aFc (FactOk.bi rfl rfl rfl rfl rfl rfl (nboolT (by omega))) (aFc (FactOk.bi rfl rfl rfl rfl rfl rfl (intI (by omega) (by omega) (by omega))) (aFc (FactOk.strIx (l := s) (j := ((((s.length : Nat) : Int) - 1)).toNat) (show ((((s.length : Nat) : Int) - 1)).toNat < s.length by omega) rfl rfl rfl underStr rfl (natI (by omega)) rfl) (aFc (FactOk.bi rfl rfl rfl rfl rfl rfl (nboolF (by omega))) aFn)))))))) aCn ?_ hh
          exact ostop_end e1 fun w2 hLow hIn => ⟨(by first | (rw [decide_eq_true (show nameP s from ⟨⟨by omega, by omega⟩, by assumption, by assumption, by assumption⟩)]; rfl) | (rw [decide_eq_false (fun h : nameP s => by have h1 := h.1; have h2 := h.2.1; have h3 := h.2.2.1; have h4 := h.2.2.2; first | omega | contradiction)]; rfl)), hLow⟩
        · by_cases h4 : (Lib.idxFunc badP true ⟨s.toArray⟩) < 0
          · refine walk_to (F := F2) (T := C2) (fuel := 1000) (d := 10) mixed (aFc (FactOk.strLen rfl rfl underStr rfl rfl) (aFc (FactOk.bi rfl rfl rfl rfl rfl rfl (boolT (by omega))) (aFc (FactOk.bi rfl rfl rfl rfl rfl rfl (boolT (by omega))) (aFc (FactOk.strIx (l := s) (j := 0) (show 0 < s.length by omega) rfl rfl rfl underStr rfl rfl rfl) (aFc (FactOk.bi rfl rfl rfl rfl rfl rfl (nboolT (by omega))) (aFc (FactOk.bi rfl rfl rfl rfl rfl rfl (intI (by omega) (by omega) (by omega))) (aFc (FactOk.strIx (l := s) (j := ((((s.length : Nat) : Int) - 1)).toNat) (show ((((s.length : Nat) : Int) - 1)).toNat < s.length by omega) rfl rfl rfl underStr rfl (natI (by omega)) rfl) (aFc (FactOk.bi rfl rfl rfl rfl rfl rfl (nboolT (by omega))) (aFc (FactOk.bi rfl rfl rfl rfl rfl rfl (boolT (by omega))) aFn))))))))) (allC_consR (callIdxF rfl rfl rfl rfl) aCn) ?_ hh
            exact ostop_end e2 fun w2 hLow hIn => ⟨(by first | (rw [decide_eq_true (show nameP s from ⟨⟨by omega, by omega⟩, by assumption, by assumption, by assumption⟩)]; rfl) | (rw [decide_eq_false (fun h : nameP s => by have h1 := h.1; have h2 := h.2.1; have h3 := h.2.2.1; have h4 := h.2.2.2; first | omega | contradiction)]; rfl)), hLow⟩
          · refine walk_to (F := F3) (T := C3) (fuel := 1000) (d := 10) mixed (aFc (FactOk.strLen rfl rfl underStr rfl rfl) (aFc (FactOk.bi rfl rfl rfl rfl rfl rfl (boolT (by omega))) (aFc (FactOk.bi rfl rfl rfl rfl rfl rfl (boolT (by omega))) (aFc (FactOk.strIx (l := s) (j := 0) (show 0 < s.length by omega) rfl rfl rfl underStr rfl rfl rfl) (aFc (FactOk.bi rfl rfl rfl rfl rfl rfl (nboolT (by omega))) (aFc (FactOk.bi rfl rfl rfl rfl rfl rfl (intI (by omega) (by omega) (by omega))) (aFc (FactOk.strIx (l := s) (j := ((((s.length : Nat) : Int) - 1)).toNat) (show ((((s.length : Nat) : Int) - 1)).toNat < s.length by omega) rfl rfl rfl underStr rfl (natI (by omega)) rfl) (aFc (FactOk.bi rfl rfl rfl rfl rfl rfl (nboolT (by omega))) (aFc (FactOk.bi rfl rfl rfl rfl rfl rfl (boolF (by omega))) aFn))))))))) (allC_consR (callIdxF rfl rfl rfl rfl) aCn) ?_ hh
            exact ostop_end e3 fun w2 hLow hIn => ⟨(by first | (rw [decide_eq_true (show nameP s from ⟨⟨by omega, by omega⟩, by assumption, by assumption, by assumption⟩)]; rfl) | (rw [decide_eq_false (fun h : nameP s => by have h1 := h.1; have h2 := h.2.1; have h3 := h.2.2.1; have h4 := h.2.2.2; first | omega | contradiction)]; rfl)), hLow⟩
    · refine walk_to (F := F4) (T := C4) (fuel := 1000) (d := 10) mixed (aFc (FactOk.strLen rfl rfl underStr rfl rfl) (aFc (FactOk.bi rfl rfl rfl rfl rfl rfl (boolT (by omega))) (aFc (FactOk.bi rfl rfl rfl rfl rfl rfl (boolF (by omega))) aFn))) aCn ?_ hh
      exact ostop_end e4 fun w2 hLow hIn => ⟨(by first | (rw [decide_eq_true (show nameP s from ⟨⟨by omega, by omega⟩, by assumption, by assumption, by assumption⟩)]; rfl) | (rw [decide_eq_false (fun h : nameP s => by have h1 := h.1; have h2 := h.2.1; have h3 := h.2.2.1; have h4 := h.2.2.2; first | omega | contradiction)]; rfl)), hLow⟩
  · refine walk_to (F := F5) (T := C5) (fuel := 1000) (d := 10) mixed (aFc (FactOk.strLen rfl rfl underStr rfl rfl) (aFc (FactOk.bi rfl rfl rfl rfl rfl rfl (boolF (by omega))) aFn)) aCn ?_ hh
    exact ostop_end e5 fun w2 hLow hIn => ⟨(by first | (rw [decide_eq_true (show nameP s from ⟨⟨by omega, by omega⟩, by assumption, by assumption, by assumption⟩)]; rfl) | (rw [decide_eq_false (fun h : nameP s => by have h1 := h.1; have h2 := h.2.1; have h3 := h.2.2.1; have h4 := h.2.2.2; first | omega | contradiction)]; rfl)), hLow⟩
end NameG
namespace OfG
noncomputable def body : Code := (Tryd.f33.body).getD .skip
def N : Nat := 31
noncomputable abbrev at' (N : Nat) (F : List (FOp × Value)) (C : List (FuncId × List Value × Value)) (c : Code) (s : ASt) : Option Stop := evalTo Tryd.prog F C N 1000 10 c s
def s0 : ASt := { sl := slots [(0, .agg ⟨[symv 0, symv 1, symv 2, symv 3, symv 4, symv 5, symv 6, symv 7]⟩)], ms := [], A := start }
def F0 : List (FOp × Value) := [(.ld 78 (symv 1000000), .agg ⟨[strV [103, 97, 115], .bool false, .bool false, .bool false, strV [115, 111, 108, 105, 100], .bool true, .bool false, .bool false, strV [102, 97, 108, 108, 105, 110, 103], .bool true, .bool false, .bool true, strV [108, 105, 113, 117, 105, 100], .bool false, .bool true, .bool false]⟩),
    (.bin .eql 4 (.bool false) (symv 1), .bool false),
    (.bin .eql 4 (.bool true) (symv 1), .bool true),
    (.bin .eql 4 (.bool false) (symv 2), .bool false)]
def C0 : List (FuncId × List Value × Value) := []
theorem e0 : endVal Tryd.prog Tryd.f33 (at' 31 F0 C0 body s0) = some (.agg ⟨[strV [], .bool false, .bool false, .bool false]⟩) := by kernel_rfl
def F1 : List (FOp × Value) := [(.ld 78 (symv 1000000), .agg ⟨[strV [103, 97, 115], .bool false, .bool false, .bool false, strV [115, 111, 108, 105, 100], .bool true, .bool false, .bool false, strV [102, 97, 108, 108, 105, 110, 103], .bool true, .bool false, .bool true, strV [108, 105, 113, 117, 105, 100], .bool false, .bool true, .bool false]⟩),
    (.bin .eql 4 (.bool false) (symv 1), .bool false),
    (.bin .eql 4 (.bool true) (symv 1), .bool true),
    (.bin .eql 4 (.bool false) (symv 2), .bool true),
    (.bin .eql 4 (.bool false) (symv 3), .bool false),
    (.bin .eql 4 (.bool true) (symv 3), .bool true)]
def C1 : List (FuncId × List Value × Value) := []
theorem e1 : endVal Tryd.prog Tryd.f33 (at' 31 F1 C1 body s0) = some (.agg ⟨[strV [102, 97, 108, 108, 105, 110, 103], .bool true, .bool false, .bool true]⟩) := by kernel_rfl
def F2 : List (FOp × Value) := [(.ld 78 (symv 1000000), .agg ⟨[strV [103, 97, 115], .bool false, .bool false, .bool false, strV [115, 111, 108, 105, 100], .bool true, .bool false, .bool false, strV [102, 97, 108, 108, 105, 110, 103], .bool true, .bool false, .bool true, strV [108, 105, 113, 117, 105, 100], .bool false, .bool true, .bool false]⟩),
    (.bin .eql 4 (.bool false) (symv 1), .bool false),
    (.bin .eql 4 (.bool true) (symv 1), .bool true),
    (.bin .eql 4 (.bool false) (symv 2), .bool true),
    (.bin .eql 4 (.bool false) (symv 3), .bool true)]
def C2 : List (FuncId × List Value × Value) := []
theorem e2 : endVal Tryd.prog Tryd.f33 (at' 31 F2 C2 body s0) = some (.agg ⟨[strV [115, 111, 108, 105, 100], .bool true, .bool false, .bool false]⟩) := by kernel_rfl
def F3 : List (FOp × Value) := [(.ld 78 (symv 1000000), .agg ⟨[strV [103, 97, 115], .bool false, .bool false, .bool false, strV [115, 111, 108, 105, 100], .bool true, .bool false, .bool false, strV [102, 97, 108, 108, 105, 110, 103], .bool true, .bool false, .bool true, strV [108, 105, 113, 117, 105, 100], .bool false, .bool true, .bool false]⟩),
    (.bin .eql 4 (.bool false) (symv 1), .bool true),
    (.bin .eql 4 (.bool false) (symv 2), .bool false),
    (.bin .eql 4 (.bool true) (symv 1), .bool false),
    (.bin .eql 4 (.bool true) (symv 2), .bool true),
    (.bin .eql 4 (.bool false) (symv 3), .bool false)]
def C3 : List (FuncId × List Value × Value) := []
theorem e3 : endVal Tryd.prog Tryd.f33 (at' 31 F3 C3 body s0) = some (.agg ⟨[strV [], .bool false, .bool false, .bool false]⟩) := by kernel_rfl
def F4 : List (FOp × Value) := [(.ld 78 (symv 1000000), .agg ⟨[strV [103, 97, 115], .bool false, .bool false, .bool false, strV [115, 111, 108, 105, 100], .bool true, .bool false, .bool false, strV [102, 97, 108, 108, 105, 110, 103], .bool true, .bool false, .bool true, strV [108, 105, 113, 117, 105, 100], .bool false, .bool true, .bool false]⟩),
    (.bin .eql 4 (.bool false) (symv 1), .bool true),
    (.bin .eql 4 (.bool false) (symv 2), .bool false),
    (.bin .eql 4 (.bool true) (symv 1), .bool false),
    (.bin .eql 4 (.bool true) (symv 2), .bool true),
    (.bin .eql 4 (.bool false) (symv 3), .bool true)]
def C4 : List (FuncId × List Value × Value) := []
theorem e4 : endVal Tryd.prog Tryd.f33 (at' 31 F4 C4 body s0) = some (.agg ⟨[strV [108, 105, 113, 117, 105, 100], .bool false, .bool true, .bool false]⟩) := by kernel_rfl
def F5 : List (FOp × Value) := [(.ld 78 (symv 1000000), .agg ⟨[strV [103, 97, 115], .bool false, .bool false, .bool false, strV [115, 111, 108, 105, 100], .bool true, .bool false, .bool false, strV [102, 97, 108, 108, 105, 110, 103], .bool true, .bool false, .bool true, strV [108, 105, 113, 117, 105, 100], .bool false, .bool true, .bool false]⟩),
    (.bin .eql 4 (.bool false) (symv 1), .bool true),
    (.bin .eql 4 (.bool false) (symv 2), .bool true),
    (.bin .eql 4 (.bool false) (symv 3), .bool false),
    (.bin .eql 4 (.bool true) (symv 1), .bool false),
    (.bin .eql 4 (.bool true) (symv 2), .bool false)]
def C5 : List (FuncId × List Value × Value) := []
theorem e5 : endVal Tryd.prog Tryd.f33 (at' 31 F5 C5 body s0) = some (.agg ⟨[strV [], .bool false, .bool false, .bool false]⟩) := by kernel_rfl
def F6 : List (FOp × Value) := [(.ld 78 (symv 1000000), .agg ⟨[strV [103, 97, 115], .bool false, .bool false, .bool false, strV [115, 111, 108, 105, 100], .bool true, .bool false, .bool false, strV [102, 97, 108, 108, 105, 110, 103], .bool true, .bool false, .bool true, strV [108, 105, 113, 117, 105, 100], .bool false, .bool true, .bool false]⟩),
    (.bin .eql 4 (.bool false) (symv 1), .bool true),
    (.bin .eql 4 (.bool false) (symv 2), .bool true),
    (.bin .eql 4 (.bool false) (symv 3), .bool true)]
def C6 : List (FuncId × List Value × Value) := []
theorem e6 : endVal Tryd.prog Tryd.f33 (at' 31 F6 C6 body s0) = some (.agg ⟨[strV [103, 97, 115], .bool false, .bool false, .bool false]⟩) := by kernel_rfl
@[reducible] noncomputable def vL (x : Mt) : List Value := [strV x.1, .bool x.2.1, .bool x.2.2.1, .bool x.2.2.2.1, .int .i64 x.2.2.2.2.1, .int .i64 x.2.2.2.2.2.1, .int .i64 x.2.2.2.2.2.2.1, .int .i64 x.2.2.2.2.2.2.2]
@[reducible] noncomputable def sg (M : Mem) (x : Mt) : Sig := sgL M (vL x)
set_option maxHeartbeats 4000000 in
theorem any (W : World) (x : Mt) (hK : KindsM (heapOf W)) : Calls Tryd.prog 33 #[M.val x] W fun e w' => e = .returned (K.val (kindM x)) ∧ Low W.heap.size W w' := by
  refine @walk_enter (sg (heapOf W) x ) Tryd.prog 33 Tryd.f33 body [.agg ⟨[symv 0, symv 1, symv 2, symv 3, symv 4, symv 5, symv 6, symv 7]⟩] (slots [(0, .agg ⟨[symv 0, symv 1, symv 2, symv 3, symv 4, symv 5, symv 6, symv 7]⟩)]) N W _ Tryd.func33 (by kernel_rfl) (by kernel_rfl) (by kernel_rfl) (by kernel_rfl) (immW_sgL W _) fun a hh => ?_
  letI := (sg (heapOf W) x )
  by_cases h0 : x.2.1 = true
  · by_cases h1 : x.2.2.1 = true
    · refine walk_to (F := F0) (T := C0) (fuel := 1000) (d := 10) mixed (aFc (ldG hK (o := 0) (n := 16) rfl rfl (by kernel_rfl) (by kernel_rfl) rfl rfl rfl rfl) (aFc (boolEqFT rfl rfl rfl rfl (by decide) h0) (aFc (boolEqTT rfl rfl rfl rfl rfl h0) (aFc (boolEqFT rfl rfl rfl rfl (by decide) h1) aFn)))) aCn ?_ hh
      exact ostop_end e0 fun w2 hLow hIn => ⟨(by first | (rw [kindM_gas (by assumption) (by assumption) (by assumption)]; rfl) | (rw [kindM_sol (by assumption) (by assumption) (by assumption)]; rfl) | (rw [kindM_fal (by assumption) (by assumption) (by assumption)]; rfl) | (rw [kindM_liq (by assumption) (by assumption) (by assumption)]; rfl) | (rw [kindM_no1 (by assumption) (by assumption)]; rfl) | (rw [kindM_no2 (by assumption) (by assumption)]; rfl)), hLow⟩
    · by_cases h2 : x.2.2.2.1 = true
      · refine walk_to (F := F1) (T := C1) (fuel := 1000) (d := 10) mixed (aFc (ldG hK (o := 0) (n := 16) rfl rfl (by kernel_rfl) (by kernel_rfl) rfl rfl rfl rfl) (aFc (boolEqFT rfl rfl rfl rfl (by decide) h0) (aFc (boolEqTT rfl rfl rfl rfl rfl h0) (aFc (boolEqFF rfl rfl rfl rfl (by decide) h1) (aFc (boolEqFT rfl rfl rfl rfl (by decide) h2) (aFc (boolEqTT rfl rfl rfl rfl rfl h2) aFn)))))) aCn ?_ hh
        exact ostop_end e1 fun w2 hLow hIn => ⟨(by first | (rw [kindM_gas (by assumption) (by assumption) (by assumption)]; rfl) | (rw [kindM_sol (by assumption) (by assumption) (by assumption)]; rfl) | (rw [kindM_fal (by assumption) (by assumption) (by assumption)]; rfl) | (rw [kindM_liq (by assumption) (by assumption) (by assumption)]; rfl) | (rw [kindM_no1 (by assumption) (by assumption)]; rfl) | (rw [kindM_no2 (by assumption) (by assumption)]; rfl)), hLow⟩
      · refine walk_to (F := F2) (T := C2) (fuel := 1000) (d := 10) mixed (aFc (ldG hK (o := 0) (n := 16) rfl rfl (by kernel_rfl) (by kernel_rfl) rfl rfl rfl rfl) (aFc (boolEqFT rfl rfl rfl rfl (by decide) h0) (aFc (boolEqTT rfl rfl rfl rfl rfl h0) (aFc (boolEqFF rfl rfl rfl rfl (by decide) h1) (aFc (boolEqFF rfl rfl rfl rfl (by decide) h2) aFn))))) aCn ?_ hh
        exact ostop_end e2 fun w2 hLow hIn => ⟨(by first | (rw [kindM_gas (by assumption) (by assumption) (by assumption)]; rfl) | (rw [kindM_sol (by assumption) (by assumption) (by assumption)]; rfl) | (rw [kindM_fal (by assumption) (by assumption) (by assumption)]; rfl) | (rw [kindM_liq (by assumption) (by assumption) (by assumption)]; rfl) | (rw [kindM_no1 (by assumption) (by assumption)]; rfl) | (rw [kindM_no2 (by assumption) (by assumption)]; rfl)), hLow⟩
  · by_cases h1 : x.2.2.1 = true
    · by_cases h2 : x.2.2.2.1 = true
      · refine walk_to (F := F3) (T := C3) (fuel := 1000) (d := 10) mixed (aFc (ldG hK (o := 0) (n := 16) rfl rfl (by kernel_rfl) (by kernel_rfl) rfl rfl rfl rfl) (aFc (boolEqFF rfl rfl rfl rfl (by decide) h0) (aFc (boolEqFT rfl rfl rfl rfl (by decide) h1) (aFc (boolEqTF rfl rfl rfl rfl rfl h0) (aFc (boolEqTT rfl rfl rfl rfl rfl h1) (aFc (boolEqFT rfl rfl rfl rfl (by decide) h2) aFn)))))) aCn ?_ hh
        exact ostop_end e3 fun w2 hLow hIn => ⟨(by first | (rw [kindM_gas (by assumption) (by assumption) (by assumption)]; rfl) | (rw [kindM_sol (by assumption) (by assumption) (by assumption)]; rfl) | (rw [kindM_fal (by assumption) (by assumption) (by assumption)]; rfl) | (rw [kindM_liq (by assumption) (by assumption) (by assumption)]; rfl) | (rw [kindM_no1 (by assumption) (by assumption)]; rfl) | (rw [kindM_no2 (by assumption) (by assumption)]; rfl)), hLow⟩
      · refine walk_to (F := F4) (T := C4) (fuel := 1000) (d := 10) mixed (aFc (ldG hK (o := 0) (n := 16) rfl rfl (by kernel_rfl) (by kernel_rfl) rfl rfl rfl rfl) (aFc (boolEqFF rfl rfl rfl rfl (by decide) h0) (aFc (boolEqFT rfl rfl rfl rfl (by decide) h1) (aFc (boolEqTF rfl rfl rfl rfl rfl h0) (aFc (boolEqTT rfl rfl rfl rfl rfl h1) (aFc (boolEqFF rfl rfl rfl rfl (by decide) h2) aFn)))))) aCn ?_ hh
        exact ostop_end e4 fun w2 hLow hIn => ⟨(by first | (rw [kindM_gas (by assumption) (by assumption) (by assumption)]; rfl) | (rw [kindM_sol (by assumption) (by assumption) (by assumption)]; rfl) | (rw [kindM_fal (by assumption) (by assumption) (by assumption)]; rfl) | (rw [kindM_liq (by assumption) (by assumption) (by assumption)]; rfl) | (rw [kindM_no1 (by assumption) (by assumption)]; rfl) | (rw [kindM_no2 (by assumption) (by assumption)]; rfl)), hLow⟩
    · by_cases h2 : x.2.2.2.1 = true
      · refine walk_to (F := F5) (T := C5) (fuel := 1000) (d := 10) mixed (aFc (ldG hK (o := 0) (n := 16) rfl rfl (by kernel_rfl) (by kernel_rfl) rfl rfl rfl rfl) (aFc (boolEqFF rfl rfl rfl rfl (by decide) h0) (aFc (boolEqFF rfl rfl rfl rfl (by decide) h1) (aFc (boolEqFT rfl rfl rfl rfl (by decide) h2) (aFc (boolEqTF rfl rfl rfl rfl rfl h0) (aFc (boolEqTF rfl rfl rfl rfl rfl h1) aFn)))))) aCn ?_ hh
        exact ostop_end e5 fun w2 hLow hIn => ⟨(by first | (rw [kindM_gas (by assumption) (by assumption) (by assumption)]; rfl) | (rw [kindM_sol (by assumption) (by assumption) (by assumption)]; rfl) | (rw [kindM_fal (by assumption) (by assumption) (by assumption)]; rfl) | (rw [kindM_liq (by assumption) (by assumption) (by assumption)]; rfl) | (rw [kindM_no1 (by assumption) (by assumption)]; rfl) | (rw [kindM_no2 (by assumption) (by assumption)]; rfl)), hLow⟩
      · refine walk_to (F := F6) (T := C6) (fuel := 1000) (d := 10) mixed (aFc (ldG hK (o := 0) (n := 16) rfl rfl (by kernel_rfl) (by kernel_rfl) rfl rfl rfl rfl) (aFc (boolEqFF rfl rfl rfl rfl (by decide) h0) (aFc (boolEqFF rfl rfl rfl rfl (by decide) h1) (aFc (boolEqFF rfl rfl rfl rfl (by decide) h2) aFn)))) aCn ?_ hh
        exact ostop_end e6 fun w2 hLow hIn => ⟨(by first | (rw [kindM_gas (by assumption) (by assumption) (by assumption)]; rfl) | (rw [kindM_sol (by assumption) (by assumption) (by assumption)]; rfl) | (rw [kindM_fal (by assumption) (by assumption) (by assumption)]; rfl) | (rw [kindM_liq (by assumption) (by assumption) (by assumption)]; rfl) | (rw [kindM_no1 (by assumption) (by assumption)]; rfl) | (rw [kindM_no2 (by assumption) (by assumption)]; rfl)), hLow⟩
end OfG
end AE
end Go.Proofs.YtblhndlmgibljaaDoor

/- What isName and of answer, as facts. -/
namespace Go.Proofs.YtblhndlmgibljaaDoor
open Go Go.Proofs Go.RowKit
namespace AE
variable [Sig]
theorem callNameT {x : Value} {s : Bs} (hp : plainSL [x] = true) (ev : interpL [x] = [strV s]) (h : nameP s) : CallFactOk Tryd.prog (47, [x], .bool true) :=
  callAny (a := #[strV s]) hp rfl ev rfl fun w _ => (NameG.any w s).mono fun e w' h' => by rw [decide_eq_true h] at h'; exact h'
theorem callNameF {x : Value} {s : Bs} (hp : plainSL [x] = true) (ev : interpL [x] = [strV s]) (h : ¬ nameP s) : CallFactOk Tryd.prog (47, [x], .bool false) :=
  callAny (a := #[strV s]) hp rfl ev rfl fun w _ => (NameG.any w s).mono fun e w' h' => by rw [decide_eq_false h] at h'; exact h'
theorem callOf {x r : Value} {m : Mt} (hp : plainSL [x] = true) (hr : plainS r = true) (ev : interpL [x] = [M.val m]) (er : interp r = K.val (kindM m)) (hK : KindsM Sig.imm) : CallFactOk Tryd.prog (33, [x], r) :=
  callAny (a := #[M.val m]) hp hr ev er fun w hw => OfG.any w m (hK.mono hw)
end AE
end Go.Proofs.YtblhndlmgibljaaDoor

/- the walk of isMaterial -/
namespace Go.Proofs.YtblhndlmgibljaaDoor
open Go Go.Proofs Go.RowKit
set_option maxRecDepth 100000
namespace AE
namespace ValMG
noncomputable def body : Code := (Tryd.f29.body).getD .skip
def N : Nat := 30
noncomputable abbrev at' (N : Nat) (F : List (FOp × Value)) (C : List (FuncId × List Value × Value)) (c : Code) (s : ASt) : Option Stop := evalTo Tryd.prog F C N 1000 10 c s
def s0 : ASt := { sl := slots [(0, .agg ⟨[symv 0, symv 1, symv 2, symv 3, symv 4, symv 5, symv 6, symv 7]⟩)], ms := [], A := start }
def F0 : List (FOp × Value) := [(.bin .lss 3 (symv 5) (.int .i64 0), .bool true),
    (.bin .neq 9 (symv 8) (strV []), .bool false)]
def C0 : List (FuncId × List Value × Value) := [(47, [symv 0], .bool true),
    (33, [.agg ⟨[symv 0, symv 1, symv 2, symv 3, symv 4, symv 5, symv 6, symv 7]⟩], .agg ⟨[symv 8, symv 9, symv 10, symv 11]⟩)]
theorem e0 : endVal Tryd.prog Tryd.f29 (at' 30 F0 C0 body s0) = some (.bool false) := by kernel_rfl
def F1 : List (FOp × Value) := [(.bin .lss 3 (symv 5) (.int .i64 0), .bool true),
    (.bin .neq 9 (symv 8) (strV []), .bool true),
    (.bin .geq 3 (symv 4) (.int .i64 1), .bool true),
    (.bin .leq 3 (symv 4) (.int .i64 16), .bool true)]
def C1 : List (FuncId × List Value × Value) := [(47, [symv 0], .bool true),
    (33, [.agg ⟨[symv 0, symv 1, symv 2, symv 3, symv 4, symv 5, symv 6, symv 7]⟩], .agg ⟨[symv 8, symv 9, symv 10, symv 11]⟩)]
theorem e1 : endVal Tryd.prog Tryd.f29 (at' 30 F1 C1 body s0) = some (.bool false) := by kernel_rfl
def F2 : List (FOp × Value) := [(.bin .lss 3 (symv 5) (.int .i64 0), .bool true),
    (.bin .neq 9 (symv 8) (strV []), .bool true),
    (.bin .geq 3 (symv 4) (.int .i64 1), .bool true),
    (.bin .leq 3 (symv 4) (.int .i64 16), .bool false)]
def C2 : List (FuncId × List Value × Value) := [(47, [symv 0], .bool true),
    (33, [.agg ⟨[symv 0, symv 1, symv 2, symv 3, symv 4, symv 5, symv 6, symv 7]⟩], .agg ⟨[symv 8, symv 9, symv 10, symv 11]⟩)]
theorem e2 : endVal Tryd.prog Tryd.f29 (at' 30 F2 C2 body s0) = some (.bool false) := by kernel_rfl
def F3 : List (FOp × Value) := [(.bin .lss 3 (symv 5) (.int .i64 0), .bool true),
    (.bin .neq 9 (symv 8) (strV []), .bool true),
    (.bin .geq 3 (symv 4) (.int .i64 1), .bool false)]
def C3 : List (FuncId × List Value × Value) := [(47, [symv 0], .bool true),
    (33, [.agg ⟨[symv 0, symv 1, symv 2, symv 3, symv 4, symv 5, symv 6, symv 7]⟩], .agg ⟨[symv 8, symv 9, symv 10, symv 11]⟩)]
theorem e3 : endVal Tryd.prog Tryd.f29 (at' 30 F3 C3 body s0) = some (.bool false) := by kernel_rfl
def F4 : List (FOp × Value) := [(.bin .lss 3 (symv 5) (.int .i64 0), .bool true)]
def C4 : List (FuncId × List Value × Value) := [(47, [symv 0], .bool false)]
theorem e4 : endVal Tryd.prog Tryd.f29 (at' 30 F4 C4 body s0) = some (.bool false) := by kernel_rfl
def F5 : List (FOp × Value) := [(.bin .lss 3 (symv 5) (.int .i64 0), .bool false),
    (.bin .gtr 3 (symv 5) (.int .i64 15), .bool true),
    (.bin .neq 9 (symv 8) (strV []), .bool false)]
def C5 : List (FuncId × List Value × Value) := [(47, [symv 0], .bool true),
    (33, [.agg ⟨[symv 0, symv 1, symv 2, symv 3, symv 4, symv 5, symv 6, symv 7]⟩], .agg ⟨[symv 8, symv 9, symv 10, symv 11]⟩)]
theorem e5 : endVal Tryd.prog Tryd.f29 (at' 30 F5 C5 body s0) = some (.bool false) := by kernel_rfl
def F6 : List (FOp × Value) := [(.bin .lss 3 (symv 5) (.int .i64 0), .bool false),
    (.bin .gtr 3 (symv 5) (.int .i64 15), .bool true),
    (.bin .neq 9 (symv 8) (strV []), .bool true),
    (.bin .geq 3 (symv 4) (.int .i64 1), .bool true),
    (.bin .leq 3 (symv 4) (.int .i64 16), .bool true)]
def C6 : List (FuncId × List Value × Value) := [(47, [symv 0], .bool true),
    (33, [.agg ⟨[symv 0, symv 1, symv 2, symv 3, symv 4, symv 5, symv 6, symv 7]⟩], .agg ⟨[symv 8, symv 9, symv 10, symv 11]⟩)]
theorem e6 : endVal Tryd.prog Tryd.f29 (at' 30 F6 C6 body s0) = some (.bool false) := by kernel_rfl
def F7 : List (FOp × Value) := [(.bin .lss 3 (symv 5) (.int .i64 0), .bool false),
    (.bin .gtr 3 (symv 5) (.int .i64 15), .bool true),
    (.bin .neq 9 (symv 8) (strV []), .bool true),
    (.bin .geq 3 (symv 4) (.int .i64 1), .bool true),
    (.bin .leq 3 (symv 4) (.int .i64 16), .bool false)]
def C7 : List (FuncId × List Value × Value) := [(47, [symv 0], .bool true),
    (33, [.agg ⟨[symv 0, symv 1, symv 2, symv 3, symv 4, symv 5, symv 6, symv 7]⟩], .agg ⟨[symv 8, symv 9, symv 10, symv 11]⟩)]
theorem e7 : endVal Tryd.prog Tryd.f29 (at' 30 F7 C7 body s0) = some (.bool false) := by kernel_rfl
def F8 : List (FOp × Value) := [(.bin .lss 3 (symv 5) (.int .i64 0), .bool false),
    (.bin .gtr 3 (symv 5) (.int .i64 15), .bool true),
    (.bin .neq 9 (symv 8) (strV []), .bool true),
    (.bin .geq 3 (symv 4) (.int .i64 1), .bool false)]
def C8 : List (FuncId × List Value × Value) := [(47, [symv 0], .bool true),
    (33, [.agg ⟨[symv 0, symv 1, symv 2, symv 3, symv 4, symv 5, symv 6, symv 7]⟩], .agg ⟨[symv 8, symv 9, symv 10, symv 11]⟩)]
theorem e8 : endVal Tryd.prog Tryd.f29 (at' 30 F8 C8 body s0) = some (.bool false) := by kernel_rfl
def F9 : List (FOp × Value) := [(.bin .lss 3 (symv 5) (.int .i64 0), .bool false),
    (.bin .gtr 3 (symv 5) (.int .i64 15), .bool true)]
def C9 : List (FuncId × List Value × Value) := [(47, [symv 0], .bool false)]
theorem e9 : endVal Tryd.prog Tryd.f29 (at' 30 F9 C9 body s0) = some (.bool false) := by kernel_rfl
def F10 : List (FOp × Value) := [(.bin .lss 3 (symv 5) (.int .i64 0), .bool false),
    (.bin .gtr 3 (symv 5) (.int .i64 15), .bool false),
    (.bin .lss 3 (symv 6) (.int .i64 0), .bool true),
    (.bin .neq 9 (symv 8) (strV []), .bool false)]
def C10 : List (FuncId × List Value × Value) := [(47, [symv 0], .bool true),
    (33, [.agg ⟨[symv 0, symv 1, symv 2, symv 3, symv 4, symv 5, symv 6, symv 7]⟩], .agg ⟨[symv 8, symv 9, symv 10, symv 11]⟩)]
theorem e10 : endVal Tryd.prog Tryd.f29 (at' 30 F10 C10 body s0) = some (.bool false) := by kernel_rfl
def F11 : List (FOp × Value) := [(.bin .lss 3 (symv 5) (.int .i64 0), .bool false),
    (.bin .gtr 3 (symv 5) (.int .i64 15), .bool false),
    (.bin .lss 3 (symv 6) (.int .i64 0), .bool true),
    (.bin .neq 9 (symv 8) (strV []), .bool true),
    (.bin .geq 3 (symv 4) (.int .i64 1), .bool true),
    (.bin .leq 3 (symv 4) (.int .i64 16), .bool true)]
def C11 : List (FuncId × List Value × Value) := [(47, [symv 0], .bool true),
    (33, [.agg ⟨[symv 0, symv 1, symv 2, symv 3, symv 4, symv 5, symv 6, symv 7]⟩], .agg ⟨[symv 8, symv 9, symv 10, symv 11]⟩)]
theorem e11 : endVal Tryd.prog Tryd.f29 (at' 30 F11 C11 body s0) = some (.bool false) := by kernel_rfl
def F12 : List (FOp × Value) := [(.bin .lss 3 (symv 5) (.int .i64 0), .bool false),
    (.bin .gtr 3 (symv 5) (.int .i64 15), .bool false),
    (.bin .lss 3 (symv 6) (.int .i64 0), .bool true),
    (.bin .neq 9 (symv 8) (strV []), .bool true),
    (.bin .geq 3 (symv 4) (.int .i64 1), .bool true),
    (.bin .leq 3 (symv 4) (.int .i64 16), .bool false)]
def C12 : List (FuncId × List Value × Value) := [(47, [symv 0], .bool true),
    (33, [.agg ⟨[symv 0, symv 1, symv 2, symv 3, symv 4, symv 5, symv 6, symv 7]⟩], .agg ⟨[symv 8, symv 9, symv 10, symv 11]⟩)]
theorem e12 : endVal Tryd.prog Tryd.f29 (at' 30 F12 C12 body s0) = some (.bool false) := by kernel_rfl
def F13 : List (FOp × Value) := [(.bin .lss 3 (symv 5) (.int .i64 0), .bool false),
    (.bin .gtr 3 (symv 5) (.int .i64 15), .bool false),
    (.bin .lss 3 (symv 6) (.int .i64 0), .bool true),
    (.bin .neq 9 (symv 8) (strV []), .bool true),
    (.bin .geq 3 (symv 4) (.int .i64 1), .bool false)]
def C13 : List (FuncId × List Value × Value) := [(47, [symv 0], .bool true),
    (33, [.agg ⟨[symv 0, symv 1, symv 2, symv 3, symv 4, symv 5, symv 6, symv 7]⟩], .agg ⟨[symv 8, symv 9, symv 10, symv 11]⟩)]
theorem e13 : endVal Tryd.prog Tryd.f29 (at' 30 F13 C13 body s0) = some (.bool false) := by kernel_rfl
def F14 : List (FOp × Value) := [(.bin .lss 3 (symv 5) (.int .i64 0), .bool false),
    (.bin .gtr 3 (symv 5) (.int .i64 15), .bool false),
    (.bin .lss 3 (symv 6) (.int .i64 0), .bool true)]
def C14 : List (FuncId × List Value × Value) := [(47, [symv 0], .bool false)]
theorem e14 : endVal Tryd.prog Tryd.f29 (at' 30 F14 C14 body s0) = some (.bool false) := by kernel_rfl
def F15 : List (FOp × Value) := [(.bin .lss 3 (symv 5) (.int .i64 0), .bool false),
    (.bin .gtr 3 (symv 5) (.int .i64 15), .bool false),
    (.bin .lss 3 (symv 6) (.int .i64 0), .bool false),
    (.bin .gtr 3 (symv 6) (.int .i64 15), .bool true),
    (.bin .neq 9 (symv 8) (strV []), .bool false)]
def C15 : List (FuncId × List Value × Value) := [(47, [symv 0], .bool true),
    (33, [.agg ⟨[symv 0, symv 1, symv 2, symv 3, symv 4, symv 5, symv 6, symv 7]⟩], .agg ⟨[symv 8, symv 9, symv 10, symv 11]⟩)]
theorem e15 : endVal Tryd.prog Tryd.f29 (at' 30 F15 C15 body s0) = some (.bool false) := by kernel_rfl
def F16 : List (FOp × Value) := [(.bin .lss 3 (symv 5) (.int .i64 0), .bool false),
    (.bin .gtr 3 (symv 5) (.int .i64 15), .bool false),
    (.bin .lss 3 (symv 6) (.int .i64 0), .bool false),
    (.bin .gtr 3 (symv 6) (.int .i64 15), .bool true),
    (.bin .neq 9 (symv 8) (strV []), .bool true),
    (.bin .geq 3 (symv 4) (.int .i64 1), .bool true),
    (.bin .leq 3 (symv 4) (.int .i64 16), .bool true)]
def C16 : List (FuncId × List Value × Value) := [(47, [symv 0], .bool true),
    (33, [.agg ⟨[symv 0, symv 1, symv 2, symv 3, symv 4, symv 5, symv 6, symv 7]⟩], .agg ⟨[symv 8, symv 9, symv 10, symv 11]⟩)]
theorem e16 : endVal Tryd.prog Tryd.f29 (at' 30 F16 C16 body s0) = some (.bool false) := by kernel_rfl
def F17 : List (FOp × Value) := [(.bin .lss 3 (symv 5) (.int .i64 0), .bool false),
    (.bin .gtr 3 (symv 5) (.int .i64 15), .bool false),
    (.bin .lss 3 (symv 6) (.int .i64 0), .bool false),
    (.bin .gtr 3 (symv 6) (.int .i64 15), .bool true),
    (.bin .neq 9 (symv 8) (strV []), .bool true),
    (.bin .geq 3 (symv 4) (.int .i64 1), .bool true),
    (.bin .leq 3 (symv 4) (.int .i64 16), .bool false)]
def C17 : List (FuncId × List Value × Value) := [(47, [symv 0], .bool true),
    (33, [.agg ⟨[symv 0, symv 1, symv 2, symv 3, symv 4, symv 5, symv 6, symv 7]⟩], .agg ⟨[symv 8, symv 9, symv 10, symv 11]⟩)]
theorem e17 : endVal Tryd.prog Tryd.f29 (at' 30 F17 C17 body s0) = some (.bool false) := by kernel_rfl
def F18 : List (FOp × Value) := [(.bin .lss 3 (symv 5) (.int .i64 0), .bool false),
    (.bin .gtr 3 (symv 5) (.int .i64 15), .bool false),
    (.bin .lss 3 (symv 6) (.int .i64 0), .bool false),
    (.bin .gtr 3 (symv 6) (.int .i64 15), .bool true),
    (.bin .neq 9 (symv 8) (strV []), .bool true),
    (.bin .geq 3 (symv 4) (.int .i64 1), .bool false)]
def C18 : List (FuncId × List Value × Value) := [(47, [symv 0], .bool true),
    (33, [.agg ⟨[symv 0, symv 1, symv 2, symv 3, symv 4, symv 5, symv 6, symv 7]⟩], .agg ⟨[symv 8, symv 9, symv 10, symv 11]⟩)]
theorem e18 : endVal Tryd.prog Tryd.f29 (at' 30 F18 C18 body s0) = some (.bool false) := by kernel_rfl
def F19 : List (FOp × Value) := [(.bin .lss 3 (symv 5) (.int .i64 0), .bool false),
    (.bin .gtr 3 (symv 5) (.int .i64 15), .bool false),
    (.bin .lss 3 (symv 6) (.int .i64 0), .bool false),
    (.bin .gtr 3 (symv 6) (.int .i64 15), .bool true)]
def C19 : List (FuncId × List Value × Value) := [(47, [symv 0], .bool false)]
theorem e19 : endVal Tryd.prog Tryd.f29 (at' 30 F19 C19 body s0) = some (.bool false) := by kernel_rfl
def F20 : List (FOp × Value) := [(.bin .lss 3 (symv 5) (.int .i64 0), .bool false),
    (.bin .gtr 3 (symv 5) (.int .i64 15), .bool false),
    (.bin .lss 3 (symv 6) (.int .i64 0), .bool false),
    (.bin .gtr 3 (symv 6) (.int .i64 15), .bool false),
    (.bin .lss 3 (symv 7) (.int .i64 0), .bool true),
    (.bin .neq 9 (symv 8) (strV []), .bool false)]
def C20 : List (FuncId × List Value × Value) := [(47, [symv 0], .bool true),
    (33, [.agg ⟨[symv 0, symv 1, symv 2, symv 3, symv 4, symv 5, symv 6, symv 7]⟩], .agg ⟨[symv 8, symv 9, symv 10, symv 11]⟩)]
theorem e20 : endVal Tryd.prog Tryd.f29 (at' 30 F20 C20 body s0) = some (.bool false) := by kernel_rfl
def F21 : List (FOp × Value) := [(.bin .lss 3 (symv 5) (.int .i64 0), .bool false),
    (.bin .gtr 3 (symv 5) (.int .i64 15), .bool false),
    (.bin .lss 3 (symv 6) (.int .i64 0), .bool false),
    (.bin .gtr 3 (symv 6) (.int .i64 15), .bool false),
    (.bin .lss 3 (symv 7) (.int .i64 0), .bool true),
    (.bin .neq 9 (symv 8) (strV []), .bool true),
    (.bin .geq 3 (symv 4) (.int .i64 1), .bool true),
    (.bin .leq 3 (symv 4) (.int .i64 16), .bool true)]
def C21 : List (FuncId × List Value × Value) := [(47, [symv 0], .bool true),
    (33, [.agg ⟨[symv 0, symv 1, symv 2, symv 3, symv 4, symv 5, symv 6, symv 7]⟩], .agg ⟨[symv 8, symv 9, symv 10, symv 11]⟩)]
theorem e21 : endVal Tryd.prog Tryd.f29 (at' 30 F21 C21 body s0) = some (.bool false) := by kernel_rfl
def F22 : List (FOp × Value) := [(.bin .lss 3 (symv 5) (.int .i64 0), .bool false),
    (.bin .gtr 3 (symv 5) (.int .i64 15), .bool false),
    (.bin .lss 3 (symv 6) (.int .i64 0), .bool false),
    (.bin .gtr 3 (symv 6) (.int .i64 15), .bool false),
    (.bin .lss 3 (symv 7) (.int .i64 0), .bool true),
    (.bin .neq 9 (symv 8) (strV []), .bool true),
    (.bin .geq 3 (symv 4) (.int .i64 1), .bool true),
    (.bin .leq 3 (symv 4) (.int .i64 16), .bool false)]
def C22 : List (FuncId × List Value × Value) := [(47, [symv 0], .bool true),
    (33, [.agg ⟨[symv 0, symv 1, symv 2, symv 3, symv 4, symv 5, symv 6, symv 7]⟩], .agg ⟨[symv 8, symv 9, symv 10, symv 11]⟩)]
theorem e22 : endVal Tryd.prog Tryd.f29 (at' 30 F22 C22 body s0) = some (.bool false) := by kernel_rfl
def F23 : List (FOp × Value) := [(.bin .lss 3 (symv 5) (.int .i64 0), .bool false),
    (.bin .gtr 3 (symv 5) (.int .i64 15), .bool false),
    (.bin .lss 3 (symv 6) (.int .i64 0), .bool false),
    (.bin .gtr 3 (symv 6) (.int .i64 15), .bool false),
    (.bin .lss 3 (symv 7) (.int .i64 0), .bool true),
    (.bin .neq 9 (symv 8) (strV []), .bool true),
    (.bin .geq 3 (symv 4) (.int .i64 1), .bool false)]
def C23 : List (FuncId × List Value × Value) := [(47, [symv 0], .bool true),
    (33, [.agg ⟨[symv 0, symv 1, symv 2, symv 3, symv 4, symv 5, symv 6, symv 7]⟩], .agg ⟨[symv 8, symv 9, symv 10, symv 11]⟩)]
theorem e23 : endVal Tryd.prog Tryd.f29 (at' 30 F23 C23 body s0) = some (.bool false) := by kernel_rfl
def F24 : List (FOp × Value) := [(.bin .lss 3 (symv 5) (.int .i64 0), .bool false),
    (.bin .gtr 3 (symv 5) (.int .i64 15), .bool false),
    (.bin .lss 3 (symv 6) (.int .i64 0), .bool false),
    (.bin .gtr 3 (symv 6) (.int .i64 15), .bool false),
    (.bin .lss 3 (symv 7) (.int .i64 0), .bool true)]
def C24 : List (FuncId × List Value × Value) := [(47, [symv 0], .bool false)]
theorem e24 : endVal Tryd.prog Tryd.f29 (at' 30 F24 C24 body s0) = some (.bool false) := by kernel_rfl
def F25 : List (FOp × Value) := [(.bin .lss 3 (symv 5) (.int .i64 0), .bool false),
    (.bin .gtr 3 (symv 5) (.int .i64 15), .bool false),
    (.bin .lss 3 (symv 6) (.int .i64 0), .bool false),
    (.bin .gtr 3 (symv 6) (.int .i64 15), .bool false),
    (.bin .lss 3 (symv 7) (.int .i64 0), .bool false),
    (.bin .gtr 3 (symv 7) (.int .i64 15), .bool true),
    (.bin .neq 9 (symv 8) (strV []), .bool false)]
def C25 : List (FuncId × List Value × Value) := [(47, [symv 0], .bool true),
    (33, [.agg ⟨[symv 0, symv 1, symv 2, symv 3, symv 4, symv 5, symv 6, symv 7]⟩], .agg ⟨[symv 8, symv 9, symv 10, symv 11]⟩)]
theorem e25 : endVal Tryd.prog Tryd.f29 (at' 30 F25 C25 body s0) = some (.bool false) := by kernel_rfl
def F26 : List (FOp × Value) := [(.bin .lss 3 (symv 5) (.int .i64 0), .bool false),
    (.bin .gtr 3 (symv 5) (.int .i64 15), .bool false),
    (.bin .lss 3 (symv 6) (.int .i64 0), .bool false),
    (.bin .gtr 3 (symv 6) (.int .i64 15), .bool false),
    (.bin .lss 3 (symv 7) (.int .i64 0), .bool false),
    (.bin .gtr 3 (symv 7) (.int .i64 15), .bool true),
    (.bin .neq 9 (symv 8) (strV []), .bool true),
    (.bin .geq 3 (symv 4) (.int .i64 1), .bool true),
    (.bin .leq 3 (symv 4) (.int .i64 16), .bool true)]
def C26 : List (FuncId × List Value × Value) := [(47, [symv 0], .bool true),
    (33, [.agg ⟨[symv 0, symv 1, symv 2, symv 3, symv 4, symv 5, symv 6, symv 7]⟩], .agg ⟨[symv 8, symv 9, symv 10, symv 11]⟩)]
theorem e26 : endVal Tryd.prog Tryd.f29 (at' 30 F26 C26 body s0) = some (.bool false) := by kernel_rfl
def F27 : List (FOp × Value) := [(.bin .lss 3 (symv 5) (.int .i64 0), .bool false),
    (.bin .gtr 3 (symv 5) (.int .i64 15), .bool false),
    (.bin .lss 3 (symv 6) (.int .i64 0), .bool false),
    (.bin .gtr 3 (symv 6) (.int .i64 15), .bool false),
    (.bin .lss 3 (symv 7) (.int .i64 0), .bool false),
    (.bin .gtr 3 (symv 7) (.int .i64 15), .bool true),
    (.bin .neq 9 (symv 8) (strV []), .bool true),
    (.bin .geq 3 (symv 4) (.int .i64 1), .bool true),
    (.bin .leq 3 (symv 4) (.int .i64 16), .bool false)]
def C27 : List (FuncId × List Value × Value) := [(47, [symv 0], .bool true),
    (33, [.agg ⟨[symv 0, symv 1, symv 2, symv 3, symv 4, symv 5, symv 6, symv 7]⟩], .agg ⟨[symv 8, symv 9, symv 10, symv 11]⟩)]
theorem e27 : endVal Tryd.prog Tryd.f29 (at' 30 F27 C27 body s0) = some (.bool false) := by kernel_rfl
def F28 : List (FOp × Value) := [(.bin .lss 3 (symv 5) (.int .i64 0), .bool false),
    (.bin .gtr 3 (symv 5) (.int .i64 15), .bool false),
    (.bin .lss 3 (symv 6) (.int .i64 0), .bool false),
    (.bin .gtr 3 (symv 6) (.int .i64 15), .bool false),
    (.bin .lss 3 (symv 7) (.int .i64 0), .bool false),
    (.bin .gtr 3 (symv 7) (.int .i64 15), .bool true),
    (.bin .neq 9 (symv 8) (strV []), .bool true),
    (.bin .geq 3 (symv 4) (.int .i64 1), .bool false)]
def C28 : List (FuncId × List Value × Value) := [(47, [symv 0], .bool true),
    (33, [.agg ⟨[symv 0, symv 1, symv 2, symv 3, symv 4, symv 5, symv 6, symv 7]⟩], .agg ⟨[symv 8, symv 9, symv 10, symv 11]⟩)]
theorem e28 : endVal Tryd.prog Tryd.f29 (at' 30 F28 C28 body s0) = some (.bool false) := by kernel_rfl
def F29 : List (FOp × Value) := [(.bin .lss 3 (symv 5) (.int .i64 0), .bool false),
    (.bin .gtr 3 (symv 5) (.int .i64 15), .bool false),
    (.bin .lss 3 (symv 6) (.int .i64 0), .bool false),
    (.bin .gtr 3 (symv 6) (.int .i64 15), .bool false),
    (.bin .lss 3 (symv 7) (.int .i64 0), .bool false),
    (.bin .gtr 3 (symv 7) (.int .i64 15), .bool true)]
def C29 : List (FuncId × List Value × Value) := [(47, [symv 0], .bool false)]
theorem e29 : endVal Tryd.prog Tryd.f29 (at' 30 F29 C29 body s0) = some (.bool false) := by kernel_rfl
def F30 : List (FOp × Value) := [(.bin .lss 3 (symv 5) (.int .i64 0), .bool false),
    (.bin .gtr 3 (symv 5) (.int .i64 15), .bool false),
    (.bin .lss 3 (symv 6) (.int .i64 0), .bool false),
    (.bin .gtr 3 (symv 6) (.int .i64 15), .bool false),
    (.bin .lss 3 (symv 7) (.int .i64 0), .bool false),
    (.bin .gtr 3 (symv 7) (.int .i64 15), .bool false),
    (.bin .neq 9 (symv 8) (strV []), .bool false)]
def C30 : List (FuncId × List Value × Value) := [(47, [symv 0], .bool true),
    (33, [.agg ⟨[symv 0, symv 1, symv 2, symv 3, symv 4, symv 5, symv 6, symv 7]⟩], .agg ⟨[symv 8, symv 9, symv 10, symv 11]⟩)]
theorem e30 : endVal Tryd.prog Tryd.f29 (at' 30 F30 C30 body s0) = some (.bool false) := by kernel_rfl
def F31 : List (FOp × Value) := [(.bin .lss 3 (symv 5) (.int .i64 0), .bool false),
    (.bin .gtr 3 (symv 5) (.int .i64 15), .bool false),
    (.bin .lss 3 (symv 6) (.int .i64 0), .bool false),
    (.bin .gtr 3 (symv 6) (.int .i64 15), .bool false),
    (.bin .lss 3 (symv 7) (.int .i64 0), .bool false),
    (.bin .gtr 3 (symv 7) (.int .i64 15), .bool false),
    (.bin .neq 9 (symv 8) (strV []), .bool true),
    (.bin .geq 3 (symv 4) (.int .i64 1), .bool true),
    (.bin .leq 3 (symv 4) (.int .i64 16), .bool true)]
def C31 : List (FuncId × List Value × Value) := [(47, [symv 0], .bool true),
    (33, [.agg ⟨[symv 0, symv 1, symv 2, symv 3, symv 4, symv 5, symv 6, symv 7]⟩], .agg ⟨[symv 8, symv 9, symv 10, symv 11]⟩)]
theorem e31 : endVal Tryd.prog Tryd.f29 (at' 30 F31 C31 body s0) = some (.bool true) := by kernel_rfl
def F32 : List (FOp × Value) := [(.bin .lss 3 (symv 5) (.int .i64 0), .bool false),
    (.bin .gtr 3 (symv 5) (.int .i64 15), .bool false),
    (.bin .lss 3 (symv 6) (.int .i64 0), .bool false),
    (.bin .gtr 3 (symv 6) (.int .i64 15), .bool false),
    (.bin .lss 3 (symv 7) (.int .i64 0), .bool false),
    (.bin .gtr 3 (symv 7) (.int .i64 15), .bool false),
    (.bin .neq 9 (symv 8) (strV []), .bool true),
    (.bin .geq 3 (symv 4) (.int .i64 1), .bool true),
    (.bin .leq 3 (symv 4) (.int .i64 16), .bool false)]
def C32 : List (FuncId × List Value × Value) := [(47, [symv 0], .bool true),
    (33, [.agg ⟨[symv 0, symv 1, symv 2, symv 3, symv 4, symv 5, symv 6, symv 7]⟩], .agg ⟨[symv 8, symv 9, symv 10, symv 11]⟩)]
theorem e32 : endVal Tryd.prog Tryd.f29 (at' 30 F32 C32 body s0) = some (.bool false) := by kernel_rfl
def F33 : List (FOp × Value) := [(.bin .lss 3 (symv 5) (.int .i64 0), .bool false),
    (.bin .gtr 3 (symv 5) (.int .i64 15), .bool false),
    (.bin .lss 3 (symv 6) (.int .i64 0), .bool false),
    (.bin .gtr 3 (symv 6) (.int .i64 15), .bool false),
    (.bin .lss 3 (symv 7) (.int .i64 0), .bool false),
    (.bin .gtr 3 (symv 7) (.int .i64 15), .bool false),
    (.bin .neq 9 (symv 8) (strV []), .bool true),
    (.bin .geq 3 (symv 4) (.int .i64 1), .bool false)]
def C33 : List (FuncId × List Value × Value) := [(47, [symv 0], .bool true),
    (33, [.agg ⟨[symv 0, symv 1, symv 2, symv 3, symv 4, symv 5, symv 6, symv 7]⟩], .agg ⟨[symv 8, symv 9, symv 10, symv 11]⟩)]
theorem e33 : endVal Tryd.prog Tryd.f29 (at' 30 F33 C33 body s0) = some (.bool false) := by kernel_rfl
def F34 : List (FOp × Value) := [(.bin .lss 3 (symv 5) (.int .i64 0), .bool false),
    (.bin .gtr 3 (symv 5) (.int .i64 15), .bool false),
    (.bin .lss 3 (symv 6) (.int .i64 0), .bool false),
    (.bin .gtr 3 (symv 6) (.int .i64 15), .bool false),
    (.bin .lss 3 (symv 7) (.int .i64 0), .bool false),
    (.bin .gtr 3 (symv 7) (.int .i64 15), .bool false)]
def C34 : List (FuncId × List Value × Value) := [(47, [symv 0], .bool false)]
theorem e34 : endVal Tryd.prog Tryd.f29 (at' 30 F34 C34 body s0) = some (.bool false) := by kernel_rfl
@[reducible] noncomputable def vL (x : Mt) : List Value := [strV x.1, .bool x.2.1, .bool x.2.2.1, .bool x.2.2.2.1, .int .i64 x.2.2.2.2.1, .int .i64 x.2.2.2.2.2.1, .int .i64 x.2.2.2.2.2.2.1, .int .i64 x.2.2.2.2.2.2.2, strV (kindM x).1, .bool (kindM x).2.1, .bool (kindM x).2.2.1, .bool (kindM x).2.2.2]
@[reducible] noncomputable def sg (M : Mem) (x : Mt) : Sig := sgL M (vL x)
set_option maxHeartbeats 4000000 in
theorem any (W : World) (x : Mt) (hK : KindsM (heapOf W)) : Calls Tryd.prog 29 #[M.val x] W fun e w' => e = .returned (.bool (decide (validM x))) ∧ Low W.heap.size W w' := by
  refine @walk_enter (sg (heapOf W) x ) Tryd.prog 29 Tryd.f29 body [.agg ⟨[symv 0, symv 1, symv 2, symv 3, symv 4, symv 5, symv 6, symv 7]⟩] (slots [(0, .agg ⟨[symv 0, symv 1, symv 2, symv 3, symv 4, symv 5, symv 6, symv 7]⟩)]) N W _ Tryd.func29 (by kernel_rfl) (by kernel_rfl) (by kernel_rfl) (by kernel_rfl) (immW_sgL W _) fun a hh => ?_
  letI := (sg (heapOf W) x )
  by_cases h0 : x.2.2.2.2.2.1 < 0
  · by_cases h1 : nameP x.1
    · by_cases h2 : (kindM x).1 = ([] : Bs)
      · refine walk_to (F := F0) (T := C0) (fuel := 1000) (d := 10) mixed (aFc (FactOk.bi rfl rfl rfl rfl rfl rfl (boolT (by omega))) (aFc (FactOk.strNeT rfl rfl rfl rfl h2) aFn)) (aCc (callNameT rfl rfl h1) (aCc (callOf rfl rfl rfl rfl hK) aCn)) ?_ hh
        exact ostop_end e0 fun w2 hLow hIn => ⟨(by first | (rw [decide_eq_true (show validM x from ⟨by assumption, by assumption, by omega, by omega, by omega, by omega, by omega, by omega, by omega, by omega⟩)]; rfl) | (rw [decide_eq_false (fun h : validM x => absurd h.1 (by assumption))]; rfl) | (rw [decide_eq_false (fun h : validM x => absurd h.2.1 (by first | assumption | exact not_not_intro (by assumption)))]; rfl) | (rw [decide_eq_false (fun h : validM x => by have := h.2.2; omega)]; rfl)), hLow⟩
      · by_cases h3 : 1 ≤ x.2.2.2.2.1
        · by_cases h4 : x.2.2.2.2.1 ≤ 16
          · refine walk_to (F := F1) (T := C1) (fuel := 1000) (d := 10) mixed (aFc (FactOk.bi rfl rfl rfl rfl rfl rfl (boolT (by omega))) (aFc (FactOk.strNeF rfl rfl rfl rfl h2) (aFc (FactOk.bi rfl rfl rfl rfl rfl rfl (boolT (by omega))) (aFc (FactOk.bi rfl rfl rfl rfl rfl rfl (boolT (by omega))) aFn)))) (aCc (callNameT rfl rfl h1) (aCc (callOf rfl rfl rfl rfl hK) aCn)) ?_ hh
            exact ostop_end e1 fun w2 hLow hIn => ⟨(by first | (rw [decide_eq_true (show validM x from ⟨by assumption, by assumption, by omega, by omega, by omega, by omega, by omega, by omega, by omega, by omega⟩)]; rfl) | (rw [decide_eq_false (fun h : validM x => absurd h.1 (by assumption))]; rfl) | (rw [decide_eq_false (fun h : validM x => absurd h.2.1 (by first | assumption | exact not_not_intro (by assumption)))]; rfl) | (rw [decide_eq_false (fun h : validM x => by have := h.2.2; omega)]; rfl)), hLow⟩
          · refine walk_to (F := F2) (T := C2) (fuel := 1000) (d := 10) mixed (aFc (FactOk.bi rfl rfl rfl rfl rfl rfl (boolT (by omega))) (aFc (FactOk.strNeF rfl rfl rfl rfl h2) (aFc (FactOk.bi rfl rfl rfl rfl rfl rfl (boolT (by omega))) (aFc (FactOk.bi rfl rfl rfl rfl rfl rfl (boolF (by omega))) aFn)))) (aCc (callNameT rfl rfl h1) (aCc (callOf rfl rfl rfl rfl hK) aCn)) ?_ hh
            exact ostop_end e2 fun w2 hLow hIn => ⟨(by first | (rw [decide_eq_true (show validM x from ⟨by assumption, by assumption, by omega, by omega, by omega, by omega, by omega, by omega, by omega, by omega⟩)]; rfl) | (rw [decide_eq_false (fun h : validM x => absurd h.1 (by assumption))]; rfl) | (rw [decide_eq_false (fun h : validM x => absurd h.2.1 (by first | assumption | exact not_not_intro (by assumption)))]; rfl) | (rw [decide_eq_false (fun h : validM x => by have := h.2.2; omega)]; rfl)), hLow⟩
        · refine walk_to (F := F3) (T := C3) (fuel := 1000) (d := 10) mixed (aFc (FactOk.bi rfl rfl rfl rfl rfl rfl (boolT (by omega))) (aFc (FactOk.strNeF rfl rfl rfl rfl h2) (aFc (FactOk.bi rfl rfl rfl rfl rfl rfl (boolF (by omega))) aFn))) (aCc (callNameT rfl rfl h1) (aCc (callOf rfl rfl rfl rfl hK) aCn)) ?_ hh
          exact ostop_end e3 fun w2 hLow hIn => ⟨(by first | (rw [decide_eq_true (show validM x from ⟨by assumption, by assumption, by omega, by omega, by omega, by omega, by omega, by omega, by omega, by omega⟩)]; rfl) | (rw [decide_eq_false (fun h : validM x => absurd h.1 (by assumption))]; rfl) | (rw [decide_eq_false (fun h : validM x => absurd h.2.1 (by first | assumption | exact not_not_intro (by assumption)))]; rfl) | (rw [decide_eq_false (fun h : validM x => by have := h.2.2; omega)]; rfl)), hLow⟩
    · refine walk_to (F := F4) (T := C4) (fuel := 1000) (d := 10) mixed (aFc (FactOk.bi rfl rfl rfl rfl rfl rfl (boolT (by omega))) aFn) (aCc (callNameF rfl rfl h1) aCn) ?_ hh
      exact ostop_end e4 fun w2 hLow hIn => ⟨(by first | (rw [decide_eq_true (show validM x from ⟨by assumption, by assumption, by omega, by omega, by omega, by omega, by omega, by omega, by omega, by omega⟩)]; rfl) | (rw [decide_eq_false (fun h : validM x => absurd h.1 (by assumption))]; rfl) | (rw [decide_eq_false (fun h : validM x => absurd h.2.1 (by first | assumption | exact not_not_intro (by assumption)))]; rfl) | (rw [decide_eq_false (fun h : validM x => by have := h.2.2; omega)]; rfl)), hLow⟩
  · by_cases h1 : 15 < x.2.2.2.2.2.1
    · by_cases h2 : nameP x.1
      · by_cases h3 : (kindM x).1 = ([] : Bs)
        · refine walk_to (F := F5) (T := C5) (fuel := 1000) (d := 10) mixed (aFc (FactOk.bi rfl rfl rfl rfl rfl rfl (boolF (by omega))) (aFc (FactOk.bi rfl rfl rfl rfl rfl rfl (boolT (by omega))) (aFc (FactOk.strNeT rfl rfl rfl rfl h3) aFn))) (aCc (callNameT rfl rfl h2) (aCc (callOf rfl rfl rfl rfl hK) aCn)) ?_ hh
          exact ostop_end e5 fun w2 hLow hIn => ⟨(by first | (rw [decide_eq_true (show validM x from ⟨by assumption, by assumption, by omega, by omega, by omega, by omega, by omega, by omega, by omega, by omega⟩)]; rfl) | (rw [decide_eq_false (fun h : validM x => absurd h.1 (by assumption))]; rfl) | (rw [decide_eq_false (fun h : validM x => absurd h.2.1 (by first | assumption | exact not_not_intro (by assumption)))]; rfl) | (rw [decide_eq_false (fun h : validM x => by have := h.2.2; omega)]; rfl)), hLow⟩
        · by_cases h4 : 1 ≤ x.2.2.2.2.1
          · by_cases h5 : x.2.2.2.2.1 ≤ 16
            · refine walk_to (F := F6) (T := C6) (fuel := 1000) (d := 10) mixed (aFc (FactOk.bi rfl rfl rfl rfl rfl rfl (boolF (by omega))) (aFc (FactOk.bi rfl rfl rfl rfl rfl rfl (boolT (by omega))) (aFc (FactOk.strNeF rfl rfl rfl rfl h3) (aFc (FactOk.bi rfl rfl rfl rfl rfl rfl (boolT (by omega))) (aFc (FactOk.bi rfl rfl rfl rfl rfl rfl (boolT (by omega))) aFn))))) (aCc (callNameT rfl rfl h2) (aCc (callOf rfl rfl rfl rfl hK) aCn)) ?_ hh
              exact ostop_end e6 fun w2 hLow hIn => ⟨(by first | (rw [decide_eq_true (show validM x from ⟨by assumption, by assumption, by omega, by omega, by omega, by omega, by omega, by omega, by omega, by omega⟩)]; rfl) | (rw [decide_eq_false (fun h : validM x => absurd h.1 (by assumption))]; rfl) | (rw [decide_eq_false (fun h : validM x => absurd h.2.1 (by first | assumption | exact not_not_intro (by assumption)))]; rfl) | (rw [decide_eq_false (fun h : validM x => by have := h.2.2; omega)]; rfl)), hLow⟩
            · refine walk_to (F := F7) (T := C7) (fuel := 1000) (d := 10) mixed (aFc (FactOk.bi rfl rfl rfl rfl rfl rfl (boolF (by omega))) (aFc (FactOk.bi rfl rfl rfl rfl rfl rfl (boolT (by omega))) (aFc (FactOk.strNeF rfl rfl rfl rfl h3) (aFc (FactOk.bi rfl rfl rfl rfl rfl rfl (boolT (by omega))) (aFc (FactOk.bi rfl rfl rfl rfl rfl rfl (boolF (by omega))) aFn))))) (aCc (callNameT rfl rfl h2) (aCc (callOf rfl rfl rfl rfl hK) aCn)) ?_ hh
              exact ostop_end e7 fun w2 hLow hIn => ⟨(by first | (rw [decide_eq_true (show validM x from ⟨by assumption, by assumption, by omega, by omega, by omega, by omega, by omega, by omega, by omega, by omega⟩)]; rfl) | (rw [decide_eq_false (fun h : validM x => absurd h.1 (by assumption))]; rfl) | (rw [decide_eq_false (fun h : validM x => absurd h.2.1 (by first | assumption | exact not_not_intro (by assumption)))]; rfl) | (rw [decide_eq_false (fun h : validM x => by have := h.2.2; omega)]; rfl)), hLow⟩
          · refine walk_to (F := F8) (T := C8) (fuel := 1000) (d := 10) mixed (aFc (FactOk.bi rfl rfl rfl rfl rfl rfl (boolF (by omega))) (aFc (FactOk.bi rfl rfl rfl rfl rfl rfl (boolT (by omega))) (aFc (FactOk.strNeF rfl rfl rfl rfl h3) (aFc (FactOk.bi rfl rfl rfl rfl rfl rfl (boolF (by omega))) aFn)))) (aCc (callNameT rfl rfl h2) (aCc (callOf rfl rfl rfl rfl hK) aCn)) ?_ hh
            exact ostop_end e8 fun w2 hLow hIn => ⟨(by first | (rw [decide_eq_true (show validM x from ⟨by assumption, by assumption, by omega, by omega, by omega, by omega, by omega, by omega, by omega, by omega⟩)]; rfl) | (rw [decide_eq_false (fun h : validM x => absurd h.1 (by assumption))]; rfl) | (rw [decide_eq_false (fun h : validM x => absurd h.2.1 (by first | assumption | exact not_not_intro (by assumption)))]; rfl) | (rw [decide_eq_false (fun h : validM x => by have := h.2.2; omega)]; rfl)), hLow⟩
      · refine walk_to (F := F9) (T := C9) (fuel := 1000) (d := 10) mixed (aFc (FactOk.bi rfl rfl rfl rfl rfl rfl (boolF (by omega))) (aFc (FactOk.bi rfl rfl rfl rfl rfl rfl (boolT (by omega))) aFn)) (aCc (callNameF rfl rfl h2) aCn) ?_ hh
        exact ostop_end e9 fun w2 hLow hIn => ⟨(by first | (rw [decide_eq_true (show validM x from ⟨by assumption, by assumption, by omega, by omega, by omega, by omega, by omega, by omega, by omega, by omega⟩)]; rfl) | (rw [decide_eq_false (fun h : validM x => absurd h.1 (by assumption))]; rfl) | (rw [decide_eq_false (fun h : validM x => absurd h.2.1 (by first | assumption | exact not_not_intro (by assumption)))]; rfl) | (rw [decide_eq_false (fun h : validM x => by have := h.2.2; omega)]; rfl)), hLow⟩
    · by_cases h2 : x.2.2.2.2.2.2.1 < 0
      · by_cases h3 : nameP x.1
        · by_cases h4 : (kindM x).1 = ([] : Bs)
          · refine walk_to (F := F10) (T := C10) (fuel := 1000) (d := 10) mixed (aFc (FactOk.bi rfl rfl rfl rfl rfl rfl (boolF (by omega))) (aFc (FactOk.bi rfl rfl rfl rfl rfl rfl (boolF (by omega))) (aFc (FactOk.bi rfl rfl rfl rfl rfl rfl (boolT (by omega))) (aFc (FactOk.strNeT rfl rfl rfl rfl h4) aFn)))) (aCc (callNameT rfl rfl h3) (aCc (callOf rfl rfl rfl rfl hK) aCn)) ?_ hh
            exact ostop_end e10 fun w2 hLow hIn => ⟨(by first | (rw [decide_eq_true (show validM x from ⟨by assumption, by assumption, by omega, by omega, by omega, by omega, by omega, by omega, by omega, by omega⟩)]; rfl) | (rw [decide_eq_false (fun h : validM x => absurd h.1 (by assumption))]; rfl) | (rw [decide_eq_false (fun h : validM x => absurd h.2.1 (by first | assumption | exact not_not_intro (by assumption)))]; rfl) | (rw [decide_eq_false (fun h : validM x => by have := h.2.2; omega)]; rfl)), hLow⟩
          · by_cases h5 : 1 ≤ x.2.2.2.2.1
            · by_cases h6 : x.2.2.2.2.1 ≤ 16
              · refine walk_to (F := F11) (T := C11) (fuel := 1000) (d := 10) mixed (aFc (FactOk.bi rfl rfl rfl rfl rfl rfl (boolF (by omega))) (aFc (FactOk.bi rfl rfl rfl rfl rfl rfl (boolF (by omega))) (aFc (FactOk.bi rfl rfl rfl rfl rfl rfl (boolT (by omega))) (aFc (FactOk.strNeF rfl rfl rfl rfl h4) (aFc (FactOk.bi rfl rfl rfl rfl rfl rfl (boolT (by omega))) (aFc (FactOk.bi rfl rfl rfl rfl rfl rfl (boolT (by omega))) aFn)))))) (aCc (callNameT rfl rfl h3) (aCc (callOf rfl rfl rfl rfl hK) aCn)) ?_ hh
                exact ostop_end e11 fun w2 hLow hIn => ⟨(by first | (rw [decide_eq_true (show validM x from ⟨by assumption, by assumption, by omega, by omega, by omega, by omega, by omega, by omega, by omega, by omega⟩)]; rfl) | (rw [decide_eq_false (fun h : validM x => absurd h.1 (by assumption))]; rfl) | (rw [decide_eq_false (fun h : validM x => absurd h.2.1 (by first | assumption | exact not_not_intro (by assumption)))]; rfl) | (rw [decide_eq_false (fun h : validM x => by have := h.2.2; omega)]; rfl)), hLow⟩
              · refine walk_to (F := F12) (T := C12) (fuel := 1000) (d := 10) mixed (aFc (FactOk.bi rfl rfl rfl rfl rfl rfl (boolF (by omega))) (aFc (FactOk.bi rfl rfl rfl rfl rfl rfl (boolF (by omega))) (aFc (FactOk.bi rfl rfl rfl rfl rfl rfl (boolT (by omega))) (aFc (FactOk.strNeF rfl rfl rfl rfl h4) (aFc (FactOk.bi rfl rfl rfl rfl rfl rfl (boolT (by omega))) (aFc (FactOk.bi rfl rfl rfl rfl rfl rfl (boolF (by omega))) aFn)))))) (aCc (callNameT rfl rfl h3) (aCc (callOf rfl rfl rfl rfl hK) aCn)) ?_ hh
                exact ostop_end e12 fun w2 hLow hIn => ⟨(by first | (rw [decide_eq_true (show validM x from ⟨by assumption, by assumption, by omega, by omega, by omega, by omega, by omega, by omega, by omega, by omega⟩)]; rfl) | (rw [decide_eq_false (fun h : validM x => absurd h.1 (by assumption))]; rfl) | (rw [decide_eq_false (fun h : validM x => absurd h.2.1 (by first | assumption | exact not_not_intro (by assumption)))]; rfl) | (rw [decide_eq_false (fun h : validM x => by have := h.2.2; omega)]; rfl)), hLow⟩
            · refine walk_to (F := F13) (T := C13) (fuel := 1000) (d := 10) mixed (aFc (FactOk.bi rfl rfl rfl rfl rfl rfl (boolF (by omega))) (aFc (FactOk.bi rfl rfl rfl rfl rfl rfl (boolF (by omega))) (aFc (FactOk.bi rfl rfl rfl rfl rfl rfl (boolT (by omega))) (aFc (FactOk.strNeF rfl rfl rfl rfl h4) (aFc (FactOk.bi rfl rfl rfl rfl rfl rfl (boolF (by omega))) aFn))))) (aCc (callNameT rfl rfl h3) (aCc (callOf rfl rfl rfl rfl hK) aCn)) ?_ hh
              exact ostop_end e13 fun w2 hLow hIn => ⟨(by first | (rw [decide_eq_true (show validM x from ⟨by assumption, by assumption, by omega, by omega, by omega, by omega, by omega, by omega, by omega, by omega⟩)]; rfl) | (rw [decide_eq_false (fun h : validM x => absurd h.1 (by assumption))]; rfl) | (rw [decide_eq_false (fun h : validM x => absurd h.2.1 (by first | assumption | exact not_not_intro (by assumption)))]; rfl) | (rw [decide_eq_false (fun h : validM x => by have := h.2.2; omega)]; rfl)), hLow⟩
        · refine walk_to (F := F14) (T := C14) (fuel := 1000) (d := 10) mixed (aFc (FactOk.bi rfl rfl rfl rfl rfl rfl (boolF (by omega))) (aFc (FactOk.bi rfl rfl rfl rfl rfl rfl (boolF (by omega))) (aFc (FactOk.bi rfl rfl rfl rfl rfl rfl (boolT (by omega))) aFn))) (aCc (callNameF rfl rfl h3) aCn) ?_ hh
          exact ostop_end e14 fun w2 hLow hIn => ⟨(by first | (rw [decide_eq_true (show validM x from ⟨by assumption, by assumption, by omega, by omega, by omega, by omega, by omega, by omega, by omega, by omega⟩)]; rfl) | (rw [decide_eq_false (fun h : validM x => absurd h.1 (by assumption))]; rfl) | (rw [decide_eq_false (fun h : validM x => absurd h.2.1 (by first | assumption | exact not_not_intro (by assumption)))]; rfl) | (rw [decide_eq_false (fun h : validM x => by have := h.2.2; omega)]; rfl)), hLow⟩
      · by_cases h3 : 15 < x.2.2.2.2.2.2.1
        · by_cases h4 : nameP x.1
          · by_cases h5 : (kindM x).1 = ([] : Bs)
            · refine walk_to (F := F15) (T := C15) (fuel := 1000) (d := 10) mixed (aFc (FactOk.bi rfl rfl rfl rfl rfl rfl (boolF (by omega))) (aFc (FactOk.bi rfl rfl rfl rfl rfl rfl (boolF (by omega))) (aFc (FactOk.bi rfl rfl rfl rfl rfl rfl (boolF (by omega))) (aFc (FactOk.bi rfl rfl rfl rfl rfl rfl (boolT (by omega))) (aFc (FactOk.strNeT rfl rfl rfl rfl h5) aFn))))) (aCc (callNameT rfl rfl h4) (aCc (callOf rfl rfl rfl rfl hK) aCn)) ?_ hh
              exact ostop_end e15 fun w2 hLow hIn => ⟨(by first | (rw [decide_eq_true (show validM x from ⟨by assumption, by assumption, by omega, by omega, by omega, by omega, by omega, by omega, by omega, by omega⟩)]; rfl) | (rw [decide_eq_false (fun h : validM x => absurd h.1 (by assumption))]; rfl) | (rw [decide_eq_false (fun h : validM x => absurd h.2.1 (by first | assumption | exact not_not_intro (by assumption)))]; rfl) | (rw [decide_eq_false (fun h : validM x => by have := h.2.2; omega)]; rfl)), hLow⟩
            · by_cases h6 : 1 ≤ x.2.2.2.2.1
              · by_cases h7 : x.2.2.2.2.1 ≤ 16
                · refine walk_to (F := F16) (T := C16) (fuel := 1000) (d := 10) mixed (aFc (FactOk.bi rfl rfl rfl rfl rfl rfl (boolF (by omega))) (aFc (FactOk.bi rfl rfl rfl rfl rfl rfl (boolF (by omega))) (aFc (FactOk.bi rfl rfl rfl rfl rfl rfl (boolF (by omega))) (aFc (FactOk.bi rfl rfl rfl rfl rfl rfl (boolT (by omega))) (aFc (FactOk.strNeF rfl rfl rfl rfl h5) (aFc (FactOk.bi rfl rfl rfl rfl rfl rfl (boolT (by omega))) (aFc (FactOk.bi rfl rfl rfl rfl rfl rfl (boolT (by omega))) aFn))))))) (aCc (callNameT rfl rfl h4) (aCc (callOf rfl rfl rfl rfl hK) aCn)) ?_ hh
                  exact ostop_end e16 fun w2 hLow hIn => ⟨(by first | (rw [decide_eq_true (show validM x from ⟨by assumption, by assumption, by omega, by omega, by omega, by omega, by omega, by omega, by omega, by omega⟩)]; rfl) | (rw [decide_eq_false (fun h : validM x => absurd h.1 (by assumption))]; rfl) | (rw [decide_eq_false (fun h : validM x => absurd h.2.1 (by first | assumption | exact not_not_intro (by assumption)))]; rfl) | (rw [decide_eq_false (fun h : validM x => by have := h.2.2; omega)]; rfl)), hLow⟩
                · refine walk_to (F := F17) (T := C17) (fuel := 1000) (d := 10) mixed (aFc (FactOk.bi rfl rfl rfl rfl rfl rfl (boolF (by omega))) (aFc (FactOk.bi rfl rfl rfl rfl rfl rfl (boolF (by omega))) (aFc (FactOk.bi rfl rfl rfl rfl rfl rfl (boolF (by omega))) (aFc (FactOk.bi rfl rfl rfl rfl rfl rfl (boolT (by omega))) (aFc (FactOk.strNeF rfl rfl rfl rfl h5) (aFc (FactOk.bi rfl rfl rfl rfl rfl rfl (boolT (by omega))) (aFc (FactOk.bi rfl rfl rfl rfl rfl rfl (boolF (by omega))) aFn))))))) (aCc (callNameT rfl rfl h4) (aCc (callOf rfl rfl rfl rfl hK) aCn)) ?_ hh
                  exact ostop_end e17 fun w2 hLow hIn => ⟨(by first | (rw [decide_eq_true (show validM x from ⟨by assumption, by assumption, by omega, by omega, by omega, by omega, by omega, by omega, by omega, by omega⟩)]; rfl) | (rw [decide_eq_false (fun h : validM x => absurd h.1 (by assumption))]; rfl) | (rw [decide_eq_false (fun h : validM x => absurd h.2.1 (by first | assumption | exact not_not_intro (by assumption)))]; rfl) | (rw [decide_eq_false (fun h : validM x => by have := h.2.2; omega)]; rfl)), hLow⟩
              · refine walk_to (F := F18) (T := C18) (fuel := 1000) (d := 10) mixed (aFc (FactOk.bi rfl rfl rfl rfl rfl rfl (boolF (by omega))) (aFc (FactOk.bi rfl rfl rfl rfl rfl rfl (boolF (by omega))) (aFc (FactOk.bi rfl rfl rfl rfl rfl rfl (boolF (by omega))) (aFc (FactOk.bi rfl rfl rfl rfl rfl rfl (boolT (by omega))) (aFc (FactOk.strNeF rfl rfl rfl rfl h5) (aFc (FactOk.bi rfl rfl rfl rfl rfl rfl (boolF (by omega))) aFn)))))) (aCc (callNameT rfl rfl h4) (aCc (callOf rfl rfl rfl rfl hK) aCn)) ?_ hh
                exact ostop_end e18 fun w2 hLow hIn => ⟨(by first | (rw [decide_eq_true (show validM x from ⟨by assumption, by assumption, by omega, by omega, by omega, by omega, by omega, by omega, by omega, by omega⟩)]; rfl) | (rw [decide_eq_false (fun h : validM x => absurd h.1 (by assumption))]; rfl) | (rw [decide_eq_false (fun h : validM x => absurd h.2.1 (by first | assumption | exact not_not_intro (by assumption)))]; rfl) | (rw [decide_eq_false (fun h : validM x => by have := h.2.2; omega)]; rfl)), hLow⟩
          · refine walk_to (F := F19) (T := C19) (fuel := 1000) (d := 10) mixed (aFc (FactOk.bi rfl rfl rfl rfl rfl rfl (boolF (by omega))) (aFc (FactOk.bi rfl rfl rfl rfl rfl rfl (boolF (by omega))) (aFc (FactOk.bi rfl rfl rfl rfl rfl rfl (boolF (by omega))) (aFc (FactOk.bi rfl rfl rfl rfl rfl rfl (boolT (by omega))) aFn)))) (aCc (callNameF rfl rfl h4) aCn) ?_ hh
            exact ostop_end e19 fun w2 hLow hIn => ⟨(by first | (rw [decide_eq_true (show validM x from ⟨by assumption, by assumption, by omega, by omega, by omega, by omega, by omega, by omega, by omega, by omega⟩)]; rfl) | (rw [decide_eq_false (fun h : validM x => absurd h.1 (by assumption))]; rfl) | (rw [decide_eq_false (fun h : validM x => absurd h.2.1 (by first | assumption | exact not_not_intro (by assumption)))]; rfl) | (rw [decide_eq_false (fun h : validM x => by have := h.2.2; omega)]; rfl)), hLow⟩
        · by_cases h4 : x.2.2.2.2.2.2.2 < 0
          · by_cases h5 : nameP x.1
            · by_cases h6 : (kindM x).1 = ([] : Bs)
              · refine walk_to (F := F20) (T := C20) (fuel := 1000) (d := 10) mixed (aFc (FactOk.bi rfl rfl rfl rfl rfl rfl (boolF (by omega))) (aFc (FactOk.bi rfl rfl rfl rfl rfl rfl (boolF (by omega))) (aFc (FactOk.bi rfl rfl rfl rfl rfl rfl (boolF (by omega))) (aFc (FactOk.bi rfl rfl rfl rfl rfl rfl (boolF (by omega))) (aFc (FactOk.bi rfl rfl rfl rfl rfl rfl (boolT (by omega))) (aFc (FactOk.strNeT rfl rfl rfl rfl h6) aFn)))))) (aCc (callNameT rfl rfl h5) (aCc (callOf rfl rfl rfl rfl hK) aCn)) ?_ hh
                exact ostop_end e20 fun w2 hLow hIn => ⟨(by first | (rw [decide_eq_true (show validM x from ⟨by assumption, by assumption, by omega, by omega, by omega, by omega, by omega, by omega, by omega, by omega⟩)]; rfl) | (rw [decide_eq_false (fun h : validM x => absurd h.1 (by assumption))]; rfl) | (rw [decide_eq_false (fun h : validM x => absurd h.2.1 (by first | assumption | exact not_not_intro (by assumption)))]; rfl) | (rw [decide_eq_false (fun h : validM x => by have := h.2.2; omega)]; rfl)), hLow⟩
              · by_cases h7 : 1 ≤ x.2.2.2.2.1
                · by_cases h8 : x.2.2.2.2.1 ≤ 16
                  · refine walk_to (F := F21) (T := C21) (fuel := 1000) (d := 10) mixed (aFc (FactOk.bi rfl rfl rfl rfl rfl rfl (boolF (by omega))) (aFc (FactOk.bi rfl rfl rfl rfl rfl rfl (boolF (by omega))) (aFc (FactOk.bi rfl rfl rfl rfl rfl rfl (boolF (by omega))) (aFc (FactOk.bi rfl rfl rfl rfl rfl rfl (boolF (by omega))) (aFc (FactOk.bi rfl rfl rfl rfl rfl rfl (boolT (by omega))) (aFc (FactOk.strNeF rfl rfl rfl rfl h6) (aFc (FactOk.bi rfl rfl rfl rfl rfl rfl (boolT (by omega))) (aFc (FactOk.bi rfl rfl rfl rfl rfl rfl (boolT (by omega))) aFn)))))))) (aCc (callNameT rfl rfl h5) (aCc (callOf rfl rfl rfl rfl hK) aCn)) ?_ hh
                    exact ostop_end e21 fun w2 hLow hIn => ⟨(by first | (rw [decide_eq_true (show validM x from ⟨by assumption, by assumption, by omega, by omega, by omega, by omega, by omega, by omega, by omega, by omega⟩)]; rfl) | (rw [decide_eq_false (fun h : validM x => absurd h.1 (by assumption))]; rfl) | (rw [decide_eq_false (fun h : validM x => absurd h.2.1 (by first | assumption | exact not_not_intro (by assumption)))]; rfl) | (rw [decide_eq_false (fun h : validM x => by have := h.2.2; omega)]; rfl)), hLow⟩
                  · refine walk_to (F := F22) (T := C22) (fuel := 1000) (d := 10) mixed (aFc (FactOk.bi rfl rfl rfl rfl rfl rfl (boolF (by omega))) (aFc (FactOk.bi rfl rfl rfl rfl rfl rfl (boolF (by omega))) (aFc (FactOk.bi rfl rfl rfl rfl rfl rfl (boolF (by omega))) (aFc (FactOk.bi rfl rfl rfl rfl rfl rfl (boolF (by omega))) (aFc (FactOk.bi rfl rfl rfl rfl rfl rfl (boolT (by omega))) (aFc (FactOk.strNeF rfl rfl rfl rfl h6) (aFc (FactOk.bi rfl rfl rfl rfl rfl rfl (boolT (by omega))) (aFc (FactOk.bi rfl rfl rfl rfl rfl rfl (boolF (by omega))) aFn)))))))) (aCc (callNameT rfl rfl h5) (aCc (callOf rfl rfl rfl rfl hK) aCn)) ?_ hh
                    exact ostop_end e22 fun w2 hLow hIn => ⟨(by first | (rw [decide_eq_true (show validM x from ⟨by assumption, by assumption, by omega, by omega, by omega, by omega, by omega, by omega, by omega, by omega⟩)]; rfl) | (rw [decide_eq_false (fun h : validM x => absurd h.1 (by assumption))]; rfl) | (rw [decide_eq_false (fun h : validM x => absurd h.2.1 (by first | assumption | exact not_not_intro (by assumption)))]; rfl) | (rw [decide_eq_false (fun h : validM x => by have := h.2.2; omega)]; rfl)), hLow⟩
                · refine walk_to (F := F23) (T := C23) (fuel := 1000) (d := 10) mixed (aFc (FactOk.bi rfl rfl rfl rfl rfl rfl (boolF (by omega))) (aFc (FactOk.bi rfl rfl rfl rfl rfl rfl (boolF (by omega))) (aFc (FactOk.bi rfl rfl rfl rfl rfl rfl (boolF (by omega))) (aFc (FactOk.bi rfl rfl rfl rfl rfl rfl (boolF (by omega))) (aFc (FactOk.bi rfl rfl rfl rfl rfl rfl (boolT (by omega))) (aFc (FactOk.strNeF rfl rfl rfl rfl h6) (aFc (FactOk.bi rfl rfl rfl rfl rfl rfl (boolF (by omega))) aFn))))))) (aCc (callNameT rfl rfl h5) (aCc (callOf rfl rfl rfl rfl hK) aCn)) ?_ hh
                  exact ostop_end e23 fun w2 hLow hIn => ⟨(by first | (rw [decide_eq_true (show validM x from ⟨by assumption, by assumption, by omega, by omega, by omega, by omega, by omega, by omega, by omega, by omega⟩)]; rfl) | (rw [decide_eq_false (fun h : validM x => absurd h.1 (by assumption))]; rfl) | (rw [decide_eq_false (fun h : validM x => absurd h.2.1 (by first | assumption | exact not_not_intro (by assumption)))]; rfl) | (rw [decide_eq_false (fun h : validM x => by have := h.2.2; omega)]; rfl)), hLow⟩
            · refine walk_to (F := F24) (T := C24) (fuel := 1000) (d := 10) mixed (aFc (FactOk.bi rfl rfl rfl rfl rfl rfl (boolF (by omega))) (aFc (FactOk.bi rfl rfl rfl rfl rfl rfl (boolF (by omega))) (aFc (FactOk.bi rfl rfl rfl rfl rfl rfl (boolF (by omega))) (aFc (FactOk.bi rfl rfl rfl rfl rfl rfl (boolF (by omega))) (aFc (FactOk.bi rfl rfl rfl rfl rfl rfl (boolT (by omega))) aFn))))) (aCc (callNameF rfl rfl h5) aCn) ?_ hh
              exact ostop_end e24 fun w2 hLow hIn => ⟨(by first | (rw [decide_eq_true (show validM x from ⟨by assumption, by assumption, by omega, by omega, by omega, by omega, by omega, by omega, by omega, by omega⟩)]; rfl) | (rw [decide_eq_false (fun h : validM x => absurd h.1 (by assumption))]; rfl) | (rw [decide_eq_false (fun h : validM x => absurd h.2.1 (by first | assumption | exact not_not_intro (by assumption)))]; rfl) | (rw [decide_eq_false (fun h : validM x => by have := h.2.2; omega)]; rfl)), hLow⟩
          · by_cases h5 : 15 < x.2.2.2.2.2.2.2
            · by_cases h6 : nameP x.1
              · by_cases h7 : (kindM x).1 = ([] : Bs)
                · refine walk_to (F := F25) (T := C25) (fuel := 1000) (d := 10) mixed (aFc (FactOk.bi rfl rfl rfl rfl rfl rfl (boolF (by omega))) (aFc (FactOk.bi rfl rfl rfl rfl rfl rfl (boolF (by omega))) (aFc (FactOk.bi rfl rfl rfl rfl rfl rfl (boolF (by omega))) (aFc (FactOk.bi rfl rfl rfl rfl rfl rfl (boolF (by omega))) (aFc (FactOk.bi rfl rfl rfl rfl rfl rfl (boolF (by omega))) (aFc (FactOk.bi rfl rfl rfl rfl rfl rfl (boolT (by omega))) (aFc (FactOk.strNeT rfl rfl rfl rfl h7) aFn))))))) (aCc (callNameT rfl rfl h6) (aCc (callOf rfl rfl rfl rfl hK) aCn)) ?_ hh
                  exact ostop_end e25 fun w2 hLow hIn => ⟨(by first | (rw [decide_eq_true (show validM x from ⟨by assumption, by assumption, by omega, by omega, by omega, by omega, by omega, by omega, by omega, by omega⟩)]; rfl) | (rw [decide_eq_false (fun h : validM x => absurd h.1 (by assumption))]; rfl) | (rw [decide_eq_false (fun h : validM x => absurd h.2.1 (by first | assumption | exact not_not_intro (by assumption)))]; rfl) | (rw [decide_eq_false (fun h : validM x => by have := h.2.2; omega)]; rfl)), hLow⟩
                · by_cases h8 : 1 ≤ x.2.2.2.2.1
                  · by_cases h9 : x.2.2.2.2.1 ≤ 16
                    · refine walk_to (F := F26) (T := C26) (fuel := 1000) (d := 10) mixed (aFc (FactOk.bi rfl rfl rfl rfl rfl rfl (boolF (by omega))) (aFc (FactOk.bi rfl rfl rfl rfl rfl rfl (boolF (by omega))) (aFc (FactOk.bi rfl rfl rfl rfl rfl rfl (boolF (by omega))) (aFc (FactOk.bi rfl rfl rfl rfl rfl rfl (boolF (by omega))) (aFc (FactOk.bi rfl rfl rfl rfl rfl rfl (boolF (by omega))) (aFc (FactOk.bi rfl rfl rfl rfl rfl rfl (boolT (by omega))) (aFc (FactOk.strNeF rfl rfl rfl rfl h7) (aFc (FactOk.bi rfl rfl rfl rfl rfl rfl (boolT (by omega))) (aFc (FactOk.bi rfl rfl rfl rfl rfl rfl (boolT (by omega))) aFn))))))))) (aCc (callNameT rfl rfl h6) (aCc (callOf rfl rfl rfl rfl hK) aCn)) ?_ hh
                      exact ostop_end e26 fun w2 hLow hIn => ⟨(by first | (rw [decide_eq_true (show validM x from ⟨by assumption, by assumption, by omega, by omega, by omega, by omega, by omega, by omega, by omega, by omega⟩)]; rfl) | (rw [decide_eq_false (fun h : validM x => absurd h.1 (by assumption))]; rfl) | (rw [decide_eq_false (fun h : validM x => absurd h.2.1 (by first | assumption | exact not_not_intro (by assumption)))]; rfl) | (rw [decide_eq_false (fun h : validM x => by have := h.2.2; omega)]; rfl)), hLow⟩
                    · refine walk_to (F := F27) (T := C27) (fuel := 1000) (d := 10) mixed (aFc (FactOk.bi rfl rfl rfl rfl rfl rfl (boolF (by omega))) (aFc (FactOk.bi rfl rfl rfl rfl rfl rfl (boolF (by omega))) (aFc (FactOk.bi rfl rfl rfl rfl rfl rfl (boolF (by omega))) (aFc (FactOk.bi rfl rfl rfl rfl rfl rfl (boolF (by omega))) (aFc (FactOk.bi rfl rfl rfl rfl rfl rfl (boolF (by omega))) (aFc (FactOk.bi rfl rfl rfl rfl rfl rfl (boolT (by omega))) (aFc (FactOk.strNeF rfl rfl rfl rfl h7) (aFc (FactOk.bi rfl rfl rfl rfl rfl rfl (boolT (by omega))) (aFc (FactOk.bi rfl rfl rfl rfl rfl rfl (boolF (by omega))) aFn))))))))) (aCc (callNameT rfl rfl h6) (aCc (callOf rfl rfl rfl rfl hK) aCn)) ?_ hh
                      exact ostop_end e27 fun w2 hLow hIn => ⟨(by first | (rw [decide_eq_true (show validM x from ⟨by assumption, by assumption, by omega, by omega, by omega, by omega, by omega, by omega, by omega, by omega⟩)]; rfl) | (rw [decide_eq_false (fun h : validM x => absurd h.1 (by assumption))]; rfl) | (rw [decide_eq_false (fun h : validM x => absurd h.2.1 (by first | assumption | exact not_not_intro (by assumption)))]; rfl) | (rw [decide_eq_false (fun h : validM x => by have := h.2.2; omega)]; rfl)), hLow⟩
                  · refine walk_to (F := F28) (T := C28) (fuel := 1000) (d := 10) mixed (aFc (FactOk.bi rfl rfl rfl rfl rfl rfl (boolF (by omega))) (aFc (FactOk.bi rfl rfl rfl rfl rfl rfl (boolF (by omega))) (aFc (FactOk.bi rfl rfl rfl rfl rfl rfl (boolF (by omega))) (aFc (FactOk.bi rfl rfl rfl rfl rfl rfl (boolF (by omega))) (aFc (FactOk.bi rfl rfl rfl rfl rfl rfl (boolF (by omega))) (aFc (FactOk.bi rfl rfl rfl rfl rfl rfl (boolT (by omega))) (aFc (FactOk.strNeF rfl rfl rfl rfl h7) (aFc (FactOk.bi rfl rfl rfl rfl rfl rfl (boolF (by omega))) aFn)))))))) (aCc (callNameT rfl rfl h6) (aCc (callOf rfl rfl rfl rfl hK) aCn)) ?_ hh
                    exact ostop_end e28 fun w2 hLow hIn => ⟨(by first | (rw [decide_eq_true (show validM x from ⟨by assumption, by assumption, by omega, by omega, by omega, by omega, by omega, by omega, by omega, by omega⟩)]; rfl) | (rw [decide_eq_false (fun h : validM x => absurd h.1 (by assumption))]; rfl) | (rw [decide_eq_false (fun h : validM x => absurd h.2.1 (by first | assumption | exact not_not_intro (by assumption)))]; rfl) | (rw [decide_eq_false (fun h : validM x => by have := h.2.2; omega)]; rfl)), hLow⟩
              · refine walk_to (F := F29) (T := C29) (fuel := 1000) (d := 10) mixed (aFc (FactOk.bi rfl rfl rfl rfl rfl rfl (boolF (by omega))) (aFc (FactOk.bi rfl rfl rfl rfl rfl rfl (boolF (by omega))) (aFc (FactOk.bi rfl rfl rfl rfl rfl rfl (boolF (by omega))) (aFc (FactOk.bi rfl rfl rfl rfl rfl rfl (boolF (by omega))) (aFc (FactOk.bi rfl rfl rfl rfl rfl rfl (boolF (by omega))) (aFc (FactOk.bi rfl rfl rfl rfl rfl rfl (boolT (by omega))) aFn)))))) (aCc (callNameF rfl rfl h6) aCn) ?_ hh
                exact ostop_end e29 fun w2 hLow hIn => ⟨(by first | (rw [decide_eq_true (show validM x from ⟨by assumption, by assumption, by omega, by omega, by omega, by omega, by omega, by omega, by omega, by omega⟩)]; rfl) | (rw [decide_eq_false (fun h : validM x => absurd h.1 (by assumption))]; rfl) | (rw [decide_eq_false (fun h : validM x => absurd h.2.1 (by first | assumption | exact not_not_intro (by assumption)))]; rfl) | (rw [decide_eq_false (fun h : validM x => by have := h.2.2; omega)]; rfl)), hLow⟩
            · by_cases h6 : nameP x.1
              · by_cases h7 : (kindM x).1 = ([] : Bs)
                · refine walk_to (F := F30) (T := C30) (fuel := 1000) (d := 10) mixed (aFc (FactOk.bi rfl rfl rfl rfl rfl rfl (boolF (by omega))) (aFc (FactOk.bi rfl rfl rfl rfl rfl rfl (boolF (by omega))) (aFc (FactOk.bi rfl rfl rfl rfl rfl rfl (boolF (by omega))) (aFc (FactOk.bi rfl rfl rfl rfl rfl rfl (boolF (by omega))) (aFc (FactOk.bi rfl rfl rfl rfl rfl rfl (boolF (by omega))) (aFc (FactOk.bi rfl rfl rfl rfl rfl rfl (boolF (by omega))) (aFc (FactOk.strNeT rfl rfl rfl rfl h7) aFn))))))) (aCc (callNameT rfl rfl h6) (aCc (callOf rfl rfl rfl rfl hK) aCn)) ?_ hh
                  exact ostop_end e30 fun w2 hLow hIn => ⟨(by first | (rw [decide_eq_true (show validM x from ⟨by assumption, by assumption, by omega, by omega, by omega, by omega, by omega, by omega, by omega, by omega⟩)]; rfl) | (rw [decide_eq_false (fun h : validM x => absurd h.1 (by assumption))]; rfl) | (rw [decide_eq_false (fun h : validM x => absurd h.2.1 (by first | assumption | exact not_not_intro (by assumption)))]; rfl) | (rw [decide_eq_false (fun h : validM x => by have := h.2.2; omega)]; rfl)), hLow⟩
                · by_cases h8 : 1 ≤ x.2.2.2.2.1
                  · by_cases h9 : x.2.2.2.2.1 ≤ 16
                    · refine walk_to (F := F31) (T := C31) (fuel := 1000) (d := 10) mixed (aFc (FactOk.bi rfl rfl rfl rfl rfl rfl (boolF (by omega))) (aFc (FactOk.bi rfl rfl rfl rfl rfl rfl (boolF (by omega))) (aFc (FactOk.bi rfl rfl rfl rfl rfl rfl (boolF (by omega))) (aFc (FactOk.bi rfl rfl rfl rfl rfl rfl (boolF (by omega))) (aFc (FactOk.bi rfl rfl rfl rfl rfl rfl (boolF (by omega))) (aFc (FactOk.bi rfl rfl rfl rfl rfl rfl (boolF (by omega))) (aFc (FactOk.strNeF rfl rfl rfl rfl h7) (aFc (FactOk.bi rfl rfl rfl rfl rfl rfl (boolT (by omega))) (aFc (FactOk.bi rfl rfl rfl rfl rfl rfl (boolT (by omega))) aFn))))))))) (aCc (callNameT rfl rfl h6) (aCc (callOf rfl rfl rfl rfl hK) aCn)) ?_ hh
                      exact ostop_end e31 fun w2 hLow hIn => ⟨(by first | (rw [decide_eq_true (show validM x from ⟨by assumption, by assumption, by omega, by omega, by omega, by omega, by omega, by omega, by omega, by omega⟩)]; rfl) | (rw [decide_eq_false (fun h : validM x => absurd h.1 (by assumption))]; rfl) | (rw [decide_eq_false (fun h : validM x => absurd h.2.1 (by first | assumption | exact not_not_intro (by assumption)))]; rfl) | (rw [decide_eq_false (fun h : validM x => by have := h.2.2; omega)]; rfl)), hLow⟩
                    · refine walk_to (F := F32) (T := C32) (fuel := 1000) (d := 10) mixed (aFc (FactOk.bi rfl rfl rfl rfl rfl rfl (boolF (by omega))) (aFc (FactOk.bi rfl rfl rfl rfl rfl rfl (boolF (by omega))) (aFc (FactOk.bi rfl rfl rfl rfl rfl rfl (boolF (by omega))) (aFc (FactOk.bi rfl rfl rfl rfl rfl rfl (boolF (by omega))) (aFc (FactOk.bi rfl rfl rfl rfl rfl rfl (boolF (by omega))) (aFc (FactOk.bi rfl rfl rfl rfl rfl rfl (boolF (by omega))) (aFc (FactOk.strNeF rfl rfl rfl rfl h7) (aFc (FactOk.bi rfl rfl rfl rfl rfl rfl (boolT (by omega))) (aFc (FactOk.bi rfl rfl rfl rfl rfl rfl (boolF (by omega))) aFn))))))))) (aCc (callNameT rfl rfl h6) (aCc (callOf rfl rfl rfl rfl hK) aCn)) ?_ hh
                      exact ostop_end e32 fun w2 hLow hIn => ⟨(by first | (rw [decide_eq_true (show validM x from ⟨by assumption, by assumption, by omega, by omega, by omega, by omega, by omega, by omega, by omega, by omega⟩)]; rfl) | (rw [decide_eq_false (fun h : validM x => absurd h.1 (by assumption))]; rfl) | (rw [decide_eq_false (fun h : validM x => absurd h.2.1 (by first | assumption | exact not_not_intro (by assumption)))]; rfl) | (rw [decide_eq_false (fun h : validM x => by have := h.2.2; omega)]; rfl)), hLow⟩
                  · refine walk_to (F := F33) (T := C33) (fuel := 1000) (d := 10) mixed (aFc (FactOk.bi rfl rfl rfl rfl rfl rfl (boolF (by omega))) (aFc (FactOk.bi rfl rfl rfl rfl rfl rfl (boolF (by omega))) (aFc (FactOk.bi rfl rfl rfl rfl rfl rfl (boolF (by omega))) (aFc (FactOk.bi rfl rfl rfl rfl rfl rfl (boolF (by omega))) (aFc (FactOk.bi rfl rfl rfl rfl rfl rfl (boolF (by omega))) (aFc (FactOk.bi rfl rfl rfl rfl rfl rfl (boolF (by omega))) (aFc (FactOk.strNeF rfl rfl rfl rfl h7) (aFc (FactOk.bi rfl rfl rfl rfl rfl rfl (boolF (by omega))) aFn)))))))) (aCc (callNameT rfl rfl h6) (aCc (callOf rfl rfl rfl rfl hK) aCn)) ?_ hh
                    exact ostop_end e33 fun w2 hLow hIn => ⟨(by first | (rw [decide_eq_true (show validM x from ⟨by assumption, by assumption, by omega, by omega, by omega, by omega, by omega, by omega, by omega, by omega⟩)]; rfl) | (rw [decide_eq_false (fun h : validM x => absurd h.1 (by assumption))]; rfl) | (rw [decide_eq_false (fun h : validM x => absurd h.2.1 (by first | assumption | exact not_not_intro (by assumption)))]; rfl) | (rw [decide_eq_false (fun h : validM x => by have := h.2.2; omega)]; rfl)), hLow⟩
              · refine walk_to (F := F34) (T := C34) (fuel := 1000) (d := 10) mixed (aFc (FactOk.bi rfl rfl rfl rfl rfl rfl (boolF (by omega))) (aFc (FactOk.bi rfl rfl rfl rfl rfl rfl (boolF (by omega))) (aFc (FactOk.bi rfl rfl rfl rfl rfl rfl (boolF (by omega))) (aFc (FactOk.bi rfl rfl rfl rfl rfl rfl (boolF (by omega))) (aFc (FactOk.bi rfl rfl rfl rfl rfl rfl (boolF (by omega))) (aFc (FactOk.bi rfl rfl rfl rfl rfl rfl (boolF (by omega))) aFn)))))) (aCc (callNameF rfl rfl h6) aCn) ?_ hh
                exact ostop_end e34 fun w2 hLow hIn => ⟨(by first | (rw [decide_eq_true (show validM x from ⟨by assumption, by assumption, by omega, by omega, by omega, by omega, by omega, by omega, by omega, by omega⟩)]; rfl) | (rw [decide_eq_false (fun h : validM x => absurd h.1 (by assumption))]; rfl) | (rw [decide_eq_false (fun h : validM x => absurd h.2.1 (by first | assumption | exact not_not_intro (by assumption)))]; rfl) | (rw [decide_eq_false (fun h : validM x => by have := h.2.2; omega)]; rfl)), hLow⟩
end ValMG
end AE
end Go.Proofs.YtblhndlmgibljaaDoor

/- isMaterial, as a fact. -/
namespace Go.Proofs.YtblhndlmgibljaaDoor
open Go Go.Proofs Go.RowKit
namespace AE
variable [Sig]
theorem callValT {x : Value} {m : Mt} (hp : plainSL [x] = true) (ev : interpL [x] = [M.val m]) (hK : KindsM Sig.imm) (h : validM m) : CallFactOk Tryd.prog (29, [x], .bool true) :=
  callAny (a := #[M.val m]) hp rfl ev rfl fun w hw => (ValMG.any w m (hK.mono hw)).mono fun e w' h' => by rw [decide_eq_true h] at h'; exact h'
theorem callValF {x : Value} {m : Mt} (hp : plainSL [x] = true) (ev : interpL [x] = [M.val m]) (hK : KindsM Sig.imm) (h : ¬ validM m) : CallFactOk Tryd.prog (29, [x], .bool false) :=
  callAny (a := #[M.val m]) hp rfl ev rfl fun w hw => (ValMG.any w m (hK.mono hw)).mono fun e w' h' => by rw [decide_eq_false h] at h'; exact h'
end AE
end Go.Proofs.YtblhndlmgibljaaDoor

/- the walk of Check -/
namespace Go.Proofs.YtblhndlmgibljaaDoor
open Go Go.Proofs Go.RowKit
set_option maxRecDepth 100000
namespace AE
namespace ChkG
noncomputable def body : Code := (Tryd.f11.body).getD .skip
def N : Nat := 42
noncomputable abbrev at' (N : Nat) (F : List (FOp × Value)) (C : List (FuncId × List Value × Value)) (c : Code) (s : ASt) : Option Stop := evalTo Tryd.prog F C N 1000 10 c s
noncomputable abbrev leave' (N : Nat) (F : List (FOp × Value)) (C : List (FuncId × List Value × Value)) (ks : List KI) (o : Option Stop) : Option Stop := evalLeave Tryd.prog F C N 1000 10 ks o
noncomputable abbrev ops' (N : Nat) (F : List (FOp × Value)) (C : List (FuncId × List Value × Value)) (r : List Oper) (ops : Array Oper) (ks : List KI) (s : ASt) : Option Stop := evalOps Tryd.prog F C N 1000 10 r ops ks s
def s0 : ASt := { sl := slots [(0, symv 0)], ms := [], A := start }
def F0 : List (FOp × Value) := [(.tru (.bool true), .bool true),
    (.len #[22] 3 (symv 0), symv 1),
    (.bin .gtr 3 (symv 1) (.int .i64 256), .bool true)]
def C0 : List (FuncId × List Value × Value) := []
theorem e0 : endVal Tryd.prog Tryd.f11 (at' 42 F0 C0 body s0) = some (.tuple ⟨[.int .i64 (-1), .int .i64 2]⟩) := by kernel_rfl
def F1 : List (FOp × Value) := [(.tru (.bool true), .bool true),
    (.len #[22] 3 (symv 0), symv 1),
    (.bin .gtr 3 (symv 1) (.int .i64 256), .bool false),
    (.bin .eql 3 (symv 1) (.int .i64 0), .bool true)]
def C1 : List (FuncId × List Value × Value) := []
theorem e1 : endVal Tryd.prog Tryd.f11 (at' 42 F1 C1 body s0) = some (.tuple ⟨[.int .i64 (-1), .int .i64 1]⟩) := by kernel_rfl
def F2 : List (FOp × Value) := [(.tru (.bool true), .bool true),
    (.len #[22] 3 (symv 0), symv 1),
    (.bin .gtr 3 (symv 1) (.int .i64 256), .bool false),
    (.bin .eql 3 (symv 1) (.int .i64 0), .bool false),
    (.ixa 22 (symv 0) (.int .i64 0), symv 2),
    (.ld 35 (symv 2), .agg ⟨[symv 3, symv 4, symv 5, symv 6, symv 7, symv 8, symv 9, symv 10]⟩),
    (.bin .neq 35 (.agg ⟨[symv 3, symv 4, symv 5, symv 6, symv 7, symv 8, symv 9, symv 10]⟩) (.agg ⟨[strV [97, 105, 114], .bool false, .bool false, .bool false, .int .i64 1, .int .i64 0, .int .i64 0, .int .i64 0]⟩), .bool false)]
def C2 : List (FuncId × List Value × Value) := []
theorem e2 : mkmOf (at' 42 F2 C2 body s0) = some 49 := by kernel_rfl
noncomputable abbrev so0 := at' 42 F2 C2 body s0
noncomputable def bk0 : List Bk := []
def hd0 : Sl := slots [(3, .int .i64 0), (2, .int .i64 0), (0, symv 0)]
def hp0 : Sl := match aput 42 hd0 (some 21) (symv 11) with | some s => s | none => .nil
theorem e3 : trAll (stopSt so0) hd0 bk0 = some [(symv 0, symv 0)] := by kernel_rfl
theorem e4 : aput 42 hd0 (stopDst so0) (symv 11) = some hp0 := by kernel_rfl
def F3 : List (FOp × Value) := [(.tru (.bool true), .bool true),
    (.len #[22] 3 (symv 0), symv 1)]
def C3 : List (FuncId × List Value × Value) := []
noncomputable def bks0 : List Bk := []
def head0 : Sl := slots [(24, symv 12), (23, symv 1), (22, symv 0), (4, symv 11)]
noncomputable abbrev at0 := ops' 42 F3 C3 (stopRest so0) (stopOps so0) (stopKs so0) { sl := hp0, ms := [], A := mkAS bk0 }
theorem e5 : headObs head0 bks0 at0 = some [(symv 1, symv 1), (symv 11, symv 11), (.int .i64 0, symv 12), (symv 0, symv 0)] := by kernel_rfl
def F4 : List (FOp × Value) := [(.tru (.bool true), .bool true),
    (.bin .lss 3 (symv 12) (symv 1), .bool true),
    (.ixa 22 (symv 0) (symv 12), symv 13),
    (.ld 35 (symv 13), .agg ⟨[symv 14, symv 15, symv 16, symv 17, symv 18, symv 19, symv 20, symv 21]⟩),
    (.lk 49 (symv 11) (symv 14) false, .bool true)]
def C4 : List (FuncId × List Value × Value) := [(29, [.agg ⟨[symv 14, symv 15, symv 16, symv 17, symv 18, symv 19, symv 20, symv 21]⟩], .bool true)]
def F5 : List (FOp × Value) := [(.tru (.bool true), .bool true)]
def C5 : List (FuncId × List Value × Value) := []
theorem e6 : endVal Tryd.prog Tryd.f11 (leave' 42 F5 C5 (stopKs at0) (at' 42 F4 C4 (stopCode at0) (headSt head0 bks0))) = some (.tuple ⟨[symv 12, .int .i64 10]⟩) := by kernel_rfl
def F6 : List (FOp × Value) := [(.tru (.bool true), .bool true),
    (.bin .lss 3 (symv 12) (symv 1), .bool true),
    (.ixa 22 (symv 0) (symv 12), symv 13),
    (.ld 35 (symv 13), .agg ⟨[symv 14, symv 15, symv 16, symv 17, symv 18, symv 19, symv 20, symv 21]⟩),
    (.lk 49 (symv 11) (symv 14) false, .bool false)]
def C6 : List (FuncId × List Value × Value) := [(29, [.agg ⟨[symv 14, symv 15, symv 16, symv 17, symv 18, symv 19, symv 20, symv 21]⟩], .bool true)]
theorem e7 : msetOf (at' 42 F6 C6 (stopCode at0) (headSt head0 bks0)) = some (49, (symv 11), (symv 14), .bool true) := by kernel_rfl
noncomputable abbrev so1 := at' 42 F6 C6 (stopCode at0) (headSt head0 bks0)
noncomputable def bk1 : List Bk := []
def hd1 : Sl := slots [(24, symv 12), (23, symv 1), (22, symv 0), (4, symv 11)]
def hp1 : Sl := match aput 42 hd1 none (.tuple ⟨[]⟩) with | some s => s | none => .nil
theorem e8 : trAll (stopSt so1) hd1 bk1 = some [(symv 1, symv 1), (symv 11, symv 11), (symv 12, symv 12), (symv 0, symv 0)] := by kernel_rfl
theorem e9 : aput 42 hd1 (stopDst so1) (.tuple ⟨[]⟩) = some hp1 := by kernel_rfl
def F7 : List (FOp × Value) := [(.tru (.bool true), .bool true),
    (.bin .add 3 (symv 12) (.int .i64 1), symv 22)]
def C7 : List (FuncId × List Value × Value) := []
theorem e10 : backObs head0 bks0 (ops' 42 F7 C7 (stopRest so1) (stopOps so1) (stopKs so1) { sl := hp1, ms := [], A := mkAS bk1 }) = some [(symv 1, symv 1), (symv 11, symv 11), (symv 22, symv 12), (symv 0, symv 0)] := by kernel_rfl
def F8 : List (FOp × Value) := [(.tru (.bool true), .bool true),
    (.bin .lss 3 (symv 12) (symv 1), .bool true),
    (.ixa 22 (symv 0) (symv 12), symv 13),
    (.ld 35 (symv 13), .agg ⟨[symv 14, symv 15, symv 16, symv 17, symv 18, symv 19, symv 20, symv 21]⟩)]
def C8 : List (FuncId × List Value × Value) := [(29, [.agg ⟨[symv 14, symv 15, symv 16, symv 17, symv 18, symv 19, symv 20, symv 21]⟩], .bool false)]
theorem e11 : endVal Tryd.prog Tryd.f11 (leave' 42 F5 C5 (stopKs at0) (at' 42 F8 C8 (stopCode at0) (headSt head0 bks0))) = some (.tuple ⟨[symv 12, .int .i64 1]⟩) := by kernel_rfl
def F9 : List (FOp × Value) := [(.tru (.bool true), .bool true),
    (.bin .lss 3 (symv 12) (symv 1), .bool false)]
def C9 : List (FuncId × List Value × Value) := []
theorem e12 : endVal Tryd.prog Tryd.f11 (leave' 42 F5 C5 (stopKs at0) (at' 42 F9 C9 (stopCode at0) (headSt head0 bks0))) = some (.tuple ⟨[.int .i64 0, .int .i64 0]⟩) := by kernel_rfl
def F10 : List (FOp × Value) := [(.tru (.bool true), .bool true),
    (.len #[22] 3 (symv 0), symv 1),
    (.bin .gtr 3 (symv 1) (.int .i64 256), .bool false),
    (.bin .eql 3 (symv 1) (.int .i64 0), .bool false),
    (.ixa 22 (symv 0) (.int .i64 0), symv 2),
    (.ld 35 (symv 2), .agg ⟨[symv 3, symv 4, symv 5, symv 6, symv 7, symv 8, symv 9, symv 10]⟩),
    (.bin .neq 35 (.agg ⟨[symv 3, symv 4, symv 5, symv 6, symv 7, symv 8, symv 9, symv 10]⟩) (.agg ⟨[strV [97, 105, 114], .bool false, .bool false, .bool false, .int .i64 1, .int .i64 0, .int .i64 0, .int .i64 0]⟩), .bool true)]
def C10 : List (FuncId × List Value × Value) := []
theorem e13 : endVal Tryd.prog Tryd.f11 (at' 42 F10 C10 body s0) = some (.tuple ⟨[.int .i64 0, .int .i64 1]⟩) := by kernel_rfl
@[reducible] noncomputable def vL (l : List Mt) (a_l : Option Addr) (c_l : Nat) (b : List Bs) (i : Nat) (b0 : List Bs) (g0 : Nat) (b1 : List Bs) : List Value := [.slice a_l l.length c_l, .int .i64 ((l.length : Nat) : Int), cellPtr (.slice a_l l.length c_l) (0 * 8), strV (l.getD (0) default).1, .bool (l.getD (0) default).2.1, .bool (l.getD (0) default).2.2.1, .bool (l.getD (0) default).2.2.2.1, .int .i64 (l.getD (0) default).2.2.2.2.1, .int .i64 (l.getD (0) default).2.2.2.2.2.1, .int .i64 (l.getD (0) default).2.2.2.2.2.2.1, .int .i64 (l.getD (0) default).2.2.2.2.2.2.2, .map (some g0), .int .i64 ((i : Nat) : Int), cellPtr (.slice a_l l.length c_l) (i * 8), strV (l.getD (i) default).1, .bool (l.getD (i) default).2.1, .bool (l.getD (i) default).2.2.1, .bool (l.getD (i) default).2.2.2.1, .int .i64 (l.getD (i) default).2.2.2.2.1, .int .i64 (l.getD (i) default).2.2.2.2.2.1, .int .i64 (l.getD (i) default).2.2.2.2.2.2.1, .int .i64 (l.getD (i) default).2.2.2.2.2.2.2, .int .i64 ((i + 1 : Nat) : Int)]
@[reducible] noncomputable def sg (M : Mem) (l : List Mt) (a_l : Option Addr) (c_l : Nat) (b : List Bs) (i : Nat) (b0 : List Bs) (g0 : Nat) (b1 : List Bs) : Sig := sgL M (vL l a_l c_l b i b0 g0 b1)
set_option maxHeartbeats 4000000 in
theorem any (W : World) {v_l : Value} {l : List Mt} (hl : Arr (heapOf W) 8 encM v_l l) (hK : KindsM (heapOf W)) : Calls Tryd.prog 11 #[v_l] W fun e w' => e = .returned (.tuple #[.int .i64 (chkM l).1, .int .i64 (chkM l).2]) ∧ Low W.heap.size W w' := by
  obtain ⟨a_l, c_l, rfl⟩ := hl.slice
  refine @walk_enter (sg (heapOf W) l a_l c_l [] 0 [] 0 []) Tryd.prog 11 Tryd.f11 body [symv 0] (slots [(0, symv 0)]) N W _ Tryd.func11 (by kernel_rfl) (by kernel_rfl) (by kernel_rfl) (by kernel_rfl) (immW_sgL W _) fun a hh => ?_
  letI := (sg (heapOf W) l a_l c_l [] 0 [] 0 [])
  by_cases h0 : 256 < ((l.length : Nat) : Int)
  · refine walk_to (F := F0) (T := C0) (fuel := 1000) (d := 10) mixed (aFc (FactOk.tru rfl rfl) (aFc (FactOk.arrLen hl rfl rfl underMl rfl rfl) (aFc (FactOk.bi rfl rfl rfl rfl rfl rfl (boolT (by omega))) aFn))) aCn ?_ hh
    exact ostop_end e0 fun w2 hLow hIn => ⟨(by refine congrArg Ending.returned ?_; first | (rw [chkM_long (by omega)]; rfl) | (rw [chkM_nil (by omega) (by omega)]; rfl) | (rw [chkM_air (by omega) (by omega) (by assumption)]; rfl) | (rw [chkM_bad (i := i) (by omega) (by omega) (by assumption) (by omega) hI.2.2.2.2 (by assumption)]; rfl) | (rw [chkM_two (i := i) (by omega) (by omega) (by assumption) (by omega) hI.2.2.2.2 (by assumption) (by rw [← hI.2.2.1]; assumption)]; rfl) | (rw [chkM_ok (by omega) (by omega) (by assumption) (fun j hj => hI.2.2.2.2 j (by omega))]; rfl)), hLow⟩
  · by_cases h1 : ((l.length : Nat) : Int) = 0
    · refine walk_to (F := F1) (T := C1) (fuel := 1000) (d := 10) mixed (aFc (FactOk.tru rfl rfl) (aFc (FactOk.arrLen hl rfl rfl underMl rfl rfl) (aFc (FactOk.bi rfl rfl rfl rfl rfl rfl (boolF (by omega))) (aFc (FactOk.bi rfl rfl rfl rfl rfl rfl (boolT (by omega))) aFn)))) aCn ?_ hh
      exact ostop_end e1 fun w2 hLow hIn => ⟨(by refine congrArg Ending.returned ?_; first | (rw [chkM_long (by omega)]; rfl) | (rw [chkM_nil (by omega) (by omega)]; rfl) | (rw [chkM_air (by omega) (by omega) (by assumption)]; rfl) | (rw [chkM_bad (i := i) (by omega) (by omega) (by assumption) (by omega) hI.2.2.2.2 (by assumption)]; rfl) | (rw [chkM_two (i := i) (by omega) (by omega) (by assumption) (by omega) hI.2.2.2.2 (by assumption) (by rw [← hI.2.2.1]; assumption)]; rfl) | (rw [chkM_ok (by omega) (by omega) (by assumption) (fun j hj => hI.2.2.2.2 j (by omega))]; rfl)), hLow⟩
    · by_cases h2 : (l.getD (0) default) = ((([97, 105, 114] : Bs), false, false, false, 1, 0, 0, 0) : Mt)
      · refine walk_to (F := F2) (T := C2) (fuel := 1000) (d := 10) mixed (aFc (FactOk.tru rfl rfl) (aFc (FactOk.arrLen hl rfl rfl underMl rfl rfl) (aFc (FactOk.bi rfl rfl rfl rfl rfl rfl (boolF (by omega))) (aFc (FactOk.bi rfl rfl rfl rfl rfl rfl (boolF (by omega))) (aFc (FactOk.arrIxa hl (show 0 < l.length by omega) rfl rfl rfl underMl sizeM rfl rfl rfl) (aFc (FactOk.arrLd hl (getSome (show 0 < l.length by omega)) rfl rfl aggM sizeM rfl rfl rfl) (aFc (neM rfl rfl rfl rfl (by rw [decide_eq_true h2]; rfl)) aFn))))))) aCn ?_ hh
        obtain ⟨b0, hb0⟩ : ∃ b0 : List Bs, b0 = [] := ⟨_, rfl⟩
        refine ostop_makeMap (vals2 := fun gV => (vL l a_l c_l [] 0 b0 gV [])) hb0 e2 e3 e4 rfl (fun _ gV => (meet_cons (by first | exact meetV (.slice a_l l.length c_l) rfl rfl | exact meetI rfl rfl (by omega)) meet_nil)) (fun _ _ => rfl) ?_
        intro M0 g0 hO0 hK0 aC w hh
        have hM0 := hK0.up (fun i h => by cases h) (Nat.le_refl _) (fun _ _ h => h)
        letI := (sg M0 l a_l c_l [] 0 b0 g0 [])
        refine walk_ops (F := F3) (T := C3) (fuel := 1000) (d := 10) mixed (aFc (FactOk.tru rfl rfl) (aFc (FactOk.arrLen (hl.mono hM0) rfl rfl underMl rfl rfl) aFn)) aCn ?_ hh
        refine ostop_loop (sg := (fun (⟨M, b, i⟩ : Mem × List Bs × Nat) => sg M l a_l c_l b i b0 g0 [])) (fun (⟨M, b, i⟩ : Mem × List Bs × Nat) => OMap W.heap.size M (.map (some g0)) b ∧ (∀ i o, heapOf W i = some o → M i = some o) ∧ b = namesTo l i ∧ i ≤ l.length ∧ ∀ j, j < i → ¬ badAt l j) (fun (⟨M, b, i⟩ : Mem × List Bs × Nat) => l.length - i) ⟨M0, b0, 0⟩ e5 (meet_cons (by first | exact meetV (.int .i64 ((l.length : Nat) : Int)) rfl rfl | exact meetI rfl rfl (by omega)) (meet_cons (by exact meetV (.map (some g0)) rfl rfl) (meet_cons (by first | rfl | exact meetInt (by omega)) (meet_cons (by first | exact meetV (.slice a_l l.length c_l) rfl rfl | exact meetI rfl rfl (by omega)) meet_nil)))) (fun _ _ h => h) (by exact ⟨hO0, hM0, hb0, Nat.zero_le _, fun j h => absurd h (Nat.not_lt_zero _)⟩) ?_
        intro ⟨M, b, i⟩ hI aC w hh
        letI := (sg M l a_l c_l b i b0 g0 [])
        have hO := hI.1
        have hM := hI.2.1
        by_cases q0 : ((i : Nat) : Int) < ((l.length : Nat) : Int)
        · by_cases q1 : validM (l.getD (i) default)
          · by_cases q2 : (l.getD (i) default).1 ∈ b
            · refine walk_to (F := F4) (T := C4) (fuel := 1000) (d := 10) mixed (aFc (FactOk.tru rfl rfl) (aFc (FactOk.bi rfl rfl rfl rfl rfl rfl (boolT (by omega))) (aFc (FactOk.arrIxa (hl.mono hM) (show i < l.length by omega) rfl rfl rfl underMl sizeM rfl rfl rfl) (aFc (FactOk.arrLd (hl.mono hM) (getSome (show i < l.length by omega)) rfl rfl aggM sizeM rfl rfl rfl) (aFc (FactOk.lkIn rfl rfl mapT1 mapT2 mapCk hO rfl rfl q2) aFn))))) (aCc (callValT rfl rfl (by first | exact hK | exact hK.mono (by assumption)) q1) aCn) ?_ hh
              refine walk_leave (F := F5) (T := C5) (fuel := 1000) (d := 10) mixed (aFc (FactOk.tru rfl rfl) aFn) aCn ?_
              exact ostop_end e6 fun w2 hLow hIn => ⟨(by refine congrArg Ending.returned ?_; first | (rw [chkM_long (by omega)]; rfl) | (rw [chkM_nil (by omega) (by omega)]; rfl) | (rw [chkM_air (by omega) (by omega) (by assumption)]; rfl) | (rw [chkM_bad (i := i) (by omega) (by omega) (by assumption) (by omega) hI.2.2.2.2 (by assumption)]; rfl) | (rw [chkM_two (i := i) (by omega) (by omega) (by assumption) (by omega) hI.2.2.2.2 (by assumption) (by rw [← hI.2.2.1]; assumption)]; rfl) | (rw [chkM_ok (by omega) (by omega) (by assumption) (fun j hj => hI.2.2.2.2 j (by omega))]; rfl)), hLow⟩
            · refine walk_to (F := F6) (T := C6) (fuel := 1000) (d := 10) mixed (aFc (FactOk.tru rfl rfl) (aFc (FactOk.bi rfl rfl rfl rfl rfl rfl (boolT (by omega))) (aFc (FactOk.arrIxa (hl.mono hM) (show i < l.length by omega) rfl rfl rfl underMl sizeM rfl rfl rfl) (aFc (FactOk.arrLd (hl.mono hM) (getSome (show i < l.length by omega)) rfl rfl aggM sizeM rfl rfl rfl) (aFc (FactOk.lkOut rfl rfl mapT1 mapT2 mapZ mapCk hO rfl rfl q2) aFn))))) (aCc (callValT rfl rfl (by first | exact hK | exact hK.mono (by assumption)) q1) aCn) ?_ hh
              obtain ⟨b1, hb1⟩ : ∃ b1 : List Bs, b1 = b ++ [(l.getD (i) default).1] := ⟨_, rfl⟩
              refine ostop_mapSet (u := .map (some g0)) (n := (l.getD (i) default).1) (ns := b) (ns' := b1) (vals2 := (vL l a_l c_l b i b0 g0 b1)) hb1 e7 mapT1 mapT2 mapCk e8 e9 rfl rfl rfl rfl hO (by assumption) (fun _ => (meet_cons (by first | exact meetV (.int .i64 ((l.length : Nat) : Int)) rfl rfl | exact meetI rfl rfl (by omega)) (meet_cons (by exact meetV (.map (some g0)) rfl rfl) (meet_cons (by first | exact meetV (.int .i64 ((i : Nat) : Int)) rfl rfl | exact meetI rfl rfl (by omega)) (meet_cons (by first | exact meetV (.slice a_l l.length c_l) rfl rfl | exact meetI rfl rfl (by omega)) meet_nil))))) ?_
              intro M1 hO1 hK1 aC w hh
              have hM1 := hK1.up (fun i h => (hO.known i h).2) (Nat.le_refl _) hM
              letI := (sg M1 l a_l c_l b i b0 g0 b1)
              refine walk_ops (F := F7) (T := C7) (fuel := 1000) (d := 10) mixed (aFc (FactOk.tru rfl rfl) (aFc (FactOk.bi rfl rfl rfl rfl rfl rfl (intI (by omega) (by omega) (by omega))) aFn)) aCn ?_ hh
              exact ostop_backM (s1 := (sg M1 l a_l c_l b i b0 g0 b1)) (sg := (fun (⟨M, b, i⟩ : Mem × List Bs × Nat) => sg M l a_l c_l b i b0 g0 [])) (I := fun (⟨M, b, i⟩ : Mem × List Bs × Nat) => OMap W.heap.size M (.map (some g0)) b ∧ (∀ i o, heapOf W i = some o → M i = some o) ∧ b = namesTo l i ∧ i ≤ l.length ∧ ∀ j, j < i → ¬ badAt l j) (μ := fun (⟨M, b, i⟩ : Mem × List Bs × Nat) => l.length - i) (x := ⟨M, b, i⟩) ⟨M1, b1, i + 1⟩ e10 (meet_cons (by first | exact meetV (.int .i64 ((l.length : Nat) : Int)) rfl rfl | exact meetI rfl rfl (by omega)) (meet_cons (by exact meetV (.map (some g0)) rfl rfl) (meet_cons (by first | exact meetV (.int .i64 ((i + 1 : Nat) : Int)) rfl rfl | exact meetI rfl rfl (by omega)) (meet_cons (by first | exact meetV (.slice a_l l.length c_l) rfl rfl | exact meetI rfl rfl (by omega)) meet_nil)))) (fun _ _ h => h) (by exact ⟨hO1, hM1, by rw [hb1, hI.2.2.1, namesTo_succ (by omega)], by omega, fun j hj => by rcases Nat.lt_succ_iff_lt_or_eq.1 hj with h | rfl; exact hI.2.2.2.2 j h; exact badAt_no (by assumption) (by rw [← hI.2.2.1]; assumption)⟩) (by (try dsimp only); omega)
          · refine walk_to (F := F8) (T := C8) (fuel := 1000) (d := 10) mixed (aFc (FactOk.tru rfl rfl) (aFc (FactOk.bi rfl rfl rfl rfl rfl rfl (boolT (by omega))) (aFc (FactOk.arrIxa (hl.mono hM) (show i < l.length by omega) rfl rfl rfl underMl sizeM rfl rfl rfl) (aFc (FactOk.arrLd (hl.mono hM) (getSome (show i < l.length by omega)) rfl rfl aggM sizeM rfl rfl rfl) aFn)))) (aCc (callValF rfl rfl (by first | exact hK | exact hK.mono (by assumption)) q1) aCn) ?_ hh
            refine walk_leave (F := F5) (T := C5) (fuel := 1000) (d := 10) mixed (aFc (FactOk.tru rfl rfl) aFn) aCn ?_
            exact ostop_end e11 fun w2 hLow hIn => ⟨(by refine congrArg Ending.returned ?_; first | (rw [chkM_long (by omega)]; rfl) | (rw [chkM_nil (by omega) (by omega)]; rfl) | (rw [chkM_air (by omega) (by omega) (by assumption)]; rfl) | (rw [chkM_bad (i := i) (by omega) (by omega) (by assumption) (by omega) hI.2.2.2.2 (by assumption)]; rfl) | (rw [chkM_two (i := i) (by omega) (by omega) (by assumption) (by omega) hI.2.2.2.2 (by assumption) (by rw [← hI.2.2.1]; assumption)]; rfl) | (rw [chkM_ok (by omega) (by omega) (by assumption) (fun j hj => hI.2.2.2.2 j (by omega))]; rfl)), hLow⟩
        · refine walk_to (F := F9) (T := C9) (fuel := 1000) (d := 10) mixed (aFc (FactOk.tru rfl rfl) (aFc (FactOk.bi rfl rfl rfl rfl rfl rfl (boolF (by omega))) aFn)) aCn ?_ hh
          refine walk_leave (F := F5) (T := C5) (fuel := 1000) (d := 10) mixed (aFc (FactOk.tru rfl rfl) aFn) aCn ?_
          exact ostop_end e12 fun w2 hLow hIn => ⟨(by refine congrArg Ending.returned ?_; first | (rw [chkM_long (by omega)]; rfl) | (rw [chkM_nil (by omega) (by omega)]; rfl) | (rw [chkM_air (by omega) (by omega) (by assumption)]; rfl) | (rw [chkM_bad (i := i) (by omega) (by omega) (by assumption) (by omega) hI.2.2.2.2 (by assumption)]; rfl) | (rw [chkM_two (i := i) (by omega) (by omega) (by assumption) (by omega) hI.2.2.2.2 (by assumption) (by rw [← hI.2.2.1]; assumption)]; rfl) | (rw [chkM_ok (by omega) (by omega) (by assumption) (fun j hj => hI.2.2.2.2 j (by omega))]; rfl)), hLow⟩
      · refine walk_to (F := F10) (T := C10) (fuel := 1000) (d := 10) mixed (aFc (FactOk.tru rfl rfl) (aFc (FactOk.arrLen hl rfl rfl underMl rfl rfl) (aFc (FactOk.bi rfl rfl rfl rfl rfl rfl (boolF (by omega))) (aFc (FactOk.bi rfl rfl rfl rfl rfl rfl (boolF (by omega))) (aFc (FactOk.arrIxa hl (show 0 < l.length by omega) rfl rfl rfl underMl sizeM rfl rfl rfl) (aFc (FactOk.arrLd hl (getSome (show 0 < l.length by omega)) rfl rfl aggM sizeM rfl rfl rfl) (aFc (neM rfl rfl rfl rfl (by rw [decide_eq_false h2]; rfl)) aFn))))))) aCn ?_ hh
        exact ostop_end e13 fun w2 hLow hIn => ⟨(by refine congrArg Ending.returned ?_; first | (rw [chkM_long (by omega)]; rfl) | (rw [chkM_nil (by omega) (by omega)]; rfl) | (rw [chkM_air (by omega) (by omega) (by assumption)]; rfl) | (rw [chkM_bad (i := i) (by omega) (by omega) (by assumption) (by omega) hI.2.2.2.2 (by assumption)]; rfl) | (rw [chkM_two (i := i) (by omega) (by omega) (by assumption) (by omega) hI.2.2.2.2 (by assumption) (by rw [← hI.2.2.1]; assumption)]; rfl) | (rw [chkM_ok (by omega) (by omega) (by assumption) (fun j hj => hI.2.2.2.2 j (by omega))]; rfl)), hLow⟩
end ChkG
end AE
end Go.Proofs.YtblhndlmgibljaaDoor

/- the sanity of chapter 6 -/
namespace Go.Proofs.YtblhndlmgibljaaDoor
open Go Go.Proofs Go.RowKit
set_option maxRecDepth 100000
namespace AE
namespace SanG
noncomputable def body : Code := (Tryd.f9.body).getD .skip
def N : Nat := 184
noncomputable abbrev at' (N : Nat) (F : List (FOp × Value)) (C : List (FuncId × List Value × Value)) (c : Code) (s : ASt) : Option Stop := evalTo Tryd.prog F C N 100000 30 c s
def s0 : ASt := { sl := slots [], ms := [], A := start }
def F0 : List (FOp × Value) := [(.ld 78 (symv 1000000), .agg ⟨[strV [103, 97, 115], .bool false, .bool false, .bool false, strV [115, 111, 108, 105, 100], .bool true, .bool false, .bool false, strV [102, 97, 108, 108, 105, 110, 103], .bool true, .bool false, .bool true, strV [108, 105, 113, 117, 105, 100], .bool false, .bool true, .bool false]⟩),
    (.slc 78 (symv 1000000) none none none, symv 0),
    (.len #[83] 3 (symv 0), .int .i64 4),
    (.ixa 83 (symv 0) (.int .i64 0), symv 1),
    (.ld 61 (symv 1), .agg ⟨[strV [103, 97, 115], .bool false, .bool false, .bool false]⟩),
    (.ixa 78 (symv 1000000) (.int .i64 0), symv 1),
    (.fa 61 (symv 1) 1, symv 2),
    (.fa 61 (symv 1) 2, symv 3),
    (.fa 61 (symv 1) 3, symv 4),
    (.ld 4 (symv 2), .bool false),
    (.ld 4 (symv 3), .bool false),
    (.ld 4 (symv 4), .bool false),
    (.ixa 83 (symv 0) (.int .i64 1), symv 5),
    (.ld 61 (symv 5), .agg ⟨[strV [115, 111, 108, 105, 100], .bool true, .bool false, .bool false]⟩),
    (.ixa 78 (symv 1000000) (.int .i64 1), symv 5),
    (.fa 61 (symv 5) 1, symv 6),
    (.fa 61 (symv 5) 2, symv 7),
    (.fa 61 (symv 5) 3, symv 8),
    (.ld 4 (symv 6), .bool true),
    (.ld 4 (symv 7), .bool false),
    (.ld 4 (symv 8), .bool false)]
def C0 : List (FuncId × List Value × Value) := [(29, [.agg ⟨[strV [97, 105, 114], .bool false, .bool false, .bool false, .int .i64 1, .int .i64 0, .int .i64 0, .int .i64 0]⟩], .bool true),
    (29, [.agg ⟨[strV [115, 116, 111, 110, 101], .bool true, .bool false, .bool false, .int .i64 16, .int .i64 0, .int .i64 0, .int .i64 0]⟩], .bool true),
    (29, [.agg ⟨[strV [103, 108, 97, 115, 115], .bool true, .bool false, .bool false, .int .i64 1, .int .i64 0, .int .i64 0, .int .i64 0]⟩], .bool true),
    (29, [.agg ⟨[strV [108, 97, 109, 112], .bool true, .bool false, .bool false, .int .i64 16, .int .i64 15, .int .i64 14, .int .i64 10]⟩], .bool true),
    (29, [.agg ⟨[strV [115, 97, 110, 100], .bool true, .bool false, .bool true, .int .i64 16, .int .i64 0, .int .i64 0, .int .i64 0]⟩], .bool true),
    (29, [.agg ⟨[strV [119, 97, 116, 101, 114], .bool false, .bool true, .bool false, .int .i64 3, .int .i64 0, .int .i64 0, .int .i64 0]⟩], .bool true),
    (29, [.agg ⟨[strV [108, 101, 97, 118, 101, 115], .bool true, .bool false, .bool false, .int .i64 2, .int .i64 0, .int .i64 0, .int .i64 0]⟩], .bool true),
    (29, [.agg ⟨[strV [101, 109, 98, 101, 114], .bool true, .bool false, .bool false, .int .i64 16, .int .i64 9, .int .i64 3, .int .i64 0]⟩], .bool true),
    (29, [.agg ⟨[strV [102, 111, 103], .bool false, .bool false, .bool false, .int .i64 2, .int .i64 0, .int .i64 0, .int .i64 0]⟩], .bool true),
    (27, [strV [97, 105, 114, 32, 103, 97, 115, 32, 102, 97, 100, 101, 32, 48, 49, 10]], .tuple ⟨[.slice none 0 0, .int .i64 1, .int .i64 3]⟩),
    (27, [strV [97, 105, 114, 32, 103, 97, 115, 32, 102, 97, 100, 101, 32, 50, 10]], .tuple ⟨[.slice none 0 0, .int .i64 1, .int .i64 1]⟩)]
theorem c0_0 : @evalCall Tryd.prog _ ⟨F0⟩ (noCalls _) 100000 30 29 [.agg ⟨[strV [97, 105, 114], .bool false, .bool false, .bool false, .int .i64 1, .int .i64 0, .int .i64 0, .int .i64 0]⟩] = some (.bool true) := by kernel_rfl
theorem c0_1 : @evalCall Tryd.prog _ ⟨F0⟩ (noCalls _) 100000 30 29 [.agg ⟨[strV [115, 116, 111, 110, 101], .bool true, .bool false, .bool false, .int .i64 16, .int .i64 0, .int .i64 0, .int .i64 0]⟩] = some (.bool true) := by kernel_rfl
theorem c0_2 : @evalCall Tryd.prog _ ⟨F0⟩ (noCalls _) 100000 30 29 [.agg ⟨[strV [103, 108, 97, 115, 115], .bool true, .bool false, .bool false, .int .i64 1, .int .i64 0, .int .i64 0, .int .i64 0]⟩] = some (.bool true) := by kernel_rfl
theorem c0_3 : @evalCall Tryd.prog _ ⟨F0⟩ (noCalls _) 100000 30 29 [.agg ⟨[strV [108, 97, 109, 112], .bool true, .bool false, .bool false, .int .i64 16, .int .i64 15, .int .i64 14, .int .i64 10]⟩] = some (.bool true) := by kernel_rfl
theorem c0_4 : @evalCall Tryd.prog _ ⟨F0⟩ (noCalls _) 100000 30 29 [.agg ⟨[strV [115, 97, 110, 100], .bool true, .bool false, .bool true, .int .i64 16, .int .i64 0, .int .i64 0, .int .i64 0]⟩] = some (.bool true) := by kernel_rfl
theorem c0_5 : @evalCall Tryd.prog _ ⟨F0⟩ (noCalls _) 100000 30 29 [.agg ⟨[strV [119, 97, 116, 101, 114], .bool false, .bool true, .bool false, .int .i64 3, .int .i64 0, .int .i64 0, .int .i64 0]⟩] = some (.bool true) := by kernel_rfl
theorem c0_6 : @evalCall Tryd.prog _ ⟨F0⟩ (noCalls _) 100000 30 29 [.agg ⟨[strV [108, 101, 97, 118, 101, 115], .bool true, .bool false, .bool false, .int .i64 2, .int .i64 0, .int .i64 0, .int .i64 0]⟩] = some (.bool true) := by kernel_rfl
theorem c0_7 : @evalCall Tryd.prog _ ⟨F0⟩ (noCalls _) 100000 30 29 [.agg ⟨[strV [101, 109, 98, 101, 114], .bool true, .bool false, .bool false, .int .i64 16, .int .i64 9, .int .i64 3, .int .i64 0]⟩] = some (.bool true) := by kernel_rfl
theorem c0_8 : @evalCall Tryd.prog _ ⟨F0⟩ (noCalls _) 100000 30 29 [.agg ⟨[strV [102, 111, 103], .bool false, .bool false, .bool false, .int .i64 2, .int .i64 0, .int .i64 0, .int .i64 0]⟩] = some (.bool true) := by kernel_rfl
theorem c0_9 : @evalCall Tryd.prog _ ⟨F0⟩ (noCalls _) 100000 30 27 [strV [97, 105, 114, 32, 103, 97, 115, 32, 102, 97, 100, 101, 32, 48, 49, 10]] = some (.tuple ⟨[.slice none 0 0, .int .i64 1, .int .i64 3]⟩) := by kernel_rfl
theorem c0_10 : @evalCall Tryd.prog _ ⟨F0⟩ (noCalls _) 100000 30 27 [strV [97, 105, 114, 32, 103, 97, 115, 32, 102, 97, 100, 101, 32, 50, 10]] = some (.tuple ⟨[.slice none 0 0, .int .i64 1, .int .i64 1]⟩) := by kernel_rfl
theorem e0 : endVal Tryd.prog Tryd.f9 (at' 184 F0 C0 body s0) = some (.bool true) := by kernel_rfl
@[reducible] noncomputable def vL  : List Value := [.slice (some ⟨0, 0, none⟩) 4 4, .pointer (some ⟨0, 0, none⟩), .pointer (some ⟨0, 1, none⟩), .pointer (some ⟨0, 2, none⟩), .pointer (some ⟨0, 3, none⟩), .pointer (some ⟨0, 4, none⟩), .pointer (some ⟨0, 5, none⟩), .pointer (some ⟨0, 6, none⟩), .pointer (some ⟨0, 7, none⟩)]
@[reducible] noncomputable def sg (M : Mem)  : Sig := sgL M (vL )
set_option maxHeartbeats 4000000 in
theorem any (W : World)  (hK : KindsM (heapOf W)) : Calls Tryd.prog 9 #[] W fun e w' => e = .returned (.bool true) ∧ Low W.heap.size W w' := by
  refine @walk_enter (sg (heapOf W)  ) Tryd.prog 9 Tryd.f9 body [] (slots []) N W _ Tryd.func9 (by kernel_rfl) (by kernel_rfl) (by kernel_rfl) (by kernel_rfl) (immW_sgL W _) fun a hh => ?_
  letI := (sg (heapOf W)  )
  have HF : AllFacts Tryd.prog F0 := (aFc (ldG hK (o := 0) (n := 16) rfl rfl (by kernel_rfl) (by kernel_rfl) rfl rfl rfl rfl) (aFc (FactOk.slcArr (e := 61) (sz := 4) (g := 0) (o := 0) rfl rfl (by kernel_rfl) (by kernel_rfl) rfl (by decide) rfl) (aFc (FactOk.len (e := 61) rfl rfl (by kernel_rfl) rfl rfl) (aFc (FactOk.ixa (e := 61) (j := 0) (n := 4) (sz := 4) rfl rfl rfl (by kernel_rfl) (by kernel_rfl) rfl rfl (by decide) rfl) (aFc (ldG hK (o := 0) (n := 4) rfl rfl (by kernel_rfl) (by kernel_rfl) rfl rfl rfl rfl) (aFc (FactOk.ixaPO (g := 0) (o := 0) (j := 0) (n := 4) (e := 61) (sz := 4) rfl rfl rfl (by kernel_rfl) (by kernel_rfl) rfl rfl (by decide) rfl) (aFc (faG (g := 0) (o := 0) (ty := 4) (off := 1) (m := 1) (by kernel_rfl) (by kernel_rfl) (by kernel_rfl) (by decide) rfl rfl rfl rfl) (aFc (faG (g := 0) (o := 0) (ty := 4) (off := 2) (m := 1) (by kernel_rfl) (by kernel_rfl) (by kernel_rfl) (by decide) rfl rfl rfl rfl) (aFc (faG (g := 0) (o := 0) (ty := 4) (off := 3) (m := 1) (by kernel_rfl) (by kernel_rfl) (by kernel_rfl) (by decide) rfl rfl rfl rfl) (aFc (ldG1 hK (o := 1) rfl rfl (by kernel_rfl) rfl rfl rfl) (aFc (ldG1 hK (o := 2) rfl rfl (by kernel_rfl) rfl rfl rfl) (aFc (ldG1 hK (o := 3) rfl rfl (by kernel_rfl) rfl rfl rfl) (aFc (FactOk.ixa (e := 61) (j := 1) (n := 4) (sz := 4) rfl rfl rfl (by kernel_rfl) (by kernel_rfl) rfl rfl (by decide) rfl) (aFc (ldG hK (o := 4) (n := 4) rfl rfl (by kernel_rfl) (by kernel_rfl) rfl rfl rfl rfl) (aFc (FactOk.ixaPO (g := 0) (o := 0) (j := 1) (n := 4) (e := 61) (sz := 4) rfl rfl rfl (by kernel_rfl) (by kernel_rfl) rfl rfl (by decide) rfl) (aFc (faG (g := 0) (o := 4) (ty := 4) (off := 1) (m := 1) (by kernel_rfl) (by kernel_rfl) (by kernel_rfl) (by decide) rfl rfl rfl rfl) (aFc (faG (g := 0) (o := 4) (ty := 4) (off := 2) (m := 1) (by kernel_rfl) (by kernel_rfl) (by kernel_rfl) (by decide) rfl rfl rfl rfl) (aFc (faG (g := 0) (o := 4) (ty := 4) (off := 3) (m := 1) (by kernel_rfl) (by kernel_rfl) (by kernel_rfl) (by decide) rfl rfl rfl rfl) (aFc (ldG1 hK (o := 5) rfl rfl (by kernel_rfl) rfl rfl rfl) (aFc (ldG1 hK (o := 6) rfl rfl (by kernel_rfl) rfl rfl rfl) (aFc (ldG1 hK (o := 7) rfl rfl (by kernel_rfl) rfl rfl rfl) aFn)))))))))))))))))))))
  refine walk_to (F := F0) (T := C0) (fuel := 100000) (d := 30) mixed HF (aCc (closedC mixed HF c0_0 rfl rfl) (aCc (closedC mixed HF c0_1 rfl rfl) (aCc (closedC mixed HF c0_2 rfl rfl) (aCc (closedC mixed HF c0_3 rfl rfl) (aCc (closedC mixed HF c0_4 rfl rfl) (aCc (closedC mixed HF c0_5 rfl rfl) (aCc (closedC mixed HF c0_6 rfl rfl) (aCc (closedC mixed HF c0_7 rfl rfl) (aCc (closedC mixed HF c0_8 rfl rfl) (aCc (closedC mixed HF c0_9 rfl rfl) (aCc (closedC mixed HF c0_10 rfl rfl) aCn))))))))))) ?_ hh
  exact ostop_end e0 fun w2 hLow hIn => ⟨(by rfl), hLow⟩
end SanG
end AE
end Go.Proofs.YtblhndlmgibljaaDoor

/- the walks of the answers -/
namespace Go.Proofs.YtblhndlmgibljaaDoor
open Go Go.Proofs Go.RowKit
set_option maxRecDepth 100000
namespace AE
namespace RFindG
noncomputable def body : Code := (Tryd.f18.body).getD .skip
def N : Nat := 21
noncomputable abbrev at' (N : Nat) (F : List (FOp × Value)) (C : List (FuncId × List Value × Value)) (c : Code) (s : ASt) : Option Stop := evalTo Tryd.prog F C N 1000 10 c s
noncomputable abbrev leave' (N : Nat) (F : List (FOp × Value)) (C : List (FuncId × List Value × Value)) (ks : List KI) (o : Option Stop) : Option Stop := evalLeave Tryd.prog F C N 1000 10 ks o
def s0 : ASt := { sl := slots [(1, symv 1), (0, symv 0)], ms := [], A := start }
def F0 : List (FOp × Value) := []
def C0 : List (FuncId × List Value × Value) := []
noncomputable def bks0 : List Bk := []
def head0 : Sl := slots [(6, symv 2), (1, symv 1), (0, symv 0)]
noncomputable abbrev at0 := at' 21 F0 C0 body s0
theorem e0 : headObs head0 bks0 at0 = some [(symv 0, symv 0), (symv 1, symv 1), (.int .i64 0, symv 2)] := by kernel_rfl
def F1 : List (FOp × Value) := [(.len #[22] 3 (symv 0), symv 3),
    (.bin .lss 3 (symv 2) (symv 3), .bool true),
    (.ixa 22 (symv 0) (symv 2), symv 4),
    (.fa 35 (symv 4) 0, symv 5),
    (.ld 9 (symv 5), symv 6),
    (.bin .eql 9 (symv 6) (symv 1), .bool true)]
def C1 : List (FuncId × List Value × Value) := []
theorem e1 : endVal Tryd.prog Tryd.f18 (leave' 21 F0 C0 (stopKs at0) (at' 21 F1 C1 (stopCode at0) (headSt head0 bks0))) = some (.tuple ⟨[symv 2, .bool true]⟩) := by kernel_rfl
def F2 : List (FOp × Value) := [(.len #[22] 3 (symv 0), symv 3),
    (.bin .lss 3 (symv 2) (symv 3), .bool true),
    (.ixa 22 (symv 0) (symv 2), symv 4),
    (.fa 35 (symv 4) 0, symv 5),
    (.ld 9 (symv 5), symv 6),
    (.bin .eql 9 (symv 6) (symv 1), .bool false),
    (.bin .add 3 (symv 2) (.int .i64 1), symv 7)]
def C2 : List (FuncId × List Value × Value) := []
theorem e2 : backObs head0 bks0 (at' 21 F2 C2 (stopCode at0) (headSt head0 bks0)) = some [(symv 0, symv 0), (symv 1, symv 1), (symv 7, symv 2)] := by kernel_rfl
def F3 : List (FOp × Value) := [(.len #[22] 3 (symv 0), symv 3),
    (.bin .lss 3 (symv 2) (symv 3), .bool false)]
def C3 : List (FuncId × List Value × Value) := []
theorem e3 : endVal Tryd.prog Tryd.f18 (leave' 21 F0 C0 (stopKs at0) (at' 21 F3 C3 (stopCode at0) (headSt head0 bks0))) = some (.tuple ⟨[.int .i64 0, .bool false]⟩) := by kernel_rfl
@[reducible] noncomputable def vL (l : List Mt) (a_l : Option Addr) (c_l : Nat) (name : Bs) (i : Nat) : List Value := [.slice a_l l.length c_l, strV name, .int .i64 ((i : Nat) : Int), .int .i64 ((l.length : Nat) : Int), cellPtr (.slice a_l l.length c_l) (i * 8), cellPtr (.slice a_l l.length c_l) (i * 8 + 0), strV (l.getD (i) default).1, .int .i64 ((i + 1 : Nat) : Int)]
@[reducible] noncomputable def sg (M : Mem) (l : List Mt) (a_l : Option Addr) (c_l : Nat) (name : Bs) (i : Nat) : Sig := sgL M (vL l a_l c_l name i)
set_option maxHeartbeats 4000000 in
theorem any (W : World) {v_l : Value} {l : List Mt} (hl : Arr (heapOf W) 8 encM v_l l) (name : Bs) (hn : l.length ≤ 1000000) : Calls Tryd.prog 18 #[v_l, strV name] W fun e w' => e = .returned (.tuple #[.int .i64 (max 0 (idxN l name)), .bool (decide (0 ≤ idxN l name))]) ∧ Low W.heap.size W w' := by
  obtain ⟨a_l, c_l, rfl⟩ := hl.slice
  refine @walk_enter (sg (heapOf W) l a_l c_l name 0) Tryd.prog 18 Tryd.f18 body [symv 0, symv 1] (slots [(1, symv 1), (0, symv 0)]) N W _ Tryd.func18 (by kernel_rfl) (by kernel_rfl) (by kernel_rfl) (by kernel_rfl) (immW_sgL W _) fun a hh => ?_
  letI := (sg (heapOf W) l a_l c_l name 0)
  refine walk_to (F := F0) (T := C0) (fuel := 1000) (d := 10) mixed aFn aCn ?_ hh
  refine ostop_loop (sg := (fun i => sg (heapOf W) l a_l c_l name i)) (fun i => i ≤ l.length ∧ ∀ j, j < i → ¬ (l.getD j default).1 = name) (fun i => l.length - i) 0 e0 (meet_cons (by first | exact meetV (.slice a_l l.length c_l) rfl rfl | exact meetI rfl rfl (by omega)) (meet_cons (by exact meetV (strV name) rfl rfl) (meet_cons (by first | rfl | exact meetInt (by omega)) meet_nil))) (fun _ _ h => h) (by exact ⟨Nat.zero_le _, fun j h => absurd h (Nat.not_lt_zero _)⟩) ?_
  intro i hI aC w hh
  letI := (sg (heapOf W) l a_l c_l name i)
  by_cases p0 : ((i : Nat) : Int) < ((l.length : Nat) : Int)
  · by_cases p1 : (l.getD (i) default).1 = name
    · refine walk_to (F := F1) (T := C1) (fuel := 1000) (d := 10) mixed (aFc (FactOk.arrLen hl rfl rfl underMl rfl rfl) (aFc (FactOk.bi rfl rfl rfl rfl rfl rfl (boolT (by omega))) (aFc (FactOk.arrIxa hl (show i < l.length by omega) rfl rfl rfl underMl sizeM rfl rfl rfl) (aFc (arrFaM0 hl (show i < l.length by omega) rfl rfl rfl rfl) (aFc (FactOk.arrLd1 (j := 0) hl (getSome (show i < l.length by omega)) rfl rfl aggStr rfl rfl rfl rfl) (aFc (FactOk.strEqT rfl rfl rfl rfl p1) aFn)))))) aCn ?_ hh
      refine walk_leave (F := F0) (T := C0) (fuel := 1000) (d := 10) mixed aFn aCn ?_
      exact ostop_end e1 fun w2 hLow hIn => ⟨(by first | (rw [idxN_at hI.2 (by omega) p1, Int.max_eq_right (by omega), decide_eq_true (by omega)]; rfl) | (rw [idxN_none (fun j h => hI.2 j (by omega))]; rfl)), hLow⟩
    · refine walk_to (F := F2) (T := C2) (fuel := 1000) (d := 10) mixed (aFc (FactOk.arrLen hl rfl rfl underMl rfl rfl) (aFc (FactOk.bi rfl rfl rfl rfl rfl rfl (boolT (by omega))) (aFc (FactOk.arrIxa hl (show i < l.length by omega) rfl rfl rfl underMl sizeM rfl rfl rfl) (aFc (arrFaM0 hl (show i < l.length by omega) rfl rfl rfl rfl) (aFc (FactOk.arrLd1 (j := 0) hl (getSome (show i < l.length by omega)) rfl rfl aggStr rfl rfl rfl rfl) (aFc (FactOk.strEqF rfl rfl rfl rfl p1) (aFc (FactOk.bi rfl rfl rfl rfl rfl rfl (intI (by omega) (by omega) (by omega))) aFn))))))) aCn ?_ hh
      exact ostop_backM (s1 := (sg (heapOf W) l a_l c_l name i)) (sg := (fun i => sg (heapOf W) l a_l c_l name i)) (I := fun i => i ≤ l.length ∧ ∀ j, j < i → ¬ (l.getD j default).1 = name) (μ := fun i => l.length - i) (x := i) (i + 1) e2 (meet_cons (by first | exact meetV (.slice a_l l.length c_l) rfl rfl | exact meetI rfl rfl (by omega)) (meet_cons (by exact meetV (strV name) rfl rfl) (meet_cons (by first | exact meetV (.int .i64 ((i + 1 : Nat) : Int)) rfl rfl | exact meetI rfl rfl (by omega)) meet_nil))) (fun _ _ h => h) (by exact ⟨by omega, fun j h => by rcases Nat.lt_or_ge j i with h1 | h1; exact hI.2 j h1; rw [show j = i by omega]; exact p1⟩) (by (try dsimp only); omega)
  · refine walk_to (F := F3) (T := C3) (fuel := 1000) (d := 10) mixed (aFc (FactOk.arrLen hl rfl rfl underMl rfl rfl) (aFc (FactOk.bi rfl rfl rfl rfl rfl rfl (boolF (by omega))) aFn)) aCn ?_ hh
    refine walk_leave (F := F0) (T := C0) (fuel := 1000) (d := 10) mixed aFn aCn ?_
    exact ostop_end e3 fun w2 hLow hIn => ⟨(by first | (rw [idxN_at hI.2 (by omega) p1, Int.max_eq_right (by omega), decide_eq_true (by omega)]; rfl) | (rw [idxN_none (fun j h => hI.2 j (by omega))]; rfl)), hLow⟩
end RFindG
end AE
end Go.Proofs.YtblhndlmgibljaaDoor

/- What the functions of the materials answer, as facts for the walks of the laws. -/
namespace Go.Proofs.YtblhndlmgibljaaDoor
open Go Go.Proofs Go.RowKit
namespace AE
section
variable [Sig]
theorem callSanity (hK : KindsM Sig.imm) : CallFactOk Tryd.prog (9, [], .bool true) :=
  callAny (a := #[]) rfl rfl rfl rfl fun w hw => SanG.any w (hK.mono hw)
theorem callRFind {x y r : Value} {u : Value} {l : List Mt} {name : Bs} (hp : plainSL [x, y] = true) (hr : plainS r = true) (ev : interpL [x, y] = [u, strV name]) (er : interp r = .tuple #[.int .i64 (max 0 (idxN l name)), .bool (decide (0 ≤ idxN l name))]) (hl : Arr Sig.imm 8 encM u l) (hn : l.length ≤ 1000000) : CallFactOk Tryd.prog (18, [x, y], r) :=
  callAny (a := #[u, strV name]) hp hr ev er fun w hw => RFindG.any w (hl.mono hw) name hn
end
end AE
end Go.Proofs.YtblhndlmgibljaaDoor

/- What Print writes of a table of materials: plain laws; the calls of Print by contract. -/
namespace Go.Proofs.YtblhndlmgibljaaDoor
open Go Go.Proofs Go.RowKit
set_option maxRecDepth 100000
namespace AE

def itoaB (n : Int) : Bs := Go.Lib.itoa n
theorem itoaB_nat (i : Nat) : itoaB (i : Int) = Go.Lib.decDigits i := by unfold itoaB Go.Lib.itoa; rw [if_neg (by omega)]; simp
theorem callChkP [Sig] {x r : Value} {u : Value} {l : List Mt} (hp : plainSL [x] = true) (hr : plainS r = true) (ev : interpL [x] = [u]) (er : interp r = .tuple #[.int .i64 (chkM l).1, .int .i64 (chkM l).2]) (hl : Arr Sig.imm 8 encM u l) (hK : KindsM Sig.imm) : CallFactOk Tryd.prog (11, [x], r) :=
  callAny (a := #[u]) hp hr ev er fun w hw => ChkG.any w (hl.mono hw) (hK.mono hw)

end AE
end Go.Proofs.YtblhndlmgibljaaDoor

/- Parse: what its reader does, as functions of words; the reader as a box; the library's calls by contract. -/
namespace Go.Proofs.YtblhndlmgibljaaDoor
open Go Go.Proofs Go.RowKit
set_option maxRecDepth 100000
namespace AE
abbrev tRd : TypeId := 72
abbrev Rd := List Bs × Bool
def wordF (st : Rd) : Bs × Rd := match st.1 with
  | [] => ([], ([], true))
  | s :: r => (s, (r, st.2 || decide (s = [])))
theorem wordF_nil {st : Rd} (h : st.1.length = 0) : wordF st = ([], (st.1, true)) := by
  have h1 := List.eq_nil_of_length_eq_zero h
  unfold wordF
  rw [h1]
theorem wordF_cons {st : Rd} (h : ¬ st.1.length = 0) : wordF st = (st.1.getD 0 default, (st.1.drop 1, st.2 || decide (st.1.getD 0 default = []))) := by
  obtain ⟨ws, b⟩ := st
  cases ws with
  | nil => exact absurd rfl h
  | cons s r => rfl
def isF (w : Bs) (st : Rd) : Rd := ((wordF st).2.1, !decide ((wordF st).1 = w) || (wordF st).2.2)
def atoiR (s : Bs) : Int × Bool := match Go.Lib.atoiAll s with
  | .ok v => (v, false)
  | .range => (Go.Lib.atoiSat s, true)
  | _ => (0, true)
def numBad (s : Bs) : Bool := (atoiR s).2 || decide ((atoiR s).1 < 0) || decide (3 < ((s.length : Nat) : Int)) || !decide (itoaB (atoiR s).1 = s)
def numF (st : Rd) : Int × Rd := ((atoiR (wordF st).1).1, ((wordF st).2.1, (wordF st).2.2 || numBad (wordF st).1))

/- THE READER'S WORDS -/
def RdS (a : Option Addr) (c : Nat) (ws : List Bs) (a' : Option Addr) (c' : Nat) (ws' : List Bs) : Prop :=
  (∀ M, Arr M 1 encT (.slice a ws.length c) ws → Arr M 1 encT (.slice a' ws'.length c') ws') ∧ ∀ p', a' = some p' → ∃ p, a = some p ∧ p.block = p'.block
theorem RdS.refl (a : Option Addr) (c : Nat) (ws : List Bs) : RdS a c ws a c ws := ⟨fun _ h => h, fun p h => ⟨p, h, rfl⟩⟩
theorem RdS.trans {a a' a'' : Option Addr} {c c' c'' : Nat} {ws ws' ws'' : List Bs} (h : RdS a c ws a' c' ws') (g : RdS a' c' ws' a'' c'' ws'') : RdS a c ws a'' c'' ws'' :=
  ⟨fun M h1 => g.1 M (h.1 M h1), fun p hp => by
    obtain ⟨q, hq, e1⟩ := g.2 p hp
    obtain ⟨r, hr, e2⟩ := h.2 q hq
    exact ⟨r, hr, e2.trans e1⟩⟩
theorem RdS.arr {a a' : Option Addr} {c c' : Nat} {ws ws' : List Bs} (h : RdS a c ws a' c' ws') {M : Mem} (hA : Arr M 1 encT (.slice a ws.length c) ws) : Arr M 1 encT (.slice a' ws'.length c') ws' := h.1 M hA
theorem RdS.ne {a a' : Option Addr} {c c' g : Nat} {ws ws' : List Bs} (h : RdS a c ws a' c' ws') (hne : ∀ q : Addr, a = some q → some q.block ≠ some g) : ∀ q : Addr, a' = some q → some q.block ≠ some g := fun q hq => by
  obtain ⟨p, hp, e⟩ := h.2 q hq
  rw [← e]
  exact hne p hp
theorem dropA_block {a : Option Addr} {c j k : Nat} {q : Addr} (h : dropA a c j k = some q) : ∃ p, a = some p ∧ p.block = q.block := by
  unfold dropA at h
  split at h
  · exact ⟨q, h, rfl⟩
  · cases a with
    | none => cases h
    | some p =>
      simp only [Option.map_some, Option.some.injEq] at h
      exact ⟨p, rfl, by rw [← h]; unfold Addr.add; split <;> rfl⟩
theorem RdS.drop1 {a : Option Addr} {c : Nat} {ws : List Bs} (h : ¬ ws.length = 0) : RdS a c ws (dropA a c 1 1) (c - 1) (ws.drop 1) :=
  ⟨fun M hA => by
    rw [List.length_drop]
    exact hA.drop (by omega), fun p hp => dropA_block hp⟩
def RdE (a : Option Addr) (c : Nat) (ws : List Bs) (cs : List Value) (st : Rd) : Prop := ∃ a' c', cs = [.slice a' st.1.length c', .bool st.2] ∧ RdS a c ws a' c' st.1

theorem boxTurn {B g : Nat} {M M' : Mem} {w w' : World} {ty : TypeId} {cs cs' : List Value} (hO : OBox B M (.pointer (some ⟨g, 0, none⟩)) ty cs) (hw : ∀ i o, M i = some o → w.heap[i]? = some o) (hK : Keeps (heapOf w) M' (some g)) (hi : ∀ i o, M' i = some o → w'.heap[i]? = some o) (hl : Low 0 w w')
    (hO' : OBox 0 M' (.pointer (some ⟨g, 0, none⟩)) ty cs') : ∃ M'', OBox B M'' (.pointer (some ⟨g, 0, none⟩)) ty cs' ∧ Keeps M M'' (some g) ∧ Turns B M M'' (some g) w w' := by
  obtain ⟨q1, q2⟩ := turns_memTo (B := B) (M := M) (w := w) (w' := w') (T := some g) (U := some g) hw (fun i h => by cases h; exact ⟨by rw [hO.known.1]; simp, hO.known.2⟩) (fun i h => .inl h) ⟨hl.below.os, hl.below.tape, hl.below.output⟩ (Nat.le_refl _) hl.size (fun i hlt hne => by
    have h1 : w.heap[i]? = some w.heap[i] := Array.getElem?_eq_getElem hlt
    rw [h1]
    exact hi _ _ (hK i _ h1 hne))
  refine ⟨_, ⟨g, rfl, hO.known.2, ?_⟩, q2, q1⟩
  unfold memTo
  rw [if_pos rfl]
  exact hi _ _ hO'.known.1

section
variable {P : Program} {f : FuncId} {args : Array Value} {B g : Nat} {M : Mem} {w : World} {a : Option Addr} {c : Nat} {ws : List Bs} {st' : Rd}
theorem boxR {vR r : Value} {vals2 : Option Addr × Nat → List Value} (hv : ∀ y M', @interp (sgL M' (vals2 y)) vR = r)
    (h : Calls P f args w fun e w' => ∃ a' c' M', e = .returned r ∧ (OBox B M' (.pointer (some ⟨g, 0, none⟩)) tRd [.slice a' st'.1.length c', .bool st'.2] ∧ RdS a c ws a' c' st'.1 ∧ Keeps M M' (some g)) ∧ Turns B M M' (some g) w w') :
    Calls P f args w fun e w' => ∃ (y : Option Addr × Nat) (M' : Mem), e = .returned (@interp (sgL M' (vals2 y)) vR) ∧ (OBox B M' (.pointer (some ⟨g, 0, none⟩)) tRd [.slice y.1 st'.1.length y.2, .bool st'.2] ∧ RdS a c ws y.1 y.2 st'.1 ∧ Keeps M M' (some g)) ∧ Turns B M M' (some g) w w' :=
  h.mono fun e w' he => by
    obtain ⟨a', c', M', rfl, h1, h2⟩ := he
    exact ⟨(a', c'), M', by rw [hv], h1, h2⟩
theorem boxL {vR r : Value} {vals2 : Value → List Value} {b : Bool} (hv : ∀ y M', @interp (sgL M' (vals2 y)) vR = r)
    (h : Calls P f args w fun e w' => ∃ a' c' M', e = .returned r ∧ (OBox B M' (.pointer (some ⟨g, 0, none⟩)) tRd [.slice a' st'.1.length c', .bool b] ∧ RdS a c ws a' c' st'.1 ∧ Keeps M M' (some g)) ∧ Turns B M M' (some g) w w') :
    Calls P f args w fun e w' => ∃ (y : Value) (M' : Mem), e = .returned (@interp (sgL M' (vals2 y)) vR) ∧ (OBox B M' (.pointer (some ⟨g, 0, none⟩)) tRd [oneC y, .bool b] ∧ Keeps M M' (some g)) ∧ Turns B M M' (some g) w w' :=
  h.mono fun e w' he => by
    obtain ⟨a', c', M', rfl, ⟨h1, _, h3⟩, h2⟩ := he
    exact ⟨.slice a' st'.1.length c', M', by rw [hv], ⟨h1, h3⟩, h2⟩
theorem boxCon {b : Bool} {r : Value} (hO : OBox B M (.pointer (some ⟨g, 0, none⟩)) tRd [.slice a ws.length c, .bool b]) (hw : ∀ i o, M i = some o → w.heap[i]? = some o)
    (h : Calls P f args w fun e w' => (∃ M' cs', (e = .returned r ∧ RdE a c ws cs' st') ∧ OBox 0 M' (.pointer (some ⟨g, 0, none⟩)) tRd cs' ∧ Keeps (heapOf w) M' (some g) ∧ ∀ i o, M' i = some o → w'.heap[i]? = some o) ∧ Low 0 w w') :
    Calls P f args w fun e w' => ∃ a' c' M', e = .returned r ∧ (OBox B M' (.pointer (some ⟨g, 0, none⟩)) tRd [.slice a' st'.1.length c', .bool st'.2] ∧ RdS a c ws a' c' st'.1 ∧ Keeps M M' (some g)) ∧ Turns B M M' (some g) w w' :=
  h.mono fun e w' he => by
    obtain ⟨⟨M', cs', ⟨h1, a', c', rfl, h3⟩, h4, h5, h6⟩, hl⟩ := he
    obtain ⟨M'', k1, k2, k3⟩ := boxTurn hO hw h5 h6 hl h4
    exact ⟨a', c', M'', h1, ⟨k1, h3, k2⟩, k3⟩
end
theorem Keeps.trans {M M' M'' : Mem} {T : Option Nat} (h : Keeps M M' T) (g : Keeps M' M'' T) : Keeps M M'' T := fun i o hi hne => g i o (h i o hi hne) hne
theorem OBox.mono0 {B g : Nat} {M M' : Mem} {ty : TypeId} {cs : List Value} (h : OBox B M (.pointer (some ⟨g, 0, none⟩)) ty cs) (hw : ∀ i o, M i = some o → M' i = some o) : OBox 0 M' (.pointer (some ⟨g, 0, none⟩)) ty cs := ⟨g, rfl, Nat.zero_le _, hw _ _ h.known.1⟩

/- THE LIBRARY'S VARIABLES -/
def powCells : List Value := Go.Lib.pow10Tab.map fun z => Value.int .u64 z
def LibM (M : Mem) : Prop :=
  (∃ ty fr, M 1 = some (.cells ⟨powCells⟩ ty fr)) ∧ (∃ m cs ty fr, M 2 = some (.cells cs ty fr) ∧ cs[0]? = some (.int .i64 m)) ∧
  (∃ te pe ty fr, M 5 = some (.cells #[.iface te pe] ty fr)) ∧ (∃ te pe ty fr, M 6 = some (.cells #[.iface te pe] ty fr))
theorem LibM.mono {M M' : Mem} (h : LibM M) (hm : ∀ i o, M i = some o → M' i = some o) : LibM M' := by
  obtain ⟨⟨t1, f1, h1⟩, ⟨m, cs, t2, f2, h2, hm2⟩, ⟨te, pe, t5, f5, h5⟩, ⟨te', pe', t6, f6, h6⟩⟩ := h
  exact ⟨⟨t1, f1, hm _ _ h1⟩, ⟨m, cs, t2, f2, hm _ _ h2, hm2⟩, ⟨te, pe, t5, f5, hm _ _ h5⟩, ⟨te', pe', t6, f6, hm _ _ h6⟩⟩
theorem LibM.kept {M M' : Mem} {g : Nat} (h : LibM M) (hk : Keeps M M' (some g)) (hg : 7 ≤ g) : LibM M' := by
  have ne : ∀ i, i < 7 → some i ≠ some g := fun i hi he => by cases he; omega
  obtain ⟨⟨t1, f1, h1⟩, ⟨m, cs, t2, f2, h2, hm2⟩, ⟨te, pe, t5, f5, h5⟩, ⟨te', pe', t6, f6, h6⟩⟩ := h
  exact ⟨⟨t1, f1, hk _ _ h1 (ne _ (by decide))⟩, ⟨m, cs, t2, f2, hk _ _ h2 (ne _ (by decide)), hm2⟩, ⟨te, pe, t5, f5, hk _ _ h5 (ne _ (by decide))⟩, ⟨te', pe', t6, f6, hk _ _ h6 (ne _ (by decide))⟩⟩
theorem KindsM.kept {M M' : Mem} {g : Nat} (h : KindsM M) (hk : Keeps M M' (some g)) (hg : 7 ≤ g) : KindsM M' := by
  obtain ⟨ty, fr, h⟩ := h
  exact ⟨ty, fr, hk _ _ h fun he => by cases he; omega⟩
theorem LibM.pow {w : World} (h : LibM (heapOf w)) : Go.Lib.TabIs Tryd.prog w "internal/strconv.uint64pow10" .u64 Go.Lib.pow10Tab := by
  obtain ⟨⟨ty, fr, h1⟩, _⟩ := h
  unfold Go.Lib.TabIs World.var?
  rw [show Tryd.prog.globalNamed "internal/strconv.uint64pow10" = some 1 by kernel_rfl]
  have h2 : w.heap[1]? = some (.cells ⟨powCells⟩ ty fr) := h1
  simp only [Option.bind_some, h2]
  rfl
section
variable [Sig]
theorem callItoaG {x r : Value} {n : Int} (hp : plainS x = true) (hr : plainS r = true) (ex : interp x = .int .i64 n) (er : interp r = strV (itoaB n)) (h : -9223372036854775808 ≤ n ∧ n ≤ 9223372036854775807) (hL : LibM Sig.imm) : CallFactOk Tryd.prog (34, [x], r) := by
  refine ⟨by simp [plainSL, hp], hr, fun w hw => ?_⟩
  show Calls _ _ ⟨[interp x]⟩ w _
  rw [ex]
  refine (strconv_Itoa n h.1 h.2 w (LibM.pow (hL.mono hw))).mono fun e w' he => ?_
  obtain ⟨rfl, k, os, rfl⟩ := he
  exact ⟨by rw [er]; rfl, Go.Lib.below_grow _ w (Nat.le_refl _) k os, Nat.le_refl _⟩
omit [Sig] in
theorem atoi_cell {M : Mem} {w : World} {g : Nat} {v : Value} {ty : TypeId} {fr : Nat × Nat} (hw : ∀ i o, M i = some o → w.heap[i]? = some o) (h : M g = some (.cells #[v] ty fr)) : w.cell? ⟨g, 0, none⟩ = some v := by
  simp [World.cell?, hw _ _ h]
theorem callAtoiF {x : Value} {k : Nat} {s : Bs} (hp : plainS x = true) (ex : interp x = strV s) (er : interp (symv k) = .int .i64 (atoiR s).1) (_hL : LibM Sig.imm) (hl : s.length ≤ 1000000) (h : ¬ (atoiR s).2 = true) : CallFactR Tryd.prog (69, [x], .tuple ⟨[symv k, .nilIface]⟩) := by
  refine CallFactOk.toR ⟨by simp [plainSL, hp], rfl, fun w hw => ?_⟩
  show Calls _ _ ⟨[interp x]⟩ w _
  have er' : interp (.tuple ⟨[symv k, .nilIface]⟩) = .tuple #[.int .i64 (atoiR s).1, .nilIface] := by
    show Value.tuple ⟨[interp (symv k), .nilIface]⟩ = _
    rw [er]
  rw [ex, er']
  unfold atoiR at h ⊢
  split at h
  · rename_i v hv
    refine (strconv_Atoi_ok ⟨s.toArray⟩ (by rw [size_strV]; omega) v (by simpa using hv) w).mono fun e w' he => ?_
    obtain ⟨rfl, rfl | ⟨t, rfl⟩⟩ := he
    · exact ⟨rfl, Low.refl _ _⟩
    · exact ⟨rfl, Go.Lib.bytesWorld_below w _ t, Nat.le_refl _⟩
  · exact absurd rfl h
  · exact absurd rfl h
theorem VRel.numErr {φ : Emb} {k : Nat} {n : Int} {t : TypeId} {v : Value} (h : interp (symv k) = .int .i64 n) : VRel φ (.tuple ⟨[symv k, .iface t AE.poison]⟩) (.tuple #[.int .i64 n, .iface t v]) := by
  refine .tuple _ _ rfl fun i hi => ?_
  match i, hi with
  | 0, _ => rw [interp_symv] at h; have := VRel.sym (φ := φ) k; rw [h] at this; exact this
  | 1, _ => exact .iface t (.poison v)
theorem callAtoiT {x : Value} {k : Nat} {s : Bs} (hp : plainS x = true) (ex : interp x = strV s) (er : interp (symv k) = .int .i64 (atoiR s).1) (hL : LibM Sig.imm) (hl : s.length ≤ 1000000) (h : (atoiR s).2 = true) : CallFactR Tryd.prog (69, [x], .tuple ⟨[symv k, .iface 117 poison]⟩) := by
  refine CallFactR.of (by simp [plainSL, hp]) fun w hw => ?_
  show Calls _ _ ⟨[interp x]⟩ w _
  rw [ex]
  unfold atoiR at h
  obtain ⟨_, _, ⟨te, pe, t5, f5, h5⟩, ⟨te', pe', t6, f6, h6⟩⟩ := hL
  split at h
  · cases h
  · rename_i hv
    refine (strconv_Atoi_range ⟨s.toArray⟩ (by rw [size_strV]; omega) (by simpa using hv) (.iface te' pe') w (atoi_cell hw h6) (.inr ⟨te', pe', rfl⟩)).mono fun e w' he => ?_
    obtain ⟨N, rfl, _, _, hb⟩ := he
    refine ⟨_, rfl, fun φ => ?_, hb, Nat.le_refl _⟩
    have e1 : atoiR s = (Go.Lib.atoiSat s, true) := by unfold atoiR; rw [hv]
    rw [e1] at er
    exact VRel.numErr (by simpa using er)
  · rename_i hv hr
    refine (strconv_Atoi_syntax ⟨s.toArray⟩ (by rw [size_strV]; omega) (fun v e => hv v (by simpa using e)) (fun e => hr (by simpa using e)) (.iface te pe) w (atoi_cell hw h5) (.inr ⟨te, pe, rfl⟩)).mono fun e w' he => ?_
    obtain ⟨N, rfl, _, _, hb⟩ := he
    refine ⟨_, rfl, fun φ => ?_, hb, Nat.le_refl _⟩
    have e1 : atoiR s = (0, true) := by
      unfold atoiR
      split
      · rename_i v e
        exact (hv v e).elim
      · rename_i e
        exact (hr e).elim
      · rfl
    rw [e1] at er
    exact VRel.numErr er
end
theorem atoiR_range (s : Bs) : -9223372036854775808 ≤ (atoiR s).1 ∧ (atoiR s).1 ≤ 9223372036854775807 := by
  unfold atoiR
  split
  · rename_i v hv
    unfold Go.Lib.atoiAll at hv
    split at hv
    · cases hv
    · simp only at hv
      split at hv
      · cases hv
      · cases hv
      · split at hv
        · cases hv
        split at hv
        · cases hv
        rename_i h1 h2
        simp only [Go.Lib.NumEnd.ok.injEq] at hv
        subst hv
        split <;> simp_all <;> omega
  · unfold Go.Lib.atoiSat
    simp only
    split <;> simp
  · simp
theorem wordF_len {st : Rd} {n : Nat} (h : ∀ s ∈ st.1, s.length ≤ n) : (wordF st).1.length ≤ n := by
  obtain ⟨ws, b⟩ := st
  cases ws with
  | nil => exact Nat.zero_le _
  | cons s r => exact h s List.mem_cons_self
end AE
end Go.Proofs.YtblhndlmgibljaaDoor

/- The walk of the reader's word. -/
namespace Go.Proofs.YtblhndlmgibljaaDoor
open Go Go.Proofs Go.RowKit
set_option maxRecDepth 100000
namespace AE
namespace WordG
noncomputable def body : Code := (Tryd.f53.body).getD .skip
def N : Nat := 39
noncomputable abbrev at' (N : Nat) (F : List (FOp × Value)) (C : List (FuncId × List Value × Value)) (c : Code) (s : ASt) : Option Stop := evalTo Tryd.prog F C N 1000 10 c s
noncomputable abbrev ops' (N : Nat) (F : List (FOp × Value)) (C : List (FuncId × List Value × Value)) (r : List Oper) (ops : Array Oper) (ks : List KI) (s : ASt) : Option Stop := evalOps Tryd.prog F C N 1000 10 r ops ks s
def s0 : ASt := { sl := slots [(0, symv 0)], ms := [], A := start }
def F0 : List (FOp × Value) := [(.nilc (symv 0), symv 0),
    (.fa 72 (symv 0) 0, symv 0),
    (.ld 68 (symv 0), symv 1),
    (.len #[68] 3 (symv 1), symv 3),
    (.bin .eql 3 (symv 3) (.int .i64 0), .bool true),
    (.fa 72 (symv 0) 1, symv 4)]
def C0 : List (FuncId × List Value × Value) := []
theorem e0 : stoOf (at' 39 F0 C0 body s0) = some (4, (symv 4), (.bool true)) := by kernel_rfl
noncomputable abbrev so0 := at' 39 F0 C0 body s0
noncomputable def bk0 : List Bk := []
def hd0 : Sl := slots [(2, strV []), (0, symv 0)]
def hp0 : Sl := match aput 39 hd0 none (.tuple ⟨[]⟩) with | some s => s | none => .nil
theorem e1 : trAll (stopSt so0) hd0 bk0 = some [(symv 0, symv 0)] := by kernel_rfl
theorem e2 : aput 39 hd0 (stopDst so0) (.tuple ⟨[]⟩) = some hp0 := by kernel_rfl
def F1 : List (FOp × Value) := []
def C1 : List (FuncId × List Value × Value) := []
theorem e3 : endVal Tryd.prog Tryd.f53 (ops' 39 F1 C1 (stopRest so0) (stopOps so0) (stopKs so0) { sl := hp0, ms := [], A := mkAS bk0 }) = some (strV []) := by kernel_rfl
def F2 : List (FOp × Value) := [(.nilc (symv 0), symv 0),
    (.fa 72 (symv 0) 0, symv 0),
    (.ld 68 (symv 0), symv 1),
    (.len #[68] 3 (symv 1), symv 3),
    (.bin .eql 3 (symv 3) (.int .i64 0), .bool false),
    (.ixa 68 (symv 1) (.int .i64 0), symv 5),
    (.ld 9 (symv 5), symv 6),
    (.slc 68 (symv 1) (some (.int .i64 1)) none none, symv 7)]
def C2 : List (FuncId × List Value × Value) := []
theorem e4 : stoOf (at' 39 F2 C2 body s0) = some (68, (symv 0), (symv 7)) := by kernel_rfl
noncomputable abbrev so1 := at' 39 F2 C2 body s0
noncomputable def bk1 : List Bk := []
def hd1 : Sl := slots [(3, symv 6), (2, strV []), (0, symv 0)]
def hp1 : Sl := match aput 39 hd1 none (.tuple ⟨[]⟩) with | some s => s | none => .nil
theorem e5 : trAll (stopSt so1) hd1 bk1 = some [(symv 0, symv 0), (symv 6, symv 6)] := by kernel_rfl
theorem e6 : aput 39 hd1 (stopDst so1) (.tuple ⟨[]⟩) = some hp1 := by kernel_rfl
def F3 : List (FOp × Value) := [(.nilc (symv 0), symv 0),
    (.fa 72 (symv 0) 1, symv 4),
    (.ld 4 (symv 4), symv 2),
    (.tru (symv 2), .bool true)]
def C3 : List (FuncId × List Value × Value) := []
theorem e7 : stoOf (ops' 39 F3 C3 (stopRest so1) (stopOps so1) (stopKs so1) { sl := hp1, ms := [], A := mkAS bk1 }) = some (4, (symv 4), (.bool true)) := by kernel_rfl
noncomputable abbrev so2 := ops' 39 F3 C3 (stopRest so1) (stopOps so1) (stopKs so1) { sl := hp1, ms := [], A := mkAS bk1 }
noncomputable def bk2 : List Bk := []
def hd2 : Sl := slots [(3, symv 6), (2, strV [])]
def hp2 : Sl := match aput 39 hd2 none (.tuple ⟨[]⟩) with | some s => s | none => .nil
theorem e8 : trAll (stopSt so2) hd2 bk2 = some [(symv 6, symv 6)] := by kernel_rfl
theorem e9 : aput 39 hd2 (stopDst so2) (.tuple ⟨[]⟩) = some hp2 := by kernel_rfl
theorem e10 : endVal Tryd.prog Tryd.f53 (ops' 39 F1 C1 (stopRest so2) (stopOps so2) (stopKs so2) { sl := hp2, ms := [], A := mkAS bk2 }) = some (symv 6) := by kernel_rfl
def F4 : List (FOp × Value) := [(.nilc (symv 0), symv 0),
    (.fa 72 (symv 0) 1, symv 4),
    (.ld 4 (symv 4), symv 2),
    (.tru (symv 2), .bool false),
    (.bin .eql 9 (symv 6) (strV []), .bool true)]
def C4 : List (FuncId × List Value × Value) := []
theorem e11 : stoOf (ops' 39 F4 C4 (stopRest so1) (stopOps so1) (stopKs so1) { sl := hp1, ms := [], A := mkAS bk1 }) = some (4, (symv 4), (.bool true)) := by kernel_rfl
noncomputable abbrev so3 := ops' 39 F4 C4 (stopRest so1) (stopOps so1) (stopKs so1) { sl := hp1, ms := [], A := mkAS bk1 }
noncomputable def bk3 : List Bk := []
def hd3 : Sl := slots [(3, symv 6), (2, strV [])]
def hp3 : Sl := match aput 39 hd3 none (.tuple ⟨[]⟩) with | some s => s | none => .nil
theorem e12 : trAll (stopSt so3) hd3 bk3 = some [(symv 6, symv 6)] := by kernel_rfl
theorem e13 : aput 39 hd3 (stopDst so3) (.tuple ⟨[]⟩) = some hp3 := by kernel_rfl
theorem e14 : endVal Tryd.prog Tryd.f53 (ops' 39 F1 C1 (stopRest so3) (stopOps so3) (stopKs so3) { sl := hp3, ms := [], A := mkAS bk3 }) = some (symv 6) := by kernel_rfl
def F5 : List (FOp × Value) := [(.nilc (symv 0), symv 0),
    (.fa 72 (symv 0) 1, symv 4),
    (.ld 4 (symv 4), symv 2),
    (.tru (symv 2), .bool false),
    (.bin .eql 9 (symv 6) (strV []), .bool false)]
def C5 : List (FuncId × List Value × Value) := []
theorem e15 : stoOf (ops' 39 F5 C5 (stopRest so1) (stopOps so1) (stopKs so1) { sl := hp1, ms := [], A := mkAS bk1 }) = some (4, (symv 4), (.bool false)) := by kernel_rfl
noncomputable abbrev so4 := ops' 39 F5 C5 (stopRest so1) (stopOps so1) (stopKs so1) { sl := hp1, ms := [], A := mkAS bk1 }
noncomputable def bk4 : List Bk := []
def hd4 : Sl := slots [(3, symv 6), (2, strV [])]
def hp4 : Sl := match aput 39 hd4 none (.tuple ⟨[]⟩) with | some s => s | none => .nil
theorem e16 : trAll (stopSt so4) hd4 bk4 = some [(symv 6, symv 6)] := by kernel_rfl
theorem e17 : aput 39 hd4 (stopDst so4) (.tuple ⟨[]⟩) = some hp4 := by kernel_rfl
theorem e18 : endVal Tryd.prog Tryd.f53 (ops' 39 F1 C1 (stopRest so4) (stopOps so4) (stopKs so4) { sl := hp4, ms := [], A := mkAS bk4 }) = some (symv 6) := by kernel_rfl
@[reducible] noncomputable def vL (g_p : Nat) (X : Rd) (a_p : Option Addr) (c_p : Nat) : List Value := [.pointer (some ⟨g_p, 0, none⟩), .slice a_p X.1.length c_p, .bool X.2, .int .i64 ((X.1.length : Nat) : Int), .pointer (some ⟨g_p, 1, none⟩), cellPtr (.slice a_p X.1.length c_p) (0 * 1), strV (X.1.getD (0) default), .slice (dropA a_p c_p 1 1) (X.1.length - 1) (c_p - 1)]
@[reducible] noncomputable def sg (M : Mem) (g_p : Nat) (X : Rd) (a_p : Option Addr) (c_p : Nat) : Sig := sgL M (vL g_p X a_p c_p)
set_option maxHeartbeats 4000000 in
theorem any (W : World) {g_p : Nat} {a_p : Option Addr} {c_p : Nat} {X : Rd} (h : OBox 0 (heapOf W) (.pointer (some ⟨g_p, 0, none⟩)) tRd [.slice a_p X.1.length c_p, .bool X.2]) (hA_p : Arr (heapOf W) 1 encT (.slice a_p X.1.length c_p) X.1) (hne_p : ∀ q : Addr, a_p = some q → some q.block ≠ some g_p)  : Calls Tryd.prog 53 #[.pointer (some ⟨g_p, 0, none⟩)] W fun e w' => (∃ M' cs', (e = .returned (strV (wordF X).1) ∧ RdE a_p c_p X.1 cs' (wordF X).2) ∧ OBox 0 M' (.pointer (some ⟨g_p, 0, none⟩)) tRd cs' ∧ Keeps (heapOf W) M' (some g_p) ∧ ∀ i o, M' i = some o → w'.heap[i]? = some o) ∧ Low 0 W w' := by
  refine @walk_enter0 (sg (heapOf W) g_p X a_p c_p ) Tryd.prog 53 Tryd.f53 body [symv 0] (slots [(0, symv 0)]) N W _ Tryd.func53 (by kernel_rfl) (by kernel_rfl) (by kernel_rfl) (by kernel_rfl) (immW_sgL W _) fun a hh => ?_
  letI := (sg (heapOf W) g_p X a_p c_p )
  by_cases h0 : ((X.1.length : Nat) : Int) = 0
  · refine walk_to (F := F0) (T := C0) (fuel := 1000) (d := 10) mixed (aFc (FactOk.nilcP rfl rfl rfl rfl) (aFc (FactOk.faB (g := g_p) (o := 0) (ty := 68) (off := 0) (m := 1) (by kernel_rfl) (by kernel_rfl) (by kernel_rfl) (by decide) rfl rfl rfl rfl) (aFc (FactOk.boxLd (g := g_p) (j := 0) h rfl rfl rfl (by kernel_rfl) rfl rfl) (aFc (FactOk.arrLen hA_p rfl rfl underTl rfl rfl) (aFc (FactOk.bi rfl rfl rfl rfl rfl rfl (boolT (by omega))) (aFc (FactOk.faB (g := g_p) (o := 0) (ty := 4) (off := 1) (m := 1) (by kernel_rfl) (by kernel_rfl) (by kernel_rfl) (by decide) rfl rfl rfl rfl) aFn)))))) aCn ?_ hh
    refine ostop_storeB (g := g_p) (j := 1) (u := .bool true) (cs' := [.slice a_p X.1.length c_p, .bool true]) (vals2 := (vL g_p X a_p c_p )) rfl e0 (by kernel_rfl) e1 e2 rfl rfl rfl rfl rfl rfl h (by simp) (fun _ => (meet_cons (by exact meetV (.pointer (some ⟨g_p, 0, none⟩)) rfl rfl) meet_nil)) ?_
    intro M0 hX0 hK0 aC w hh
    have hM0 := hK0
    letI := (sg M0 g_p X a_p c_p )
    refine walk_ops (F := F1) (T := C1) (fuel := 1000) (d := 10) mixed aFn aCn ?_ hh
    exact ostop_end e3 fun w2 hLow hIn => ⟨(by exact ⟨_, _, ⟨by first | (rw [wordF_nil (by omega)]; rfl) | (rw [wordF_cons (by omega)]; rfl), by first | (rw [wordF_nil (by omega)]; exact ⟨_, _, rfl, RdS.refl _ _ _⟩) | (rw [wordF_cons (by omega)]; exact ⟨_, _, by rw [List.length_drop]; first | (rw [show X.2 = true by assumption]; rfl) | (rw [Bool.eq_false_iff.2 (show ¬ X.2 = true by assumption), decide_eq_true (show X.1.getD 0 default = [] by assumption)]; rfl) | (rw [Bool.eq_false_iff.2 (show ¬ X.2 = true by assumption), decide_eq_false (show ¬ X.1.getD 0 default = [] by assumption)]; rfl), RdS.drop1 (by omega)⟩)⟩, hX0, hM0, hIn⟩), hLow⟩
  · refine walk_to (F := F2) (T := C2) (fuel := 1000) (d := 10) mixed (aFc (FactOk.nilcP rfl rfl rfl rfl) (aFc (FactOk.faB (g := g_p) (o := 0) (ty := 68) (off := 0) (m := 1) (by kernel_rfl) (by kernel_rfl) (by kernel_rfl) (by decide) rfl rfl rfl rfl) (aFc (FactOk.boxLd (g := g_p) (j := 0) h rfl rfl rfl (by kernel_rfl) rfl rfl) (aFc (FactOk.arrLen hA_p rfl rfl underTl rfl rfl) (aFc (FactOk.bi rfl rfl rfl rfl rfl rfl (boolF (by omega))) (aFc (FactOk.arrIxa hA_p (show 0 < X.1.length by omega) rfl rfl rfl underTl sizeT rfl rfl rfl) (aFc (FactOk.arrLd1 (j := 0) hA_p (getSome (show 0 < X.1.length by omega)) rfl rfl aggStr rfl rfl rfl rfl) (aFc (FactOk.slcLo rfl rfl rfl underTl sizeT rfl rfl (show 1 ≤ X.1.length by omega) rfl) aFn)))))))) aCn ?_ hh
    refine ostop_storeB (g := g_p) (j := 0) (u := .slice (dropA a_p c_p 1 1) (X.1.length - 1) (c_p - 1)) (cs' := [.slice (dropA a_p c_p 1 1) (X.1.length - 1) (c_p - 1), .bool X.2]) (vals2 := (vL g_p X a_p c_p )) rfl e4 (by kernel_rfl) e5 e6 rfl rfl rfl rfl rfl rfl h (by simp) (fun _ => (meet_cons (by exact meetV (.pointer (some ⟨g_p, 0, none⟩)) rfl rfl) (meet_cons (by exact meetV (strV (X.1.getD (0) default)) rfl rfl) meet_nil))) ?_
    intro M0 hX0 hK0 aC w hh
    have hM0 := hK0
    letI := (sg M0 g_p X a_p c_p )
    by_cases p0 : X.2 = true
    · refine walk_ops (F := F3) (T := C3) (fuel := 1000) (d := 10) mixed (aFc (FactOk.nilcP rfl rfl rfl rfl) (aFc (FactOk.faB (g := g_p) (o := 0) (ty := 4) (off := 1) (m := 1) (by kernel_rfl) (by kernel_rfl) (by kernel_rfl) (by decide) rfl rfl rfl rfl) (aFc (FactOk.boxLd (g := g_p) (j := 1) hX0 rfl rfl rfl (by kernel_rfl) rfl rfl) (aFc (truT rfl rfl p0) aFn)))) aCn ?_ hh
      refine ostop_storeB (g := g_p) (j := 1) (u := .bool true) (cs' := [.slice (dropA a_p c_p 1 1) (X.1.length - 1) (c_p - 1), .bool true]) (vals2 := (vL g_p X a_p c_p )) rfl e7 (by kernel_rfl) e8 e9 rfl rfl rfl rfl rfl rfl hX0 (by simp) (fun _ => (meet_cons (by exact meetV (strV (X.1.getD (0) default)) rfl rfl) meet_nil)) ?_
      intro M1 hX1 hK1 aC w hh
      have hM1 := hM0.trans hK1
      letI := (sg M1 g_p X a_p c_p )
      refine walk_ops (F := F1) (T := C1) (fuel := 1000) (d := 10) mixed aFn aCn ?_ hh
      exact ostop_end e10 fun w2 hLow hIn => ⟨(by exact ⟨_, _, ⟨by first | (rw [wordF_nil (by omega)]; rfl) | (rw [wordF_cons (by omega)]; rfl), by first | (rw [wordF_nil (by omega)]; exact ⟨_, _, rfl, RdS.refl _ _ _⟩) | (rw [wordF_cons (by omega)]; exact ⟨_, _, by rw [List.length_drop]; first | (rw [show X.2 = true by assumption]; rfl) | (rw [Bool.eq_false_iff.2 (show ¬ X.2 = true by assumption), decide_eq_true (show X.1.getD 0 default = [] by assumption)]; rfl) | (rw [Bool.eq_false_iff.2 (show ¬ X.2 = true by assumption), decide_eq_false (show ¬ X.1.getD 0 default = [] by assumption)]; rfl), RdS.drop1 (by omega)⟩)⟩, hX1, hM1, hIn⟩), hLow⟩
    · by_cases p1 : (X.1.getD (0) default) = ([] : Bs)
      · refine walk_ops (F := F4) (T := C4) (fuel := 1000) (d := 10) mixed (aFc (FactOk.nilcP rfl rfl rfl rfl) (aFc (FactOk.faB (g := g_p) (o := 0) (ty := 4) (off := 1) (m := 1) (by kernel_rfl) (by kernel_rfl) (by kernel_rfl) (by decide) rfl rfl rfl rfl) (aFc (FactOk.boxLd (g := g_p) (j := 1) hX0 rfl rfl rfl (by kernel_rfl) rfl rfl) (aFc (truF rfl rfl p0) (aFc (FactOk.strEqT rfl rfl rfl rfl p1) aFn))))) aCn ?_ hh
        refine ostop_storeB (g := g_p) (j := 1) (u := .bool true) (cs' := [.slice (dropA a_p c_p 1 1) (X.1.length - 1) (c_p - 1), .bool true]) (vals2 := (vL g_p X a_p c_p )) rfl e11 (by kernel_rfl) e12 e13 rfl rfl rfl rfl rfl rfl hX0 (by simp) (fun _ => (meet_cons (by exact meetV (strV (X.1.getD (0) default)) rfl rfl) meet_nil)) ?_
        intro M1 hX1 hK1 aC w hh
        have hM1 := hM0.trans hK1
        letI := (sg M1 g_p X a_p c_p )
        refine walk_ops (F := F1) (T := C1) (fuel := 1000) (d := 10) mixed aFn aCn ?_ hh
        exact ostop_end e14 fun w2 hLow hIn => ⟨(by exact ⟨_, _, ⟨by first | (rw [wordF_nil (by omega)]; rfl) | (rw [wordF_cons (by omega)]; rfl), by first | (rw [wordF_nil (by omega)]; exact ⟨_, _, rfl, RdS.refl _ _ _⟩) | (rw [wordF_cons (by omega)]; exact ⟨_, _, by rw [List.length_drop]; first | (rw [show X.2 = true by assumption]; rfl) | (rw [Bool.eq_false_iff.2 (show ¬ X.2 = true by assumption), decide_eq_true (show X.1.getD 0 default = [] by assumption)]; rfl) | (rw [Bool.eq_false_iff.2 (show ¬ X.2 = true by assumption), decide_eq_false (show ¬ X.1.getD 0 default = [] by assumption)]; rfl), RdS.drop1 (by omega)⟩)⟩, hX1, hM1, hIn⟩), hLow⟩
      · refine walk_ops (F := F5) (T := C5) (fuel := 1000) (d := 10) mixed (aFc (FactOk.nilcP rfl rfl rfl rfl) (aFc (FactOk.faB (g := g_p) (o := 0) (ty := 4) (off := 1) (m := 1) (by kernel_rfl) (by kernel_rfl) (by kernel_rfl) (by decide) rfl rfl rfl rfl) (aFc (FactOk.boxLd (g := g_p) (j := 1) hX0 rfl rfl rfl (by kernel_rfl) rfl rfl) (aFc (truF rfl rfl p0) (aFc (FactOk.strEqF rfl rfl rfl rfl p1) aFn))))) aCn ?_ hh
        refine ostop_storeB (g := g_p) (j := 1) (u := .bool false) (cs' := [.slice (dropA a_p c_p 1 1) (X.1.length - 1) (c_p - 1), .bool false]) (vals2 := (vL g_p X a_p c_p )) rfl e15 (by kernel_rfl) e16 e17 rfl rfl rfl rfl rfl rfl hX0 (by simp) (fun _ => (meet_cons (by exact meetV (strV (X.1.getD (0) default)) rfl rfl) meet_nil)) ?_
        intro M1 hX1 hK1 aC w hh
        have hM1 := hM0.trans hK1
        letI := (sg M1 g_p X a_p c_p )
        refine walk_ops (F := F1) (T := C1) (fuel := 1000) (d := 10) mixed aFn aCn ?_ hh
        exact ostop_end e18 fun w2 hLow hIn => ⟨(by exact ⟨_, _, ⟨by first | (rw [wordF_nil (by omega)]; rfl) | (rw [wordF_cons (by omega)]; rfl), by first | (rw [wordF_nil (by omega)]; exact ⟨_, _, rfl, RdS.refl _ _ _⟩) | (rw [wordF_cons (by omega)]; exact ⟨_, _, by rw [List.length_drop]; first | (rw [show X.2 = true by assumption]; rfl) | (rw [Bool.eq_false_iff.2 (show ¬ X.2 = true by assumption), decide_eq_true (show X.1.getD 0 default = [] by assumption)]; rfl) | (rw [Bool.eq_false_iff.2 (show ¬ X.2 = true by assumption), decide_eq_false (show ¬ X.1.getD 0 default = [] by assumption)]; rfl), RdS.drop1 (by omega)⟩)⟩, hX1, hM1, hIn⟩), hLow⟩
end WordG
end AE
end Go.Proofs.YtblhndlmgibljaaDoor

/- The reader's word, by contract. -/
namespace Go.Proofs.YtblhndlmgibljaaDoor
open Go Go.Proofs Go.RowKit
namespace AE
theorem con_word {B g : Nat} {M : Mem} {a : Option Addr} {c : Nat} {ws : List Bs} {b : Bool} {w : World} (hO : OBox B M (.pointer (some ⟨g, 0, none⟩)) tRd [.slice a ws.length c, .bool b]) (hA : Arr M 1 encT (.slice a ws.length c) ws) (hne : ∀ q : Addr, a = some q → some q.block ≠ some g) (hw : ∀ i o, M i = some o → w.heap[i]? = some o) :
    Calls Tryd.prog 53 #[.pointer (some ⟨g, 0, none⟩)] w fun e w' => ∃ a' c' M', e = .returned (strV (wordF (ws, b)).1) ∧ (OBox B M' (.pointer (some ⟨g, 0, none⟩)) tRd [.slice a' (wordF (ws, b)).2.1.length c', .bool (wordF (ws, b)).2.2] ∧ RdS a c ws a' c' (wordF (ws, b)).2.1 ∧ Keeps M M' (some g)) ∧ Turns B M M' (some g) w w' :=
  boxCon hO hw (WordG.any w (X := (ws, b)) (hO.mono0 hw) (hA.mono hw) hne)
end AE
end Go.Proofs.YtblhndlmgibljaaDoor

/- The walk of the reader's is. -/
namespace Go.Proofs.YtblhndlmgibljaaDoor
open Go Go.Proofs Go.RowKit
set_option maxRecDepth 100000
namespace AE
namespace IsG
noncomputable def body : Code := (Tryd.f57.body).getD .skip
def N : Nat := 17
noncomputable abbrev at' (N : Nat) (F : List (FOp × Value)) (C : List (FuncId × List Value × Value)) (c : Code) (s : ASt) : Option Stop := evalTo Tryd.prog F C N 1000 10 c s
noncomputable abbrev ops' (N : Nat) (F : List (FOp × Value)) (C : List (FuncId × List Value × Value)) (r : List Oper) (ops : Array Oper) (ks : List KI) (s : ASt) : Option Stop := evalOps Tryd.prog F C N 1000 10 r ops ks s
def s0 : ASt := { sl := slots [(1, symv 1), (0, symv 0)], ms := [], A := start }
def F0 : List (FOp × Value) := []
def C0 : List (FuncId × List Value × Value) := []
theorem e0 : (enterAt Tryd.prog (at' 17 F0 C0 body s0)).isSome = true := by kernel_rfl
theorem e1 : (enterD Tryd.prog (at' 17 F0 C0 body s0)).1 = 53 := by kernel_rfl
theorem e2 : (enterD Tryd.prog (at' 17 F0 C0 body s0)).2.1 = [symv 0] := by kernel_rfl
noncomputable abbrev so0 := at' 17 F0 C0 body s0
noncomputable def bk0 : List Bk := []
def hd0 : Sl := slots [(4, symv 0), (1, symv 1), (0, symv 0)]
def hp0 : Sl := match aput 17 hd0 (some 6) (symv 4) with | some s => s | none => .nil
theorem e3 : trAll (entSt Tryd.prog so0) hd0 bk0 = some [(symv 0, symv 0), (symv 1, symv 1), (symv 0, symv 0)] := by kernel_rfl
theorem e4 : aput 17 hd0 (stopDst so0) (symv 4) = some hp0 := by kernel_rfl
def F1 : List (FOp × Value) := [(.bin .neq 9 (symv 4) (symv 1), .bool false),
    (.nilc (symv 0), symv 0),
    (.fa 72 (symv 0) 1, symv 7),
    (.ld 4 (symv 7), symv 6)]
def C1 : List (FuncId × List Value × Value) := []
theorem e5 : stoOf (ops' 17 F1 C1 (stopRest so0) (stopOps so0) (stopKs so0) { sl := hp0, ms := [], A := mkAS bk0 }) = some (4, (symv 7), (symv 6)) := by kernel_rfl
noncomputable abbrev so1 := ops' 17 F1 C1 (stopRest so0) (stopOps so0) (stopKs so0) { sl := hp0, ms := [], A := mkAS bk0 }
noncomputable def bk1 : List Bk := []
def hd1 : Sl := slots []
def hp1 : Sl := match aput 17 hd1 none (.tuple ⟨[]⟩) with | some s => s | none => .nil
theorem e6 : trAll (stopSt so1) hd1 bk1 = some [] := by kernel_rfl
theorem e7 : aput 17 hd1 (stopDst so1) (.tuple ⟨[]⟩) = some hp1 := by kernel_rfl
theorem e8 : endVal Tryd.prog Tryd.f57 (ops' 17 F0 C0 (stopRest so1) (stopOps so1) (stopKs so1) { sl := hp1, ms := [], A := mkAS bk1 }) = some (.tuple ⟨[]⟩) := by kernel_rfl
def F2 : List (FOp × Value) := [(.bin .neq 9 (symv 4) (symv 1), .bool true),
    (.nilc (symv 0), symv 0),
    (.fa 72 (symv 0) 1, symv 7)]
def C2 : List (FuncId × List Value × Value) := []
theorem e9 : stoOf (ops' 17 F2 C2 (stopRest so0) (stopOps so0) (stopKs so0) { sl := hp0, ms := [], A := mkAS bk0 }) = some (4, (symv 7), (.bool true)) := by kernel_rfl
noncomputable abbrev so2 := ops' 17 F2 C2 (stopRest so0) (stopOps so0) (stopKs so0) { sl := hp0, ms := [], A := mkAS bk0 }
noncomputable def bk2 : List Bk := []
def hd2 : Sl := slots []
def hp2 : Sl := match aput 17 hd2 none (.tuple ⟨[]⟩) with | some s => s | none => .nil
theorem e10 : trAll (stopSt so2) hd2 bk2 = some [] := by kernel_rfl
theorem e11 : aput 17 hd2 (stopDst so2) (.tuple ⟨[]⟩) = some hp2 := by kernel_rfl
theorem e12 : endVal Tryd.prog Tryd.f57 (ops' 17 F0 C0 (stopRest so2) (stopOps so2) (stopKs so2) { sl := hp2, ms := [], A := mkAS bk2 }) = some (.tuple ⟨[]⟩) := by kernel_rfl
@[reducible] noncomputable def vL (g_p : Nat) (X : Rd) (a_p : Option Addr) (c_p : Nat) (s : Bs) (b0 : Rd) (a0 : Option Addr) (c0 : Nat) : List Value := [.pointer (some ⟨g_p, 0, none⟩), strV s, .slice a_p X.1.length c_p, .bool X.2, strV (wordF (X.1, X.2)).1, .slice a0 b0.1.length c0, .bool b0.2, .pointer (some ⟨g_p, 1, none⟩)]
@[reducible] noncomputable def sg (M : Mem) (g_p : Nat) (X : Rd) (a_p : Option Addr) (c_p : Nat) (s : Bs) (b0 : Rd) (a0 : Option Addr) (c0 : Nat) : Sig := sgL M (vL g_p X a_p c_p s b0 a0 c0)
set_option maxHeartbeats 4000000 in
theorem any (W : World) {g_p : Nat} {a_p : Option Addr} {c_p : Nat} {X : Rd} (h : OBox 0 (heapOf W) (.pointer (some ⟨g_p, 0, none⟩)) tRd [.slice a_p X.1.length c_p, .bool X.2]) (hA_p : Arr (heapOf W) 1 encT (.slice a_p X.1.length c_p) X.1) (hne_p : ∀ q : Addr, a_p = some q → some q.block ≠ some g_p) (s : Bs)  : Calls Tryd.prog 57 #[.pointer (some ⟨g_p, 0, none⟩), strV s] W fun e w' => (∃ M' cs', (e = .returned (.tuple #[]) ∧ RdE a_p c_p X.1 cs' (isF s X)) ∧ OBox 0 M' (.pointer (some ⟨g_p, 0, none⟩)) tRd cs' ∧ Keeps (heapOf W) M' (some g_p) ∧ ∀ i o, M' i = some o → w'.heap[i]? = some o) ∧ Low 0 W w' := by
  refine @walk_enter0 (sg (heapOf W) g_p X a_p c_p s default none 0) Tryd.prog 57 Tryd.f57 body [symv 0, symv 1] (slots [(1, symv 1), (0, symv 0)]) N W _ Tryd.func57 (by kernel_rfl) (by kernel_rfl) (by kernel_rfl) (by kernel_rfl) (immW_sgL W _) fun a hh => ?_
  letI := (sg (heapOf W) g_p X a_p c_p s default none 0)
  refine walk_to (F := F0) (T := C0) (fuel := 1000) (d := 10) mixed aFn aCn ?_ hh
  obtain ⟨b0, hb0⟩ : ∃ b0 : Rd, b0 = (wordF (X.1, X.2)).2 := ⟨_, rfl⟩
  refine ostop_callW (Y := Option Addr × Nat) (vals2 := fun yV => (vL g_p X a_p c_p s b0 yV.1 yV.2)) (T := some g_p) (R := fun yV M' => OBox 0 M' (.pointer (some ⟨g_p, 0, none⟩)) tRd [.slice yV.1 b0.1.length yV.2, .bool b0.2] ∧ RdS a_p c_p X.1 yV.1 yV.2 b0.1 ∧ Keeps (heapOf W) M' (some g_p)) e0 e1 e2 rfl e3 e4 rfl (fun w hw hB => by subst hb0; exact boxR (fun _ _ => rfl) (con_word h hA_p hne_p hw)) (fun _ _ _ => (meet_cons (by exact meetV (.pointer (some ⟨g_p, 0, none⟩)) rfl rfl) (meet_cons (by exact meetV (strV s) rfl rfl) (meet_cons (by exact meetV (.pointer (some ⟨g_p, 0, none⟩)) rfl rfl) meet_nil)))) ?_
  intro M0 ⟨a0, c0⟩ ⟨hX0, hS0, hK0⟩ aC w hh
  have hA0 := hS0.arr hA_p
  have hne0 := hS0.ne hne_p
  have hM0 := hK0
  letI := (sg M0 g_p X a_p c_p s b0 a0 c0)
  by_cases p0 : (wordF (X.1, X.2)).1 = s
  · refine walk_ops (F := F1) (T := C1) (fuel := 1000) (d := 10) mixed (aFc (FactOk.strNeT rfl rfl rfl rfl p0) (aFc (FactOk.nilcP rfl rfl rfl rfl) (aFc (FactOk.faB (g := g_p) (o := 0) (ty := 4) (off := 1) (m := 1) (by kernel_rfl) (by kernel_rfl) (by kernel_rfl) (by decide) rfl rfl rfl rfl) (aFc (FactOk.boxLd (g := g_p) (j := 1) hX0 rfl rfl rfl (by kernel_rfl) rfl rfl) aFn)))) aCn ?_ hh
    refine ostop_storeB (g := g_p) (j := 1) (u := .bool b0.2) (cs' := [.slice a0 b0.1.length c0, .bool b0.2]) (vals2 := (vL g_p X a_p c_p s b0 a0 c0)) rfl e5 (by kernel_rfl) e6 e7 rfl rfl rfl rfl rfl rfl hX0 (by simp) (fun _ => meet_nil) ?_
    intro M1 hX1 hK1 aC w hh
    have hM1 := hM0.trans hK1
    letI := (sg M1 g_p X a_p c_p s b0 a0 c0)
    refine walk_ops (F := F0) (T := C0) (fuel := 1000) (d := 10) mixed aFn aCn ?_ hh
    exact ostop_end e8 fun w2 hLow hIn => ⟨(by exact ⟨_, _, ⟨rfl, by subst_vars; exact ⟨_, _, by unfold isF; simp [*], hS0⟩⟩, hX1, hM1, hIn⟩), hLow⟩
  · refine walk_ops (F := F2) (T := C2) (fuel := 1000) (d := 10) mixed (aFc (FactOk.strNeF rfl rfl rfl rfl p0) (aFc (FactOk.nilcP rfl rfl rfl rfl) (aFc (FactOk.faB (g := g_p) (o := 0) (ty := 4) (off := 1) (m := 1) (by kernel_rfl) (by kernel_rfl) (by kernel_rfl) (by decide) rfl rfl rfl rfl) aFn))) aCn ?_ hh
    refine ostop_storeB (g := g_p) (j := 1) (u := .bool true) (cs' := [.slice a0 b0.1.length c0, .bool true]) (vals2 := (vL g_p X a_p c_p s b0 a0 c0)) rfl e9 (by kernel_rfl) e10 e11 rfl rfl rfl rfl rfl rfl hX0 (by simp) (fun _ => meet_nil) ?_
    intro M1 hX1 hK1 aC w hh
    have hM1 := hM0.trans hK1
    letI := (sg M1 g_p X a_p c_p s b0 a0 c0)
    refine walk_ops (F := F0) (T := C0) (fuel := 1000) (d := 10) mixed aFn aCn ?_ hh
    exact ostop_end e12 fun w2 hLow hIn => ⟨(by exact ⟨_, _, ⟨rfl, by subst_vars; exact ⟨_, _, by unfold isF; simp [*], hS0⟩⟩, hX1, hM1, hIn⟩), hLow⟩
end IsG
end AE
end Go.Proofs.YtblhndlmgibljaaDoor

/- The walk of the reader's number. -/
namespace Go.Proofs.YtblhndlmgibljaaDoor
open Go Go.Proofs Go.RowKit
set_option maxRecDepth 100000
namespace AE
namespace NumG
noncomputable def body : Code := (Tryd.f54.body).getD .skip
def N : Nat := 40
noncomputable abbrev at' (N : Nat) (F : List (FOp × Value)) (C : List (FuncId × List Value × Value)) (c : Code) (s : ASt) : Option Stop := evalTo Tryd.prog F C N 1000 10 c s
noncomputable abbrev ops' (N : Nat) (F : List (FOp × Value)) (C : List (FuncId × List Value × Value)) (r : List Oper) (ops : Array Oper) (ks : List KI) (s : ASt) : Option Stop := evalOps Tryd.prog F C N 1000 10 r ops ks s
def s0 : ASt := { sl := slots [(0, symv 0)], ms := [], A := start }
def F0 : List (FOp × Value) := []
def C0 : List (FuncId × List Value × Value) := []
theorem e0 : (enterAt Tryd.prog (at' 40 F0 C0 body s0)).isSome = true := by kernel_rfl
theorem e1 : (enterD Tryd.prog (at' 40 F0 C0 body s0)).1 = 53 := by kernel_rfl
theorem e2 : (enterD Tryd.prog (at' 40 F0 C0 body s0)).2.1 = [symv 0] := by kernel_rfl
noncomputable abbrev so0 := at' 40 F0 C0 body s0
noncomputable def bk0 : List Bk := []
def hd0 : Sl := slots [(2, .int .i64 0), (0, symv 0)]
def hp0 : Sl := match aput 40 hd0 (some 7) (symv 3) with | some s => s | none => .nil
theorem e3 : trAll (entSt Tryd.prog so0) hd0 bk0 = some [(symv 0, symv 0)] := by kernel_rfl
theorem e4 : aput 40 hd0 (stopDst so0) (symv 3) = some hp0 := by kernel_rfl
def F1 : List (FOp × Value) := [(.nilc (symv 0), symv 0),
    (.fa 72 (symv 0) 1, symv 7),
    (.ld 4 (symv 7), symv 5),
    (.tru (symv 5), .bool true)]
def C1 : List (FuncId × List Value × Value) := [(69, [symv 3], .tuple ⟨[symv 6, .iface 117 (poison)]⟩)]
theorem e5 : stoOf (ops' 40 F1 C1 (stopRest so0) (stopOps so0) (stopKs so0) { sl := hp0, ms := [], A := mkAS bk0 }) = some (4, (symv 7), (.bool true)) := by kernel_rfl
noncomputable abbrev so1 := ops' 40 F1 C1 (stopRest so0) (stopOps so0) (stopKs so0) { sl := hp0, ms := [], A := mkAS bk0 }
noncomputable def bk1 : List Bk := []
def hd1 : Sl := slots [(4, symv 6), (2, .int .i64 0)]
def hp1 : Sl := match aput 40 hd1 none (.tuple ⟨[]⟩) with | some s => s | none => .nil
theorem e6 : trAll (stopSt so1) hd1 bk1 = some [(symv 6, symv 6)] := by kernel_rfl
theorem e7 : aput 40 hd1 (stopDst so1) (.tuple ⟨[]⟩) = some hp1 := by kernel_rfl
theorem e8 : endVal Tryd.prog Tryd.f54 (ops' 40 F0 C0 (stopRest so1) (stopOps so1) (stopKs so1) { sl := hp1, ms := [], A := mkAS bk1 }) = some (symv 6) := by kernel_rfl
def F2 : List (FOp × Value) := [(.nilc (symv 0), symv 0),
    (.fa 72 (symv 0) 1, symv 7),
    (.ld 4 (symv 7), symv 5),
    (.tru (symv 5), .bool false)]
def C2 : List (FuncId × List Value × Value) := [(69, [symv 3], .tuple ⟨[symv 6, .iface 117 (poison)]⟩)]
theorem e9 : stoOf (ops' 40 F2 C2 (stopRest so0) (stopOps so0) (stopKs so0) { sl := hp0, ms := [], A := mkAS bk0 }) = some (4, (symv 7), (.bool true)) := by kernel_rfl
noncomputable abbrev so2 := ops' 40 F2 C2 (stopRest so0) (stopOps so0) (stopKs so0) { sl := hp0, ms := [], A := mkAS bk0 }
noncomputable def bk2 : List Bk := []
def hd2 : Sl := slots [(4, symv 6), (2, .int .i64 0)]
def hp2 : Sl := match aput 40 hd2 none (.tuple ⟨[]⟩) with | some s => s | none => .nil
theorem e10 : trAll (stopSt so2) hd2 bk2 = some [(symv 6, symv 6)] := by kernel_rfl
theorem e11 : aput 40 hd2 (stopDst so2) (.tuple ⟨[]⟩) = some hp2 := by kernel_rfl
theorem e12 : endVal Tryd.prog Tryd.f54 (ops' 40 F0 C0 (stopRest so2) (stopOps so2) (stopKs so2) { sl := hp2, ms := [], A := mkAS bk2 }) = some (symv 6) := by kernel_rfl
def F3 : List (FOp × Value) := [(.nilc (symv 0), symv 0),
    (.fa 72 (symv 0) 1, symv 7),
    (.ld 4 (symv 7), symv 5),
    (.tru (symv 5), .bool true)]
def C3 : List (FuncId × List Value × Value) := [(69, [symv 3], .tuple ⟨[symv 6, .nilIface]⟩)]
theorem e13 : stoOf (ops' 40 F3 C3 (stopRest so0) (stopOps so0) (stopKs so0) { sl := hp0, ms := [], A := mkAS bk0 }) = some (4, (symv 7), (.bool true)) := by kernel_rfl
noncomputable abbrev so3 := ops' 40 F3 C3 (stopRest so0) (stopOps so0) (stopKs so0) { sl := hp0, ms := [], A := mkAS bk0 }
noncomputable def bk3 : List Bk := []
def hd3 : Sl := slots [(4, symv 6), (2, .int .i64 0)]
def hp3 : Sl := match aput 40 hd3 none (.tuple ⟨[]⟩) with | some s => s | none => .nil
theorem e14 : trAll (stopSt so3) hd3 bk3 = some [(symv 6, symv 6)] := by kernel_rfl
theorem e15 : aput 40 hd3 (stopDst so3) (.tuple ⟨[]⟩) = some hp3 := by kernel_rfl
theorem e16 : endVal Tryd.prog Tryd.f54 (ops' 40 F0 C0 (stopRest so3) (stopOps so3) (stopKs so3) { sl := hp3, ms := [], A := mkAS bk3 }) = some (symv 6) := by kernel_rfl
def F4 : List (FOp × Value) := [(.nilc (symv 0), symv 0),
    (.fa 72 (symv 0) 1, symv 7),
    (.ld 4 (symv 7), symv 5),
    (.tru (symv 5), .bool false),
    (.bin .lss 3 (symv 6) (.int .i64 0), .bool true)]
def C4 : List (FuncId × List Value × Value) := [(69, [symv 3], .tuple ⟨[symv 6, .nilIface]⟩)]
theorem e17 : stoOf (ops' 40 F4 C4 (stopRest so0) (stopOps so0) (stopKs so0) { sl := hp0, ms := [], A := mkAS bk0 }) = some (4, (symv 7), (.bool true)) := by kernel_rfl
noncomputable abbrev so4 := ops' 40 F4 C4 (stopRest so0) (stopOps so0) (stopKs so0) { sl := hp0, ms := [], A := mkAS bk0 }
noncomputable def bk4 : List Bk := []
def hd4 : Sl := slots [(4, symv 6), (2, .int .i64 0)]
def hp4 : Sl := match aput 40 hd4 none (.tuple ⟨[]⟩) with | some s => s | none => .nil
theorem e18 : trAll (stopSt so4) hd4 bk4 = some [(symv 6, symv 6)] := by kernel_rfl
theorem e19 : aput 40 hd4 (stopDst so4) (.tuple ⟨[]⟩) = some hp4 := by kernel_rfl
theorem e20 : endVal Tryd.prog Tryd.f54 (ops' 40 F0 C0 (stopRest so4) (stopOps so4) (stopKs so4) { sl := hp4, ms := [], A := mkAS bk4 }) = some (symv 6) := by kernel_rfl
def F5 : List (FOp × Value) := [(.nilc (symv 0), symv 0),
    (.fa 72 (symv 0) 1, symv 7),
    (.ld 4 (symv 7), symv 5),
    (.tru (symv 5), .bool false),
    (.bin .lss 3 (symv 6) (.int .i64 0), .bool false),
    (.len #[9] 3 (symv 3), symv 8),
    (.bin .gtr 3 (symv 8) (.int .i64 3), .bool true)]
def C5 : List (FuncId × List Value × Value) := [(69, [symv 3], .tuple ⟨[symv 6, .nilIface]⟩)]
theorem e21 : stoOf (ops' 40 F5 C5 (stopRest so0) (stopOps so0) (stopKs so0) { sl := hp0, ms := [], A := mkAS bk0 }) = some (4, (symv 7), (.bool true)) := by kernel_rfl
noncomputable abbrev so5 := ops' 40 F5 C5 (stopRest so0) (stopOps so0) (stopKs so0) { sl := hp0, ms := [], A := mkAS bk0 }
noncomputable def bk5 : List Bk := []
def hd5 : Sl := slots [(4, symv 6), (2, .int .i64 0)]
def hp5 : Sl := match aput 40 hd5 none (.tuple ⟨[]⟩) with | some s => s | none => .nil
theorem e22 : trAll (stopSt so5) hd5 bk5 = some [(symv 6, symv 6)] := by kernel_rfl
theorem e23 : aput 40 hd5 (stopDst so5) (.tuple ⟨[]⟩) = some hp5 := by kernel_rfl
theorem e24 : endVal Tryd.prog Tryd.f54 (ops' 40 F0 C0 (stopRest so5) (stopOps so5) (stopKs so5) { sl := hp5, ms := [], A := mkAS bk5 }) = some (symv 6) := by kernel_rfl
def F6 : List (FOp × Value) := [(.nilc (symv 0), symv 0),
    (.fa 72 (symv 0) 1, symv 7),
    (.ld 4 (symv 7), symv 5),
    (.tru (symv 5), .bool false),
    (.bin .lss 3 (symv 6) (.int .i64 0), .bool false),
    (.len #[9] 3 (symv 3), symv 8),
    (.bin .gtr 3 (symv 8) (.int .i64 3), .bool false),
    (.bin .neq 9 (symv 9) (symv 3), .bool false)]
def C6 : List (FuncId × List Value × Value) := [(69, [symv 3], .tuple ⟨[symv 6, .nilIface]⟩),
    (34, [symv 6], symv 9)]
theorem e25 : stoOf (ops' 40 F6 C6 (stopRest so0) (stopOps so0) (stopKs so0) { sl := hp0, ms := [], A := mkAS bk0 }) = some (4, (symv 7), (.bool false)) := by kernel_rfl
noncomputable abbrev so6 := ops' 40 F6 C6 (stopRest so0) (stopOps so0) (stopKs so0) { sl := hp0, ms := [], A := mkAS bk0 }
noncomputable def bk6 : List Bk := []
def hd6 : Sl := slots [(4, symv 6), (2, .int .i64 0)]
def hp6 : Sl := match aput 40 hd6 none (.tuple ⟨[]⟩) with | some s => s | none => .nil
theorem e26 : trAll (stopSt so6) hd6 bk6 = some [(symv 6, symv 6)] := by kernel_rfl
theorem e27 : aput 40 hd6 (stopDst so6) (.tuple ⟨[]⟩) = some hp6 := by kernel_rfl
theorem e28 : endVal Tryd.prog Tryd.f54 (ops' 40 F0 C0 (stopRest so6) (stopOps so6) (stopKs so6) { sl := hp6, ms := [], A := mkAS bk6 }) = some (symv 6) := by kernel_rfl
def F7 : List (FOp × Value) := [(.nilc (symv 0), symv 0),
    (.fa 72 (symv 0) 1, symv 7),
    (.ld 4 (symv 7), symv 5),
    (.tru (symv 5), .bool false),
    (.bin .lss 3 (symv 6) (.int .i64 0), .bool false),
    (.len #[9] 3 (symv 3), symv 8),
    (.bin .gtr 3 (symv 8) (.int .i64 3), .bool false),
    (.bin .neq 9 (symv 9) (symv 3), .bool true)]
def C7 : List (FuncId × List Value × Value) := [(69, [symv 3], .tuple ⟨[symv 6, .nilIface]⟩),
    (34, [symv 6], symv 9)]
theorem e29 : stoOf (ops' 40 F7 C7 (stopRest so0) (stopOps so0) (stopKs so0) { sl := hp0, ms := [], A := mkAS bk0 }) = some (4, (symv 7), (.bool true)) := by kernel_rfl
noncomputable abbrev so7 := ops' 40 F7 C7 (stopRest so0) (stopOps so0) (stopKs so0) { sl := hp0, ms := [], A := mkAS bk0 }
noncomputable def bk7 : List Bk := []
def hd7 : Sl := slots [(4, symv 6), (2, .int .i64 0)]
def hp7 : Sl := match aput 40 hd7 none (.tuple ⟨[]⟩) with | some s => s | none => .nil
theorem e30 : trAll (stopSt so7) hd7 bk7 = some [(symv 6, symv 6)] := by kernel_rfl
theorem e31 : aput 40 hd7 (stopDst so7) (.tuple ⟨[]⟩) = some hp7 := by kernel_rfl
theorem e32 : endVal Tryd.prog Tryd.f54 (ops' 40 F0 C0 (stopRest so7) (stopOps so7) (stopKs so7) { sl := hp7, ms := [], A := mkAS bk7 }) = some (symv 6) := by kernel_rfl
@[reducible] noncomputable def vL (g_p : Nat) (X : Rd) (a_p : Option Addr) (c_p : Nat) (b0 : Rd) (a0 : Option Addr) (c0 : Nat) : List Value := [.pointer (some ⟨g_p, 0, none⟩), .slice a_p X.1.length c_p, .bool X.2, strV (wordF (X.1, X.2)).1, .slice a0 b0.1.length c0, .bool b0.2, .int .i64 (atoiR (wordF (X.1, X.2)).1).1, .pointer (some ⟨g_p, 1, none⟩), .int .i64 (((wordF (X.1, X.2)).1.length : Nat) : Int), strV (itoaB (atoiR (wordF (X.1, X.2)).1).1)]
@[reducible] noncomputable def sg (M : Mem) (g_p : Nat) (X : Rd) (a_p : Option Addr) (c_p : Nat) (b0 : Rd) (a0 : Option Addr) (c0 : Nat) : Sig := sgL M (vL g_p X a_p c_p b0 a0 c0)
set_option maxHeartbeats 4000000 in
theorem any (W : World) {g_p : Nat} {a_p : Option Addr} {c_p : Nat} {X : Rd} (h : OBox 0 (heapOf W) (.pointer (some ⟨g_p, 0, none⟩)) tRd [.slice a_p X.1.length c_p, .bool X.2]) (hA_p : Arr (heapOf W) 1 encT (.slice a_p X.1.length c_p) X.1) (hne_p : ∀ q : Addr, a_p = some q → some q.block ≠ some g_p) (hL : LibM (heapOf W)) (hg : 7 ≤ g_p) (hlen : ∀ s ∈ X.1, s.length ≤ 1000000) : Calls Tryd.prog 54 #[.pointer (some ⟨g_p, 0, none⟩)] W fun e w' => (∃ M' cs', (e = .returned (.int .i64 (numF X).1) ∧ RdE a_p c_p X.1 cs' (numF X).2) ∧ OBox 0 M' (.pointer (some ⟨g_p, 0, none⟩)) tRd cs' ∧ Keeps (heapOf W) M' (some g_p) ∧ ∀ i o, M' i = some o → w'.heap[i]? = some o) ∧ Low 0 W w' := by
  refine @walk_enter0 (sg (heapOf W) g_p X a_p c_p default none 0) Tryd.prog 54 Tryd.f54 body [symv 0] (slots [(0, symv 0)]) N W _ Tryd.func54 (by kernel_rfl) (by kernel_rfl) (by kernel_rfl) (by kernel_rfl) (immW_sgL W _) fun a hh => ?_
  letI := (sg (heapOf W) g_p X a_p c_p default none 0)
  refine walk_to (F := F0) (T := C0) (fuel := 1000) (d := 10) mixed aFn aCn ?_ hh
  obtain ⟨b0, hb0⟩ : ∃ b0 : Rd, b0 = (wordF (X.1, X.2)).2 := ⟨_, rfl⟩
  refine ostop_callW (Y := Option Addr × Nat) (vals2 := fun yV => (vL g_p X a_p c_p b0 yV.1 yV.2)) (T := some g_p) (R := fun yV M' => OBox 0 M' (.pointer (some ⟨g_p, 0, none⟩)) tRd [.slice yV.1 b0.1.length yV.2, .bool b0.2] ∧ RdS a_p c_p X.1 yV.1 yV.2 b0.1 ∧ Keeps (heapOf W) M' (some g_p)) e0 e1 e2 rfl e3 e4 rfl (fun w hw hB => by subst hb0; exact boxR (fun _ _ => rfl) (con_word h hA_p hne_p hw)) (fun _ _ _ => (meet_cons (by exact meetV (.pointer (some ⟨g_p, 0, none⟩)) rfl rfl) meet_nil)) ?_
  intro M0 ⟨a0, c0⟩ ⟨hX0, hS0, hK0⟩ aC w hh
  have hA0 := hS0.arr hA_p
  have hne0 := hS0.ne hne_p
  have hM0 := hK0
  letI := (sg M0 g_p X a_p c_p b0 a0 c0)
  by_cases p0 : (atoiR (wordF (X.1, X.2)).1).2 = true
  · by_cases p1 : b0.2 = true
    · refine walk_ops (F := F1) (T := C1) (fuel := 1000) (d := 10) mixed (aFc (FactOk.nilcP rfl rfl rfl rfl) (aFc (FactOk.faB (g := g_p) (o := 0) (ty := 4) (off := 1) (m := 1) (by kernel_rfl) (by kernel_rfl) (by kernel_rfl) (by decide) rfl rfl rfl rfl) (aFc (FactOk.boxLd (g := g_p) (j := 1) hX0 rfl rfl rfl (by kernel_rfl) rfl rfl) (aFc (truT rfl rfl p1) aFn)))) (allC_consR (callAtoiT rfl rfl rfl (by first | exact hL | exact hL.kept (by assumption) hg) (wordF_len hlen) p0) aCn) ?_ hh
      refine ostop_storeB (g := g_p) (j := 1) (u := .bool true) (cs' := [.slice a0 b0.1.length c0, .bool true]) (vals2 := (vL g_p X a_p c_p b0 a0 c0)) rfl e5 (by kernel_rfl) e6 e7 rfl rfl rfl rfl rfl rfl hX0 (by simp) (fun _ => (meet_cons (by exact meetV (.int .i64 (atoiR (wordF (X.1, X.2)).1).1) rfl rfl) meet_nil)) ?_
      intro M1 hX1 hK1 aC w hh
      have hM1 := hM0.trans hK1
      letI := (sg M1 g_p X a_p c_p b0 a0 c0)
      refine walk_ops (F := F0) (T := C0) (fuel := 1000) (d := 10) mixed aFn aCn ?_ hh
      exact ostop_end e8 fun w2 hLow hIn => ⟨(by exact ⟨_, _, ⟨rfl, by subst_vars; exact ⟨_, _, by unfold numF numBad; simp [*], hS0⟩⟩, hX1, hM1, hIn⟩), hLow⟩
    · refine walk_ops (F := F2) (T := C2) (fuel := 1000) (d := 10) mixed (aFc (FactOk.nilcP rfl rfl rfl rfl) (aFc (FactOk.faB (g := g_p) (o := 0) (ty := 4) (off := 1) (m := 1) (by kernel_rfl) (by kernel_rfl) (by kernel_rfl) (by decide) rfl rfl rfl rfl) (aFc (FactOk.boxLd (g := g_p) (j := 1) hX0 rfl rfl rfl (by kernel_rfl) rfl rfl) (aFc (truF rfl rfl p1) aFn)))) (allC_consR (callAtoiT rfl rfl rfl (by first | exact hL | exact hL.kept (by assumption) hg) (wordF_len hlen) p0) aCn) ?_ hh
      refine ostop_storeB (g := g_p) (j := 1) (u := .bool true) (cs' := [.slice a0 b0.1.length c0, .bool true]) (vals2 := (vL g_p X a_p c_p b0 a0 c0)) rfl e9 (by kernel_rfl) e10 e11 rfl rfl rfl rfl rfl rfl hX0 (by simp) (fun _ => (meet_cons (by exact meetV (.int .i64 (atoiR (wordF (X.1, X.2)).1).1) rfl rfl) meet_nil)) ?_
      intro M1 hX1 hK1 aC w hh
      have hM1 := hM0.trans hK1
      letI := (sg M1 g_p X a_p c_p b0 a0 c0)
      refine walk_ops (F := F0) (T := C0) (fuel := 1000) (d := 10) mixed aFn aCn ?_ hh
      exact ostop_end e12 fun w2 hLow hIn => ⟨(by exact ⟨_, _, ⟨rfl, by subst_vars; exact ⟨_, _, by unfold numF numBad; simp [*], hS0⟩⟩, hX1, hM1, hIn⟩), hLow⟩
  · by_cases p1 : b0.2 = true
    · refine walk_ops (F := F3) (T := C3) (fuel := 1000) (d := 10) mixed (aFc (FactOk.nilcP rfl rfl rfl rfl) (aFc (FactOk.faB (g := g_p) (o := 0) (ty := 4) (off := 1) (m := 1) (by kernel_rfl) (by kernel_rfl) (by kernel_rfl) (by decide) rfl rfl rfl rfl) (aFc (FactOk.boxLd (g := g_p) (j := 1) hX0 rfl rfl rfl (by kernel_rfl) rfl rfl) (aFc (truT rfl rfl p1) aFn)))) (allC_consR (callAtoiF rfl rfl rfl (by first | exact hL | exact hL.kept (by assumption) hg) (wordF_len hlen) p0) aCn) ?_ hh
      refine ostop_storeB (g := g_p) (j := 1) (u := .bool true) (cs' := [.slice a0 b0.1.length c0, .bool true]) (vals2 := (vL g_p X a_p c_p b0 a0 c0)) rfl e13 (by kernel_rfl) e14 e15 rfl rfl rfl rfl rfl rfl hX0 (by simp) (fun _ => (meet_cons (by exact meetV (.int .i64 (atoiR (wordF (X.1, X.2)).1).1) rfl rfl) meet_nil)) ?_
      intro M1 hX1 hK1 aC w hh
      have hM1 := hM0.trans hK1
      letI := (sg M1 g_p X a_p c_p b0 a0 c0)
      refine walk_ops (F := F0) (T := C0) (fuel := 1000) (d := 10) mixed aFn aCn ?_ hh
      exact ostop_end e16 fun w2 hLow hIn => ⟨(by exact ⟨_, _, ⟨rfl, by subst_vars; exact ⟨_, _, by unfold numF numBad; simp [*], hS0⟩⟩, hX1, hM1, hIn⟩), hLow⟩
    · by_cases p2 : (atoiR (wordF (X.1, X.2)).1).1 < 0
      · refine walk_ops (F := F4) (T := C4) (fuel := 1000) (d := 10) mixed (aFc (FactOk.nilcP rfl rfl rfl rfl) (aFc (FactOk.faB (g := g_p) (o := 0) (ty := 4) (off := 1) (m := 1) (by kernel_rfl) (by kernel_rfl) (by kernel_rfl) (by decide) rfl rfl rfl rfl) (aFc (FactOk.boxLd (g := g_p) (j := 1) hX0 rfl rfl rfl (by kernel_rfl) rfl rfl) (aFc (truF rfl rfl p1) (aFc (FactOk.bi rfl rfl rfl rfl rfl rfl (boolT (by omega))) aFn))))) (allC_consR (callAtoiF rfl rfl rfl (by first | exact hL | exact hL.kept (by assumption) hg) (wordF_len hlen) p0) aCn) ?_ hh
        refine ostop_storeB (g := g_p) (j := 1) (u := .bool true) (cs' := [.slice a0 b0.1.length c0, .bool true]) (vals2 := (vL g_p X a_p c_p b0 a0 c0)) rfl e17 (by kernel_rfl) e18 e19 rfl rfl rfl rfl rfl rfl hX0 (by simp) (fun _ => (meet_cons (by exact meetV (.int .i64 (atoiR (wordF (X.1, X.2)).1).1) rfl rfl) meet_nil)) ?_
        intro M1 hX1 hK1 aC w hh
        have hM1 := hM0.trans hK1
        letI := (sg M1 g_p X a_p c_p b0 a0 c0)
        refine walk_ops (F := F0) (T := C0) (fuel := 1000) (d := 10) mixed aFn aCn ?_ hh
        exact ostop_end e20 fun w2 hLow hIn => ⟨(by exact ⟨_, _, ⟨rfl, by subst_vars; exact ⟨_, _, by unfold numF numBad; simp [*], hS0⟩⟩, hX1, hM1, hIn⟩), hLow⟩
      · by_cases p3 : 3 < (((wordF (X.1, X.2)).1.length : Nat) : Int)
        · refine walk_ops (F := F5) (T := C5) (fuel := 1000) (d := 10) mixed (aFc (FactOk.nilcP rfl rfl rfl rfl) (aFc (FactOk.faB (g := g_p) (o := 0) (ty := 4) (off := 1) (m := 1) (by kernel_rfl) (by kernel_rfl) (by kernel_rfl) (by decide) rfl rfl rfl rfl) (aFc (FactOk.boxLd (g := g_p) (j := 1) hX0 rfl rfl rfl (by kernel_rfl) rfl rfl) (aFc (truF rfl rfl p1) (aFc (FactOk.bi rfl rfl rfl rfl rfl rfl (boolF (by omega))) (aFc (FactOk.strLen rfl rfl underStr rfl rfl) (aFc (FactOk.bi rfl rfl rfl rfl rfl rfl (boolT (by omega))) aFn))))))) (allC_consR (callAtoiF rfl rfl rfl (by first | exact hL | exact hL.kept (by assumption) hg) (wordF_len hlen) p0) aCn) ?_ hh
          refine ostop_storeB (g := g_p) (j := 1) (u := .bool true) (cs' := [.slice a0 b0.1.length c0, .bool true]) (vals2 := (vL g_p X a_p c_p b0 a0 c0)) rfl e21 (by kernel_rfl) e22 e23 rfl rfl rfl rfl rfl rfl hX0 (by simp) (fun _ => (meet_cons (by exact meetV (.int .i64 (atoiR (wordF (X.1, X.2)).1).1) rfl rfl) meet_nil)) ?_
          intro M1 hX1 hK1 aC w hh
          have hM1 := hM0.trans hK1
          letI := (sg M1 g_p X a_p c_p b0 a0 c0)
          refine walk_ops (F := F0) (T := C0) (fuel := 1000) (d := 10) mixed aFn aCn ?_ hh
          exact ostop_end e24 fun w2 hLow hIn => ⟨(by exact ⟨_, _, ⟨rfl, by subst_vars; exact ⟨_, _, by unfold numF numBad; simp [*], hS0⟩⟩, hX1, hM1, hIn⟩), hLow⟩
        · by_cases p4 : (itoaB (atoiR (wordF (X.1, X.2)).1).1) = (wordF (X.1, X.2)).1
          · refine walk_ops (F := F6) (T := C6) (fuel := 1000) (d := 10) mixed (aFc (FactOk.nilcP rfl rfl rfl rfl) (aFc (FactOk.faB (g := g_p) (o := 0) (ty := 4) (off := 1) (m := 1) (by kernel_rfl) (by kernel_rfl) (by kernel_rfl) (by decide) rfl rfl rfl rfl) (aFc (FactOk.boxLd (g := g_p) (j := 1) hX0 rfl rfl rfl (by kernel_rfl) rfl rfl) (aFc (truF rfl rfl p1) (aFc (FactOk.bi rfl rfl rfl rfl rfl rfl (boolF (by omega))) (aFc (FactOk.strLen rfl rfl underStr rfl rfl) (aFc (FactOk.bi rfl rfl rfl rfl rfl rfl (boolF (by omega))) (aFc (FactOk.strNeT rfl rfl rfl rfl p4) aFn)))))))) (allC_consR (callAtoiF rfl rfl rfl (by first | exact hL | exact hL.kept (by assumption) hg) (wordF_len hlen) p0) (aCc (callItoaG rfl rfl rfl rfl (atoiR_range _) (by first | exact hL | exact hL.kept (by assumption) hg)) aCn)) ?_ hh
            refine ostop_storeB (g := g_p) (j := 1) (u := .bool false) (cs' := [.slice a0 b0.1.length c0, .bool false]) (vals2 := (vL g_p X a_p c_p b0 a0 c0)) rfl e25 (by kernel_rfl) e26 e27 rfl rfl rfl rfl rfl rfl hX0 (by simp) (fun _ => (meet_cons (by exact meetV (.int .i64 (atoiR (wordF (X.1, X.2)).1).1) rfl rfl) meet_nil)) ?_
            intro M1 hX1 hK1 aC w hh
            have hM1 := hM0.trans hK1
            letI := (sg M1 g_p X a_p c_p b0 a0 c0)
            refine walk_ops (F := F0) (T := C0) (fuel := 1000) (d := 10) mixed aFn aCn ?_ hh
            exact ostop_end e28 fun w2 hLow hIn => ⟨(by exact ⟨_, _, ⟨rfl, by subst_vars; exact ⟨_, _, by unfold numF numBad; simp [*], hS0⟩⟩, hX1, hM1, hIn⟩), hLow⟩
          · refine walk_ops (F := F7) (T := C7) (fuel := 1000) (d := 10) mixed (aFc (FactOk.nilcP rfl rfl rfl rfl) (aFc (FactOk.faB (g := g_p) (o := 0) (ty := 4) (off := 1) (m := 1) (by kernel_rfl) (by kernel_rfl) (by kernel_rfl) (by decide) rfl rfl rfl rfl) (aFc (FactOk.boxLd (g := g_p) (j := 1) hX0 rfl rfl rfl (by kernel_rfl) rfl rfl) (aFc (truF rfl rfl p1) (aFc (FactOk.bi rfl rfl rfl rfl rfl rfl (boolF (by omega))) (aFc (FactOk.strLen rfl rfl underStr rfl rfl) (aFc (FactOk.bi rfl rfl rfl rfl rfl rfl (boolF (by omega))) (aFc (FactOk.strNeF rfl rfl rfl rfl p4) aFn)))))))) (allC_consR (callAtoiF rfl rfl rfl (by first | exact hL | exact hL.kept (by assumption) hg) (wordF_len hlen) p0) (aCc (callItoaG rfl rfl rfl rfl (atoiR_range _) (by first | exact hL | exact hL.kept (by assumption) hg)) aCn)) ?_ hh
            refine ostop_storeB (g := g_p) (j := 1) (u := .bool true) (cs' := [.slice a0 b0.1.length c0, .bool true]) (vals2 := (vL g_p X a_p c_p b0 a0 c0)) rfl e29 (by kernel_rfl) e30 e31 rfl rfl rfl rfl rfl rfl hX0 (by simp) (fun _ => (meet_cons (by exact meetV (.int .i64 (atoiR (wordF (X.1, X.2)).1).1) rfl rfl) meet_nil)) ?_
            intro M1 hX1 hK1 aC w hh
            have hM1 := hM0.trans hK1
            letI := (sg M1 g_p X a_p c_p b0 a0 c0)
            refine walk_ops (F := F0) (T := C0) (fuel := 1000) (d := 10) mixed aFn aCn ?_ hh
            exact ostop_end e32 fun w2 hLow hIn => ⟨(by exact ⟨_, _, ⟨rfl, by subst_vars; exact ⟨_, _, by unfold numF numBad; simp [*], hS0⟩⟩, hX1, hM1, hIn⟩), hLow⟩
end NumG
end AE
end Go.Proofs.YtblhndlmgibljaaDoor

/- The reader's is and number, by contract. -/
namespace Go.Proofs.YtblhndlmgibljaaDoor
open Go Go.Proofs Go.RowKit
namespace AE
section
variable {B g : Nat} {M : Mem} {a : Option Addr} {c : Nat} {ws : List Bs} {b : Bool} {w : World}
theorem con_is (s : Bs) (hO : OBox B M (.pointer (some ⟨g, 0, none⟩)) tRd [.slice a ws.length c, .bool b]) (hA : Arr M 1 encT (.slice a ws.length c) ws) (hne : ∀ q : Addr, a = some q → some q.block ≠ some g) (hw : ∀ i o, M i = some o → w.heap[i]? = some o) :
    Calls Tryd.prog 57 #[.pointer (some ⟨g, 0, none⟩), strV s] w fun e w' => ∃ a' c' M', e = .returned (.tuple #[]) ∧ (OBox B M' (.pointer (some ⟨g, 0, none⟩)) tRd [.slice a' (isF s (ws, b)).1.length c', .bool (isF s (ws, b)).2] ∧ RdS a c ws a' c' (isF s (ws, b)).1 ∧ Keeps M M' (some g)) ∧ Turns B M M' (some g) w w' :=
  boxCon hO hw (IsG.any w (X := (ws, b)) (hO.mono0 hw) (hA.mono hw) hne s)
theorem con_num (hO : OBox B M (.pointer (some ⟨g, 0, none⟩)) tRd [.slice a ws.length c, .bool b]) (hA : Arr M 1 encT (.slice a ws.length c) ws) (hne : ∀ q : Addr, a = some q → some q.block ≠ some g) (hw : ∀ i o, M i = some o → w.heap[i]? = some o) (hL : LibM M) (hg : 7 ≤ g) (hlen : ∀ s ∈ ws, s.length ≤ 1000000) :
    Calls Tryd.prog 54 #[.pointer (some ⟨g, 0, none⟩)] w fun e w' => ∃ a' c' M', e = .returned (.int .i64 (numF (ws, b)).1) ∧ (OBox B M' (.pointer (some ⟨g, 0, none⟩)) tRd [.slice a' (numF (ws, b)).2.1.length c', .bool (numF (ws, b)).2.2] ∧ RdS a c ws a' c' (numF (ws, b)).2.1 ∧ Keeps M M' (some g)) ∧ Turns B M M' (some g) w w' :=
  boxCon hO hw (NumG.any w (X := (ws, b)) (hO.mono0 hw) (hA.mono hw) hne (hL.mono hw) hg hlen)
end
theorem wordF_sub {st : Rd} {s : Bs} (h : s ∈ (wordF st).2.1) : s ∈ st.1 := by
  obtain ⟨ws, b⟩ := st
  cases ws with
  | nil => exact h
  | cons x r => exact List.mem_cons_of_mem _ h
theorem isF_sub {st : Rd} {w s : Bs} (h : s ∈ (isF w st).1) : s ∈ st.1 := wordF_sub h
theorem numF_sub {st : Rd} {s : Bs} (h : s ∈ (numF st).2.1) : s ∈ st.1 := wordF_sub h

def kindIx (s : Bs) : Int := if ([103, 97, 115] : Bs) = s then 0 else if ([115, 111, 108, 105, 100] : Bs) = s then 1 else if ([102, 97, 108, 108, 105, 110, 103] : Bs) = s then 2 else if ([108, 105, 113, 117, 105, 100] : Bs) = s then 3 else -1
section
variable {s : Bs}
theorem kindIx_0 (h0 : ([103, 97, 115] : Bs) = s) : kindIx s = 0 := by unfold kindIx; rw [if_pos h0]
theorem kindIx_1 (h0 : ¬ ([103, 97, 115] : Bs) = s) (h1 : ([115, 111, 108, 105, 100] : Bs) = s) : kindIx s = 1 := by unfold kindIx; rw [if_neg h0, if_pos h1]
theorem kindIx_2 (h0 : ¬ ([103, 97, 115] : Bs) = s) (h1 : ¬ ([115, 111, 108, 105, 100] : Bs) = s) (h2 : ([102, 97, 108, 108, 105, 110, 103] : Bs) = s) : kindIx s = 2 := by unfold kindIx; rw [if_neg h0, if_neg h1, if_pos h2]
theorem kindIx_3 (h0 : ¬ ([103, 97, 115] : Bs) = s) (h1 : ¬ ([115, 111, 108, 105, 100] : Bs) = s) (h2 : ¬ ([102, 97, 108, 108, 105, 110, 103] : Bs) = s) (h3 : ([108, 105, 113, 117, 105, 100] : Bs) = s) : kindIx s = 3 := by unfold kindIx; rw [if_neg h0, if_neg h1, if_neg h2, if_pos h3]
theorem kindIx_4 (h0 : ¬ ([103, 97, 115] : Bs) = s) (h1 : ¬ ([115, 111, 108, 105, 100] : Bs) = s) (h2 : ¬ ([102, 97, 108, 108, 105, 110, 103] : Bs) = s) (h3 : ¬ ([108, 105, 113, 117, 105, 100] : Bs) = s) : kindIx s = -1 := by unfold kindIx; rw [if_neg h0, if_neg h1, if_neg h2, if_neg h3]
theorem kindIx_lt (s : Bs) : kindIx s < 4 := by
  unfold kindIx
  repeat' split
  all_goals omega
end
def kindTab : List Kd := [([103, 97, 115], false, false, false), ([115, 111, 108, 105, 100], true, false, false), ([102, 97, 108, 108, 105, 110, 103], true, false, true), ([108, 105, 113, 117, 105, 100], false, true, false)]
def kdAt (k : Int) : Kd := kindTab.getD k.toNat default
section
variable [Sig] {p r : Value} {y : Int}
omit [Sig] in
theorem four {y : Int} (h : 0 ≤ y ∧ y < 4) : y = 0 ∨ y = 1 ∨ y = 2 ∨ y = 3 := by omega
theorem ldKd1 (hp : plainS p = true) (hr : plainS r = true) (ep : interp p = .pointer (some ⟨0, 0 + y.toNat * 4 + 1, none⟩)) (er : interp r = .bool (kdAt y).2.1) (hK : KindsM Sig.imm) (hy : 0 ≤ y ∧ y < 4) : FactOk Tryd.prog (.ld 4 p, r) := by
  obtain ⟨ty, fr, hK⟩ := hK
  refine FactOk.ld1 hp hr (by kernel_rfl) ep (fun w hw => ?_) er
  have := hw _ _ hK
  simp only [World.cell?, this]
  rcases four hy with rfl | rfl | rfl | rfl <;> rfl
theorem ldKd2 (hp : plainS p = true) (hr : plainS r = true) (ep : interp p = .pointer (some ⟨0, 0 + y.toNat * 4 + 2, none⟩)) (er : interp r = .bool (kdAt y).2.2.1) (hK : KindsM Sig.imm) (hy : 0 ≤ y ∧ y < 4) : FactOk Tryd.prog (.ld 4 p, r) := by
  obtain ⟨ty, fr, hK⟩ := hK
  refine FactOk.ld1 hp hr (by kernel_rfl) ep (fun w hw => ?_) er
  have := hw _ _ hK
  simp only [World.cell?, this]
  rcases four hy with rfl | rfl | rfl | rfl <;> rfl
theorem ldKd3 (hp : plainS p = true) (hr : plainS r = true) (ep : interp p = .pointer (some ⟨0, 0 + y.toNat * 4 + 3, none⟩)) (er : interp r = .bool (kdAt y).2.2.2) (hK : KindsM Sig.imm) (hy : 0 ≤ y ∧ y < 4) : FactOk Tryd.prog (.ld 4 p, r) := by
  obtain ⟨ty, fr, hK⟩ := hK
  refine FactOk.ld1 hp hr (by kernel_rfl) ep (fun w hw => ?_) er
  have := hw _ _ hK
  simp only [World.cell?, this]
  rcases four hy with rfl | rfl | rfl | rfl <;> rfl
end

abbrev rd2 (st : Rd) : Rd := (wordF (wordF st).2).2
abbrev wd2 (st : Rd) : Bs := (wordF (wordF st).2).1
abbrev rd4 (st : Rd) : Int × Rd := numF (isF [102, 97, 100, 101] (rd2 st))
abbrev rd6 (st : Rd) : Int × Rd := numF (isF [101, 109, 105, 116] (rd4 st).2)
abbrev rd7 (st : Rd) : Int × Rd := numF (rd6 st).2
abbrev rd8 (st : Rd) : Int × Rd := numF (rd7 st).2
def matF (st : Rd) : Mt × Rd :=
  if kindIx (wd2 st) < 0 then (((wordF st).1, false, false, false, 0, 0, 0, 0), ((rd2 st).1, true))
  else if 0 < (((rd4 st).2.1.length : Nat) : Int) then
    (((wordF st).1, (kdAt (kindIx (wd2 st))).2.1, (kdAt (kindIx (wd2 st))).2.2.1, (kdAt (kindIx (wd2 st))).2.2.2, (rd4 st).1, (rd6 st).1, (rd7 st).1, (rd8 st).1),
      ((rd8 st).2.1, (rd8 st).2.2 || decide ((((rd6 st).1, (rd7 st).1, (rd8 st).1) : E3) = (0, 0, 0)) || decide (0 < (((rd8 st).2.1.length : Nat) : Int))))
  else (((wordF st).1, (kdAt (kindIx (wd2 st))).2.1, (kdAt (kindIx (wd2 st))).2.2.1, (kdAt (kindIx (wd2 st))).2.2.2, (rd4 st).1, 0, 0, 0), (rd4 st).2)
theorem matF_bad {st : Rd} (h : kindIx (wd2 st) < 0) : matF st = (((wordF st).1, false, false, false, 0, 0, 0, 0), ((rd2 st).1, true)) := by unfold matF; rw [if_pos h]
theorem matF_short {st : Rd} (h : ¬ kindIx (wd2 st) < 0) (h2 : ¬ 0 < (((rd4 st).2.1.length : Nat) : Int)) : matF st = (((wordF st).1, (kdAt (kindIx (wd2 st))).2.1, (kdAt (kindIx (wd2 st))).2.2.1, (kdAt (kindIx (wd2 st))).2.2.2, (rd4 st).1, 0, 0, 0), (rd4 st).2) := by unfold matF; rw [if_neg h, if_neg h2]
theorem matF_long {st : Rd} (h : ¬ kindIx (wd2 st) < 0) (h2 : 0 < (((rd4 st).2.1.length : Nat) : Int)) : matF st = (((wordF st).1, (kdAt (kindIx (wd2 st))).2.1, (kdAt (kindIx (wd2 st))).2.2.1, (kdAt (kindIx (wd2 st))).2.2.2, (rd4 st).1, (rd6 st).1, (rd7 st).1, (rd8 st).1),
      ((rd8 st).2.1, (rd8 st).2.2 || decide ((((rd6 st).1, (rd7 st).1, (rd8 st).1) : E3) = (0, 0, 0)) || decide (0 < (((rd8 st).2.1.length : Nat) : Int)))) := by unfold matF; rw [if_neg h, if_pos h2]
section
variable {b : Bool} {p q : Prop} [Decidable p] [Decidable q]
theorem boolL1 (h : b = true) : true = (b || decide p || decide q) := by rw [h]; simp
theorem boolL2 (h : ¬ b = true) (h2 : p) : true = (b || decide p || decide q) := by rw [decide_eq_true h2]; simp
theorem boolL3 (h : ¬ b = true) (h2 : ¬ p) (h3 : q) : true = (b || decide p || decide q) := by rw [decide_eq_true h3]; simp
theorem boolL4 (h : ¬ b = true) (h2 : ¬ p) (h3 : ¬ q) : false = (b || decide p || decide q) := by rw [decide_eq_false h3, decide_eq_false h2, Bool.eq_false_iff.2 h]; rfl
theorem boolS (h : b = true) : true = b := h.symm
theorem boolS' (h : ¬ b = true) : false = b := (Bool.eq_false_iff.2 h).symm
end
end AE
end Go.Proofs.YtblhndlmgibljaaDoor

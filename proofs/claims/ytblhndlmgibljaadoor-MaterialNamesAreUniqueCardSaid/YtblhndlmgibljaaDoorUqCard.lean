/- Proved: the tied card of MaterialNamesAreUnique: for all tables and names the law returns true, and its arguments read as they did. No condition beyond the own cells of the row. -/
import Derived.Test.YtblhndlmgibljaaDoorUqCard3
import Derived.Shelf.GgClosure.StringsIndexFuncTop
import Derived.ProofKit
import Derived.Ground.GgwProg
import Derived.Test.YtblhndlmgibljaaDoorTie
import Derived.Test.YtblhndlmgibljaaDoorCards

/- the walks of the answers -/
namespace Go.Proofs.YtblhndlmgibljaaDoor
open Go Go.Proofs Go.RowKit
set_option maxRecDepth 100000
namespace AE
namespace AtG
noncomputable def body : Code := (Tryd.f41.body).getD .skip
def N : Nat := 18
noncomputable abbrev at' (N : Nat) (F : List (FOp × Value)) (C : List (FuncId × List Value × Value)) (c : Code) (s : ASt) : Option Stop := evalTo Tryd.prog F C N 1000 10 c s
noncomputable abbrev leave' (N : Nat) (F : List (FOp × Value)) (C : List (FuncId × List Value × Value)) (ks : List KI) (o : Option Stop) : Option Stop := evalLeave Tryd.prog F C N 1000 10 ks o
noncomputable abbrev unr' (N : Nat) (F : List (FOp × Value)) (C : List (FuncId × List Value × Value)) (m : Nat) (o : Option Stop) : Option Stop := evalUnroll Tryd.prog F C N 1000 10 m o
noncomputable abbrev res' (N : Nat) (F : List (FOp × Value)) (C : List (FuncId × List Value × Value)) (ks : List KI) (x : AX) (s : ASt) : Option Stop := evalRes Tryd.prog F C N 1000 10 ks x s
noncomputable abbrev ops' (N : Nat) (F : List (FOp × Value)) (C : List (FuncId × List Value × Value)) (r : List Oper) (ops : Array Oper) (ks : List KI) (s : ASt) : Option Stop := evalOps Tryd.prog F C N 1000 10 r ops ks s
def s0 : ASt := { sl := slots [(1, symv 1), (0, symv 0)], ms := [], A := start }
def F0 : List (FOp × Value) := [(.bin .lss 3 (symv 1) (.int .i64 0), .bool true)]
def C0 : List (FuncId × List Value × Value) := []
theorem e0 : endVal Tryd.prog Tryd.f41 (at' 18 F0 C0 body s0) = some (.agg ⟨[strV [], .bool false, .bool false, .bool false, .int .i64 16, .int .i64 0, .int .i64 0, .int .i64 0]⟩) := by kernel_rfl
def F1 : List (FOp × Value) := [(.bin .lss 3 (symv 1) (.int .i64 0), .bool false),
    (.len #[22] 3 (symv 0), symv 2),
    (.bin .geq 3 (symv 1) (symv 2), .bool true)]
def C1 : List (FuncId × List Value × Value) := []
theorem e1 : endVal Tryd.prog Tryd.f41 (at' 18 F1 C1 body s0) = some (.agg ⟨[strV [], .bool false, .bool false, .bool false, .int .i64 16, .int .i64 0, .int .i64 0, .int .i64 0]⟩) := by kernel_rfl
def F2 : List (FOp × Value) := [(.bin .lss 3 (symv 1) (.int .i64 0), .bool false),
    (.len #[22] 3 (symv 0), symv 2),
    (.bin .geq 3 (symv 1) (symv 2), .bool false),
    (.ixa 22 (symv 0) (symv 1), symv 3),
    (.ld 35 (symv 3), .agg ⟨[symv 4, symv 5, symv 6, symv 7, symv 8, symv 9, symv 10, symv 11]⟩)]
def C2 : List (FuncId × List Value × Value) := []
theorem e2 : endVal Tryd.prog Tryd.f41 (at' 18 F2 C2 body s0) = some (.agg ⟨[symv 4, symv 5, symv 6, symv 7, symv 8, symv 9, symv 10, symv 11]⟩) := by kernel_rfl
@[reducible] noncomputable def vL (l : List Mt) (a_l : Option Addr) (c_l : Nat) (cell : Int) : List Value := [.slice a_l l.length c_l, .int .i64 cell, .int .i64 ((l.length : Nat) : Int), cellPtr (.slice a_l l.length c_l) ((cell).toNat * 8), strV (l.getD ((cell).toNat) default).1, .bool (l.getD ((cell).toNat) default).2.1, .bool (l.getD ((cell).toNat) default).2.2.1, .bool (l.getD ((cell).toNat) default).2.2.2.1, .int .i64 (l.getD ((cell).toNat) default).2.2.2.2.1, .int .i64 (l.getD ((cell).toNat) default).2.2.2.2.2.1, .int .i64 (l.getD ((cell).toNat) default).2.2.2.2.2.2.1, .int .i64 (l.getD ((cell).toNat) default).2.2.2.2.2.2.2]
@[reducible] noncomputable def sg (M : Mem) (l : List Mt) (a_l : Option Addr) (c_l : Nat) (cell : Int) : Sig := sgL M (vL l a_l c_l cell)
set_option maxHeartbeats 4000000 in
theorem any (W : World) {v_l : Value} {l : List Mt} (hl : Arr (heapOf W) 8 encM v_l l) (cell : Int)  : Calls Tryd.prog 41 #[v_l, .int .i64 cell] W fun e w' => e = .returned (M.val (atM l cell)) ∧ Low W.heap.size W w' := by
  obtain ⟨a_l, c_l, rfl⟩ := hl.slice
  refine @walk_enter (sg (heapOf W) l a_l c_l cell ) Tryd.prog 41 Tryd.f41 body [symv 0, symv 1] (slots [(1, symv 1), (0, symv 0)]) N W _ Tryd.func41 (by kernel_rfl) (by kernel_rfl) (by kernel_rfl) (by kernel_rfl) (immW_sgL W _) fun a hh => ?_
  letI := (sg (heapOf W) l a_l c_l cell )
  by_cases h0 : cell < 0
  · refine walk_to (F := F0) (T := C0) (fuel := 1000) (d := 10) mixed (allF_cons (FactOk.bi rfl rfl rfl rfl rfl rfl (boolT (by omega))) allF_nil) allC_nil ?_ hh
    exact ostop_end e0 fun w2 hLow hIn => ⟨(by first | (rw [atM_in (by omega) (by omega)]; rfl) | (rw [atM_out (by omega)]; rfl)), hLow⟩   -- returns .agg ⟨[strV [], .bool false, .bool false, .bool false, .int .i64 16, .int .i64 0, .int .i64 0, .int .i64 0]⟩
  · by_cases h1 : ((l.length : Nat) : Int) ≤ cell
    · refine walk_to (F := F1) (T := C1) (fuel := 1000) (d := 10) mixed (allF_cons (FactOk.bi rfl rfl rfl rfl rfl rfl (boolF (by omega))) (allF_cons (FactOk.arrLen hl rfl rfl underMl rfl rfl) (allF_cons (FactOk.bi rfl rfl rfl rfl rfl rfl (boolT (by omega))) allF_nil))) allC_nil ?_ hh
      exact ostop_end e1 fun w2 hLow hIn => ⟨(by first | (rw [atM_in (by omega) (by omega)]; rfl) | (rw [atM_out (by omega)]; rfl)), hLow⟩   -- returns .agg ⟨[strV [], .bool false, .bool false, .bool false, .int .i64 16, .int .i64 0, .int .i64 0, .int .i64 0]⟩
    · refine walk_to (F := F2) (T := C2) (fuel := 1000) (d := 10) mixed (allF_cons (FactOk.bi rfl rfl rfl rfl rfl rfl (boolF (by omega))) (allF_cons (FactOk.arrLen hl rfl rfl underMl rfl rfl) (allF_cons (FactOk.bi rfl rfl rfl rfl rfl rfl (boolF (by omega))) (allF_cons (FactOk.arrIxa hl (show (cell).toNat < l.length by omega) rfl rfl rfl underMl sizeM rfl (natI (by omega)) rfl) (allF_cons (FactOk.arrLd hl (getSome (show (cell).toNat < l.length by omega)) rfl rfl aggM sizeM rfl rfl rfl) allF_nil))))) allC_nil ?_ hh
      exact ostop_end e2 fun w2 hLow hIn => ⟨(by first | (rw [atM_in (by omega) (by omega)]; rfl) | (rw [atM_out (by omega)]; rfl)), hLow⟩   -- returns .agg ⟨[symv 4, symv 5, symv 6, symv 7, symv 8, symv 9, symv 10, symv 11]⟩
end AtG
namespace RAtG
noncomputable def body : Code := (Tryd.f19.body).getD .skip
def N : Nat := 18
noncomputable abbrev at' (N : Nat) (F : List (FOp × Value)) (C : List (FuncId × List Value × Value)) (c : Code) (s : ASt) : Option Stop := evalTo Tryd.prog F C N 1000 10 c s
noncomputable abbrev leave' (N : Nat) (F : List (FOp × Value)) (C : List (FuncId × List Value × Value)) (ks : List KI) (o : Option Stop) : Option Stop := evalLeave Tryd.prog F C N 1000 10 ks o
noncomputable abbrev unr' (N : Nat) (F : List (FOp × Value)) (C : List (FuncId × List Value × Value)) (m : Nat) (o : Option Stop) : Option Stop := evalUnroll Tryd.prog F C N 1000 10 m o
noncomputable abbrev res' (N : Nat) (F : List (FOp × Value)) (C : List (FuncId × List Value × Value)) (ks : List KI) (x : AX) (s : ASt) : Option Stop := evalRes Tryd.prog F C N 1000 10 ks x s
noncomputable abbrev ops' (N : Nat) (F : List (FOp × Value)) (C : List (FuncId × List Value × Value)) (r : List Oper) (ops : Array Oper) (ks : List KI) (s : ASt) : Option Stop := evalOps Tryd.prog F C N 1000 10 r ops ks s
def s0 : ASt := { sl := slots [(1, symv 1), (0, symv 0)], ms := [], A := start }
def F0 : List (FOp × Value) := [(.bin .lss 3 (symv 1) (.int .i64 0), .bool true)]
def C0 : List (FuncId × List Value × Value) := []
theorem e0 : endVal Tryd.prog Tryd.f19 (at' 18 F0 C0 body s0) = some (.agg ⟨[strV [], .bool false, .bool false, .bool false, .int .i64 16, .int .i64 0, .int .i64 0, .int .i64 0]⟩) := by kernel_rfl
def F1 : List (FOp × Value) := [(.bin .lss 3 (symv 1) (.int .i64 0), .bool false),
    (.len #[22] 3 (symv 0), symv 2),
    (.bin .geq 3 (symv 1) (symv 2), .bool true)]
def C1 : List (FuncId × List Value × Value) := []
theorem e1 : endVal Tryd.prog Tryd.f19 (at' 18 F1 C1 body s0) = some (.agg ⟨[strV [], .bool false, .bool false, .bool false, .int .i64 16, .int .i64 0, .int .i64 0, .int .i64 0]⟩) := by kernel_rfl
def F2 : List (FOp × Value) := [(.bin .lss 3 (symv 1) (.int .i64 0), .bool false),
    (.len #[22] 3 (symv 0), symv 2),
    (.bin .geq 3 (symv 1) (symv 2), .bool false),
    (.ixa 22 (symv 0) (symv 1), symv 3),
    (.ld 35 (symv 3), .agg ⟨[symv 4, symv 5, symv 6, symv 7, symv 8, symv 9, symv 10, symv 11]⟩)]
def C2 : List (FuncId × List Value × Value) := []
theorem e2 : endVal Tryd.prog Tryd.f19 (at' 18 F2 C2 body s0) = some (.agg ⟨[symv 4, symv 5, symv 6, symv 7, symv 8, symv 9, symv 10, symv 11]⟩) := by kernel_rfl
@[reducible] noncomputable def vL (l : List Mt) (a_l : Option Addr) (c_l : Nat) (cell : Int) : List Value := [.slice a_l l.length c_l, .int .i64 cell, .int .i64 ((l.length : Nat) : Int), cellPtr (.slice a_l l.length c_l) ((cell).toNat * 8), strV (l.getD ((cell).toNat) default).1, .bool (l.getD ((cell).toNat) default).2.1, .bool (l.getD ((cell).toNat) default).2.2.1, .bool (l.getD ((cell).toNat) default).2.2.2.1, .int .i64 (l.getD ((cell).toNat) default).2.2.2.2.1, .int .i64 (l.getD ((cell).toNat) default).2.2.2.2.2.1, .int .i64 (l.getD ((cell).toNat) default).2.2.2.2.2.2.1, .int .i64 (l.getD ((cell).toNat) default).2.2.2.2.2.2.2]
@[reducible] noncomputable def sg (M : Mem) (l : List Mt) (a_l : Option Addr) (c_l : Nat) (cell : Int) : Sig := sgL M (vL l a_l c_l cell)
set_option maxHeartbeats 4000000 in
theorem any (W : World) {v_l : Value} {l : List Mt} (hl : Arr (heapOf W) 8 encM v_l l) (cell : Int)  : Calls Tryd.prog 19 #[v_l, .int .i64 cell] W fun e w' => e = .returned (M.val (atM l cell)) ∧ Low W.heap.size W w' := by
  obtain ⟨a_l, c_l, rfl⟩ := hl.slice
  refine @walk_enter (sg (heapOf W) l a_l c_l cell ) Tryd.prog 19 Tryd.f19 body [symv 0, symv 1] (slots [(1, symv 1), (0, symv 0)]) N W _ Tryd.func19 (by kernel_rfl) (by kernel_rfl) (by kernel_rfl) (by kernel_rfl) (immW_sgL W _) fun a hh => ?_
  letI := (sg (heapOf W) l a_l c_l cell )
  by_cases h0 : cell < 0
  · refine walk_to (F := F0) (T := C0) (fuel := 1000) (d := 10) mixed (allF_cons (FactOk.bi rfl rfl rfl rfl rfl rfl (boolT (by omega))) allF_nil) allC_nil ?_ hh
    exact ostop_end e0 fun w2 hLow hIn => ⟨(by first | (rw [atM_in (by omega) (by omega)]; rfl) | (rw [atM_out (by omega)]; rfl)), hLow⟩   -- returns .agg ⟨[strV [], .bool false, .bool false, .bool false, .int .i64 16, .int .i64 0, .int .i64 0, .int .i64 0]⟩
  · by_cases h1 : ((l.length : Nat) : Int) ≤ cell
    · refine walk_to (F := F1) (T := C1) (fuel := 1000) (d := 10) mixed (allF_cons (FactOk.bi rfl rfl rfl rfl rfl rfl (boolF (by omega))) (allF_cons (FactOk.arrLen hl rfl rfl underMl rfl rfl) (allF_cons (FactOk.bi rfl rfl rfl rfl rfl rfl (boolT (by omega))) allF_nil))) allC_nil ?_ hh
      exact ostop_end e1 fun w2 hLow hIn => ⟨(by first | (rw [atM_in (by omega) (by omega)]; rfl) | (rw [atM_out (by omega)]; rfl)), hLow⟩   -- returns .agg ⟨[strV [], .bool false, .bool false, .bool false, .int .i64 16, .int .i64 0, .int .i64 0, .int .i64 0]⟩
    · refine walk_to (F := F2) (T := C2) (fuel := 1000) (d := 10) mixed (allF_cons (FactOk.bi rfl rfl rfl rfl rfl rfl (boolF (by omega))) (allF_cons (FactOk.arrLen hl rfl rfl underMl rfl rfl) (allF_cons (FactOk.bi rfl rfl rfl rfl rfl rfl (boolF (by omega))) (allF_cons (FactOk.arrIxa hl (show (cell).toNat < l.length by omega) rfl rfl rfl underMl sizeM rfl (natI (by omega)) rfl) (allF_cons (FactOk.arrLd hl (getSome (show (cell).toNat < l.length by omega)) rfl rfl aggM sizeM rfl rfl rfl) allF_nil))))) allC_nil ?_ hh
      exact ostop_end e2 fun w2 hLow hIn => ⟨(by first | (rw [atM_in (by omega) (by omega)]; rfl) | (rw [atM_out (by omega)]; rfl)), hLow⟩   -- returns .agg ⟨[symv 4, symv 5, symv 6, symv 7, symv 8, symv 9, symv 10, symv 11]⟩
end RAtG
namespace FewG
noncomputable def body : Code := (Tryd.f10.body).getD .skip
def N : Nat := 20
noncomputable abbrev at' (N : Nat) (F : List (FOp × Value)) (C : List (FuncId × List Value × Value)) (c : Code) (s : ASt) : Option Stop := evalTo Tryd.prog F C N 1000 10 c s
noncomputable abbrev leave' (N : Nat) (F : List (FOp × Value)) (C : List (FuncId × List Value × Value)) (ks : List KI) (o : Option Stop) : Option Stop := evalLeave Tryd.prog F C N 1000 10 ks o
noncomputable abbrev unr' (N : Nat) (F : List (FOp × Value)) (C : List (FuncId × List Value × Value)) (m : Nat) (o : Option Stop) : Option Stop := evalUnroll Tryd.prog F C N 1000 10 m o
noncomputable abbrev res' (N : Nat) (F : List (FOp × Value)) (C : List (FuncId × List Value × Value)) (ks : List KI) (x : AX) (s : ASt) : Option Stop := evalRes Tryd.prog F C N 1000 10 ks x s
noncomputable abbrev ops' (N : Nat) (F : List (FOp × Value)) (C : List (FuncId × List Value × Value)) (r : List Oper) (ops : Array Oper) (ks : List KI) (s : ASt) : Option Stop := evalOps Tryd.prog F C N 1000 10 r ops ks s
def s0 : ASt := { sl := slots [(0, symv 0)], ms := [], A := start }
def F0 : List (FOp × Value) := [(.len #[22] 3 (symv 0), symv 1),
    (.bin .gtr 3 (symv 1) (.int .i64 300), .bool true)]
def C0 : List (FuncId × List Value × Value) := []
theorem e0 : endVal Tryd.prog Tryd.f10 (at' 20 F0 C0 body s0) = some (.bool false) := by kernel_rfl
def F1 : List (FOp × Value) := [(.len #[22] 3 (symv 0), symv 1),
    (.bin .gtr 3 (symv 1) (.int .i64 300), .bool false)]
def C1 : List (FuncId × List Value × Value) := []
noncomputable def bks0 : List Bk := []
def head0 : Sl := slots [(3, symv 2), (0, symv 0)]
noncomputable abbrev at0 := at' 20 F1 C1 body s0
theorem e1 : headObs head0 bks0 at0 = some [(symv 0, symv 0), (.int .i64 0, symv 2)] := by kernel_rfl
def F2 : List (FOp × Value) := [(.len #[22] 3 (symv 0), symv 1),
    (.bin .lss 3 (symv 2) (symv 1), .bool true),
    (.ixa 22 (symv 0) (symv 2), symv 3),
    (.fa 35 (symv 3) 0, symv 4),
    (.ld 9 (symv 4), symv 5),
    (.len #[9] 3 (symv 5), symv 6),
    (.bin .gtr 3 (symv 6) (.int .i64 60), .bool true)]
def C2 : List (FuncId × List Value × Value) := []
def F3 : List (FOp × Value) := []
def C3 : List (FuncId × List Value × Value) := []
theorem e2 : endVal Tryd.prog Tryd.f10 (leave' 20 F3 C3 (stopKs at0) (at' 20 F2 C2 (stopCode at0) (headSt head0 bks0))) = some (.bool false) := by kernel_rfl
def F4 : List (FOp × Value) := [(.len #[22] 3 (symv 0), symv 1),
    (.bin .lss 3 (symv 2) (symv 1), .bool true),
    (.ixa 22 (symv 0) (symv 2), symv 3),
    (.fa 35 (symv 3) 0, symv 4),
    (.ld 9 (symv 4), symv 5),
    (.len #[9] 3 (symv 5), symv 6),
    (.bin .gtr 3 (symv 6) (.int .i64 60), .bool false),
    (.bin .add 3 (symv 2) (.int .i64 1), symv 7)]
def C4 : List (FuncId × List Value × Value) := []
theorem e3 : backObs head0 bks0 (at' 20 F4 C4 (stopCode at0) (headSt head0 bks0)) = some [(symv 0, symv 0), (symv 7, symv 2)] := by kernel_rfl
def F5 : List (FOp × Value) := [(.len #[22] 3 (symv 0), symv 1),
    (.bin .lss 3 (symv 2) (symv 1), .bool false)]
def C5 : List (FuncId × List Value × Value) := []
theorem e4 : endVal Tryd.prog Tryd.f10 (leave' 20 F3 C3 (stopKs at0) (at' 20 F5 C5 (stopCode at0) (headSt head0 bks0))) = some (.bool true) := by kernel_rfl
@[reducible] noncomputable def vL (l : List Mt) (a_l : Option Addr) (c_l : Nat) (i : Nat) : List Value := [.slice a_l l.length c_l, .int .i64 ((l.length : Nat) : Int), .int .i64 ((i : Nat) : Int), cellPtr (.slice a_l l.length c_l) (i * 8), cellPtr (.slice a_l l.length c_l) (i * 8 + 0), strV (l.getD (i) default).1, .int .i64 (((l.getD (i) default).1.length : Nat) : Int), .int .i64 ((i + 1 : Nat) : Int)]
@[reducible] noncomputable def sg (M : Mem) (l : List Mt) (a_l : Option Addr) (c_l : Nat) (i : Nat) : Sig := sgL M (vL l a_l c_l i)
set_option maxHeartbeats 4000000 in
theorem any (W : World) {v_l : Value} {l : List Mt} (hl : Arr (heapOf W) 8 encM v_l l)  : Calls Tryd.prog 10 #[v_l] W fun e w' => e = .returned (.bool (decide (fewM l))) ∧ Low W.heap.size W w' := by
  obtain ⟨a_l, c_l, rfl⟩ := hl.slice
  refine @walk_enter (sg (heapOf W) l a_l c_l 0) Tryd.prog 10 Tryd.f10 body [symv 0] (slots [(0, symv 0)]) N W _ Tryd.func10 (by kernel_rfl) (by kernel_rfl) (by kernel_rfl) (by kernel_rfl) (immW_sgL W _) fun a hh => ?_
  letI := (sg (heapOf W) l a_l c_l 0)
  by_cases h0 : 300 < ((l.length : Nat) : Int)
  · refine walk_to (F := F0) (T := C0) (fuel := 1000) (d := 10) mixed (allF_cons (FactOk.arrLen hl rfl rfl underMl rfl rfl) (allF_cons (FactOk.bi rfl rfl rfl rfl rfl rfl (boolT (by omega))) allF_nil)) allC_nil ?_ hh
    exact ostop_end e0 fun w2 hLow hIn => ⟨(by first | (rw [decide_eq_false (fewM_long (by omega))]; rfl) | (rw [decide_eq_false (fewM_bad (i := i) (by omega) (by omega))]; rfl) | (rw [decide_eq_true (fewM_ok (by omega) (fun j h => hI.2 j (by omega)))]; rfl)), hLow⟩   -- returns .bool false
  · refine walk_to (F := F1) (T := C1) (fuel := 1000) (d := 10) mixed (allF_cons (FactOk.arrLen hl rfl rfl underMl rfl rfl) (allF_cons (FactOk.bi rfl rfl rfl rfl rfl rfl (boolF (by omega))) allF_nil)) allC_nil ?_ hh
    -- LOOP 0: slot 2 = .bool false is written in the loop: left out
    refine ostop_loop (sg := (fun i => sg (heapOf W) l a_l c_l i)) (fun i => i ≤ l.length ∧ ∀ j, j < i → (l.getD j default).1.length ≤ 60) (fun i => l.length - i) 0 e1 (meet_cons (by first | exact meetV (.slice a_l l.length c_l) rfl rfl | exact meetI rfl rfl (by omega)) (meet_cons (by first | rfl | exact meetInt (by omega)) meet_nil)) (fun _ _ h => h) (by exact ⟨Nat.zero_le _, fun j h => absurd h (Nat.not_lt_zero _)⟩) ?_
    intro i hI aC w hh
    letI := (sg (heapOf W) l a_l c_l i)
    by_cases p0 : ((i : Nat) : Int) < ((l.length : Nat) : Int)
    · by_cases p1 : 60 < (((l.getD (i) default).1.length : Nat) : Int)
      · refine walk_to (F := F2) (T := C2) (fuel := 1000) (d := 10) mixed (allF_cons (FactOk.arrLen hl rfl rfl underMl rfl rfl) (allF_cons (FactOk.bi rfl rfl rfl rfl rfl rfl (boolT (by omega))) (allF_cons (FactOk.arrIxa hl (show i < l.length by omega) rfl rfl rfl underMl sizeM rfl rfl rfl) (allF_cons (arrFaM0 hl (show i < l.length by omega) rfl rfl rfl rfl) (allF_cons (FactOk.arrLd1 (j := 0) hl (getSome (show i < l.length by omega)) rfl rfl aggStr rfl rfl rfl rfl) (allF_cons (FactOk.strLen rfl rfl underStr rfl rfl) (allF_cons (FactOk.bi rfl rfl rfl rfl rfl rfl (boolT (by omega))) allF_nil))))))) allC_nil ?_ hh
        refine walk_leave (F := F3) (T := C3) (fuel := 1000) (d := 10) mixed allF_nil allC_nil ?_
        exact ostop_end e2 fun w2 hLow hIn => ⟨(by first | (rw [decide_eq_false (fewM_long (by omega))]; rfl) | (rw [decide_eq_false (fewM_bad (i := i) (by omega) (by omega))]; rfl) | (rw [decide_eq_true (fewM_ok (by omega) (fun j h => hI.2 j (by omega)))]; rfl)), hLow⟩   -- returns .bool false
      · refine walk_to (F := F4) (T := C4) (fuel := 1000) (d := 10) mixed (allF_cons (FactOk.arrLen hl rfl rfl underMl rfl rfl) (allF_cons (FactOk.bi rfl rfl rfl rfl rfl rfl (boolT (by omega))) (allF_cons (FactOk.arrIxa hl (show i < l.length by omega) rfl rfl rfl underMl sizeM rfl rfl rfl) (allF_cons (arrFaM0 hl (show i < l.length by omega) rfl rfl rfl rfl) (allF_cons (FactOk.arrLd1 (j := 0) hl (getSome (show i < l.length by omega)) rfl rfl aggStr rfl rfl rfl rfl) (allF_cons (FactOk.strLen rfl rfl underStr rfl rfl) (allF_cons (FactOk.bi rfl rfl rfl rfl rfl rfl (boolF (by omega))) (allF_cons (FactOk.bi rfl rfl rfl rfl rfl rfl (intI (by omega) (by omega) (by omega))) allF_nil)))))))) allC_nil ?_ hh
        exact ostop_backM (s1 := (sg (heapOf W) l a_l c_l i)) (sg := (fun i => sg (heapOf W) l a_l c_l i)) (I := fun i => i ≤ l.length ∧ ∀ j, j < i → (l.getD j default).1.length ≤ 60) (μ := fun i => l.length - i) (x := i) (i + 1) e3 (meet_cons (by first | exact meetV (.slice a_l l.length c_l) rfl rfl | exact meetI rfl rfl (by omega)) (meet_cons (by first | exact meetV (.int .i64 ((i + 1 : Nat) : Int)) rfl rfl | exact meetI rfl rfl (by omega)) meet_nil)) (fun _ _ h => h) (by exact ⟨by omega, fun j h => by rcases Nat.lt_or_ge j i with h1 | h1; exact hI.2 j h1; rw [show j = i by omega]; omega⟩) (by (try dsimp only); omega)
    · refine walk_to (F := F5) (T := C5) (fuel := 1000) (d := 10) mixed (allF_cons (FactOk.arrLen hl rfl rfl underMl rfl rfl) (allF_cons (FactOk.bi rfl rfl rfl rfl rfl rfl (boolF (by omega))) allF_nil)) allC_nil ?_ hh
      refine walk_leave (F := F3) (T := C3) (fuel := 1000) (d := 10) mixed allF_nil allC_nil ?_
      exact ostop_end e4 fun w2 hLow hIn => ⟨(by first | (rw [decide_eq_false (fewM_long (by omega))]; rfl) | (rw [decide_eq_false (fewM_bad (i := i) (by omega) (by omega))]; rfl) | (rw [decide_eq_true (fewM_ok (by omega) (fun j h => hI.2 j (by omega)))]; rfl)), hLow⟩   -- returns .bool true
end FewG
namespace RFindG
noncomputable def body : Code := (Tryd.f18.body).getD .skip
def N : Nat := 21
noncomputable abbrev at' (N : Nat) (F : List (FOp × Value)) (C : List (FuncId × List Value × Value)) (c : Code) (s : ASt) : Option Stop := evalTo Tryd.prog F C N 1000 10 c s
noncomputable abbrev leave' (N : Nat) (F : List (FOp × Value)) (C : List (FuncId × List Value × Value)) (ks : List KI) (o : Option Stop) : Option Stop := evalLeave Tryd.prog F C N 1000 10 ks o
noncomputable abbrev unr' (N : Nat) (F : List (FOp × Value)) (C : List (FuncId × List Value × Value)) (m : Nat) (o : Option Stop) : Option Stop := evalUnroll Tryd.prog F C N 1000 10 m o
noncomputable abbrev res' (N : Nat) (F : List (FOp × Value)) (C : List (FuncId × List Value × Value)) (ks : List KI) (x : AX) (s : ASt) : Option Stop := evalRes Tryd.prog F C N 1000 10 ks x s
noncomputable abbrev ops' (N : Nat) (F : List (FOp × Value)) (C : List (FuncId × List Value × Value)) (r : List Oper) (ops : Array Oper) (ks : List KI) (s : ASt) : Option Stop := evalOps Tryd.prog F C N 1000 10 r ops ks s
def s0 : ASt := { sl := slots [(1, symv 1), (0, symv 0)], ms := [], A := start }
def F0 : List (FOp × Value) := []
def C0 : List (FuncId × List Value × Value) := []
noncomputable def bks0 : List Bk := []
def head0 : Sl := slots [(6, symv 2), (1, symv 1), (0, symv 0)]
noncomputable abbrev at0 := at' 21 F0 C0 body s0
theorem e0 : headObs head0 bks0 at0 = some [(symv 0, symv 0), (symv 1, symv 1), (.int .i64 0, symv 2)] := by kernel_rfl
def F1 : List (FOp × Value) := [(.len #[22] 3 (symv 0), symv 3),
    (.bin .lss 3 (symv 2) (symv 3), .bool true),
    (.ixa 22 (symv 0) (symv 2), symv 4),
    (.fa 35 (symv 4) 0, symv 5),
    (.ld 9 (symv 5), symv 6),
    (.bin .eql 9 (symv 6) (symv 1), .bool true)]
def C1 : List (FuncId × List Value × Value) := []
theorem e1 : endVal Tryd.prog Tryd.f18 (leave' 21 F0 C0 (stopKs at0) (at' 21 F1 C1 (stopCode at0) (headSt head0 bks0))) = some (.tuple ⟨[symv 2, .bool true]⟩) := by kernel_rfl
def F2 : List (FOp × Value) := [(.len #[22] 3 (symv 0), symv 3),
    (.bin .lss 3 (symv 2) (symv 3), .bool true),
    (.ixa 22 (symv 0) (symv 2), symv 4),
    (.fa 35 (symv 4) 0, symv 5),
    (.ld 9 (symv 5), symv 6),
    (.bin .eql 9 (symv 6) (symv 1), .bool false),
    (.bin .add 3 (symv 2) (.int .i64 1), symv 7)]
def C2 : List (FuncId × List Value × Value) := []
theorem e2 : backObs head0 bks0 (at' 21 F2 C2 (stopCode at0) (headSt head0 bks0)) = some [(symv 0, symv 0), (symv 1, symv 1), (symv 7, symv 2)] := by kernel_rfl
def F3 : List (FOp × Value) := [(.len #[22] 3 (symv 0), symv 3),
    (.bin .lss 3 (symv 2) (symv 3), .bool false)]
def C3 : List (FuncId × List Value × Value) := []
theorem e3 : endVal Tryd.prog Tryd.f18 (leave' 21 F0 C0 (stopKs at0) (at' 21 F3 C3 (stopCode at0) (headSt head0 bks0))) = some (.tuple ⟨[.int .i64 0, .bool false]⟩) := by kernel_rfl
@[reducible] noncomputable def vL (l : List Mt) (a_l : Option Addr) (c_l : Nat) (name : Bs) (i : Nat) : List Value := [.slice a_l l.length c_l, strV name, .int .i64 ((i : Nat) : Int), .int .i64 ((l.length : Nat) : Int), cellPtr (.slice a_l l.length c_l) (i * 8), cellPtr (.slice a_l l.length c_l) (i * 8 + 0), strV (l.getD (i) default).1, .int .i64 ((i + 1 : Nat) : Int)]
@[reducible] noncomputable def sg (M : Mem) (l : List Mt) (a_l : Option Addr) (c_l : Nat) (name : Bs) (i : Nat) : Sig := sgL M (vL l a_l c_l name i)
set_option maxHeartbeats 4000000 in
theorem any (W : World) {v_l : Value} {l : List Mt} (hl : Arr (heapOf W) 8 encM v_l l) (name : Bs) (hn : l.length ≤ 1000000) : Calls Tryd.prog 18 #[v_l, strV name] W fun e w' => e = .returned (.tuple #[.int .i64 (max 0 (idxN l name)), .bool (decide (0 ≤ idxN l name))]) ∧ Low W.heap.size W w' := by
  obtain ⟨a_l, c_l, rfl⟩ := hl.slice
  refine @walk_enter (sg (heapOf W) l a_l c_l name 0) Tryd.prog 18 Tryd.f18 body [symv 0, symv 1] (slots [(1, symv 1), (0, symv 0)]) N W _ Tryd.func18 (by kernel_rfl) (by kernel_rfl) (by kernel_rfl) (by kernel_rfl) (immW_sgL W _) fun a hh => ?_
  letI := (sg (heapOf W) l a_l c_l name 0)
  refine walk_to (F := F0) (T := C0) (fuel := 1000) (d := 10) mixed allF_nil allC_nil ?_ hh
  -- LOOP 0: slot 4 = .int .i64 0 is written in the loop: left out
  -- LOOP 0: slot 5 = .bool false is written in the loop: left out
  refine ostop_loop (sg := (fun i => sg (heapOf W) l a_l c_l name i)) (fun i => i ≤ l.length ∧ ∀ j, j < i → ¬ (l.getD j default).1 = name) (fun i => l.length - i) 0 e0 (meet_cons (by first | exact meetV (.slice a_l l.length c_l) rfl rfl | exact meetI rfl rfl (by omega)) (meet_cons (by exact meetV (strV name) rfl rfl) (meet_cons (by first | rfl | exact meetInt (by omega)) meet_nil))) (fun _ _ h => h) (by exact ⟨Nat.zero_le _, fun j h => absurd h (Nat.not_lt_zero _)⟩) ?_
  intro i hI aC w hh
  letI := (sg (heapOf W) l a_l c_l name i)
  by_cases p0 : ((i : Nat) : Int) < ((l.length : Nat) : Int)
  · by_cases p1 : (l.getD (i) default).1 = name
    · refine walk_to (F := F1) (T := C1) (fuel := 1000) (d := 10) mixed (allF_cons (FactOk.arrLen hl rfl rfl underMl rfl rfl) (allF_cons (FactOk.bi rfl rfl rfl rfl rfl rfl (boolT (by omega))) (allF_cons (FactOk.arrIxa hl (show i < l.length by omega) rfl rfl rfl underMl sizeM rfl rfl rfl) (allF_cons (arrFaM0 hl (show i < l.length by omega) rfl rfl rfl rfl) (allF_cons (FactOk.arrLd1 (j := 0) hl (getSome (show i < l.length by omega)) rfl rfl aggStr rfl rfl rfl rfl) (allF_cons (FactOk.strEqT rfl rfl rfl rfl p1) allF_nil)))))) allC_nil ?_ hh
      refine walk_leave (F := F0) (T := C0) (fuel := 1000) (d := 10) mixed allF_nil allC_nil ?_
      exact ostop_end e1 fun w2 hLow hIn => ⟨(by first | (rw [idxN_at hI.2 (by omega) p1, Int.max_eq_right (by omega), decide_eq_true (by omega)]; rfl) | (rw [idxN_none (fun j h => hI.2 j (by omega))]; rfl)), hLow⟩   -- returns .tuple ⟨[symv 2, .bool true]⟩
    · refine walk_to (F := F2) (T := C2) (fuel := 1000) (d := 10) mixed (allF_cons (FactOk.arrLen hl rfl rfl underMl rfl rfl) (allF_cons (FactOk.bi rfl rfl rfl rfl rfl rfl (boolT (by omega))) (allF_cons (FactOk.arrIxa hl (show i < l.length by omega) rfl rfl rfl underMl sizeM rfl rfl rfl) (allF_cons (arrFaM0 hl (show i < l.length by omega) rfl rfl rfl rfl) (allF_cons (FactOk.arrLd1 (j := 0) hl (getSome (show i < l.length by omega)) rfl rfl aggStr rfl rfl rfl rfl) (allF_cons (FactOk.strEqF rfl rfl rfl rfl p1) (allF_cons (FactOk.bi rfl rfl rfl rfl rfl rfl (intI (by omega) (by omega) (by omega))) allF_nil))))))) allC_nil ?_ hh
      exact ostop_backM (s1 := (sg (heapOf W) l a_l c_l name i)) (sg := (fun i => sg (heapOf W) l a_l c_l name i)) (I := fun i => i ≤ l.length ∧ ∀ j, j < i → ¬ (l.getD j default).1 = name) (μ := fun i => l.length - i) (x := i) (i + 1) e2 (meet_cons (by first | exact meetV (.slice a_l l.length c_l) rfl rfl | exact meetI rfl rfl (by omega)) (meet_cons (by exact meetV (strV name) rfl rfl) (meet_cons (by first | exact meetV (.int .i64 ((i + 1 : Nat) : Int)) rfl rfl | exact meetI rfl rfl (by omega)) meet_nil))) (fun _ _ h => h) (by exact ⟨by omega, fun j h => by rcases Nat.lt_or_ge j i with h1 | h1; exact hI.2 j h1; rw [show j = i by omega]; exact p1⟩) (by (try dsimp only); omega)
  · refine walk_to (F := F3) (T := C3) (fuel := 1000) (d := 10) mixed (allF_cons (FactOk.arrLen hl rfl rfl underMl rfl rfl) (allF_cons (FactOk.bi rfl rfl rfl rfl rfl rfl (boolF (by omega))) allF_nil)) allC_nil ?_ hh
    refine walk_leave (F := F0) (T := C0) (fuel := 1000) (d := 10) mixed allF_nil allC_nil ?_
    exact ostop_end e3 fun w2 hLow hIn => ⟨(by first | (rw [idxN_at hI.2 (by omega) p1, Int.max_eq_right (by omega), decide_eq_true (by omega)]; rfl) | (rw [idxN_none (fun j h => hI.2 j (by omega))]; rfl)), hLow⟩   -- returns .tuple ⟨[.int .i64 0, .bool false]⟩
end RFindG
end AE
end Go.Proofs.YtblhndlmgibljaaDoor

/- AE: a call that is entered: its frame waits. -/
namespace Go.Proofs.YtblhndlmgibljaaDoor
open Go Go.RowKit
namespace AE

/-- What is called: the function, its arguments, the blocks. -/
def enterD (P : Program) [Lib P] (o : Option Stop) : FuncId × List Value × AS := (enterAt P o).getD (0, [], start)
/-- The state in which it begins. -/
def enterSt (P : Program) [Lib P] (o : Option Stop) : ASt := { sl := (setArgs 0 (enterD P o).2.1 .nil).getD .nil, ms := [], A := (enterD P o).2.2 }

theorem ostop_enterX {s1 : Sig} [Outer] {P : Program} [Lib P] {N B : Nat} {w0 : World} {Q : Exit → Act → World → Prop} {o : Option Stop} {fn : Func} {c : Code} (N' n : Nat) {Y : Type} (sgR : Y → Sig) (R : Y → Prop) (vR : Value) (bksR : List Bk) (sl2 sl3 : Sl) {obs : Obs}
    (h : (enterAt P o).isSome = true) (hf : P.funcs[(enterD P o).1]? = some fn) (hc : fn.body = some c) (hsl : (setArgs 0 (enterD P o).2.1 .nil).isSome = true) (hN : (enterD P o).2.1.length + (fn.ntmps - (enterD P o).2.1.length) = N') (hn : (enterD P o).2.2.n = n)
    (htr : trT n (stopSt o).sl sl2 = some obs) (hput : aput N sl2 (stopDst o) vR = some sl3) (hm : ∀ y, R y → Meet s1 (sgR y) obs)
    (hbody : ∀ φ a w, @Here s1 ⟨φ, n⟩ N' (enterSt P o) B w0 a w → c.wpIn (Fr none) 0 P (@EndX ⟨φ, n⟩ P fn N' B w0 (@RetS ⟨φ, n⟩ Y sgR R vR bksR B w0)) a w)
    (rest : ∀ y, R y → ∀ a w, @Here (sgR y) _ N { sl := sl3, ms := (stopSt o).ms, A := mkAS bksR } B w0 a w → wpListIn (Fr none) 0 P (stopOps o) (KQ P (stopKs o) Q) (stopRest o) a w) : @OStop s1 _ P N B w0 Q o := by
  subst hn
  letI := s1
  exact ostop_enter (sgR := sgR) (R := R) (vR := vR) (bksR := bksR) (some_getD h) (CallsS.of hf hc (some_getD hsl) hN hbody) htr hm hput rest
end AE
end Go.Proofs.YtblhndlmgibljaaDoor

/- the walk of Find -/
namespace Go.Proofs.YtblhndlmgibljaaDoor
open Go Go.Proofs Go.RowKit
set_option maxRecDepth 100000
namespace AE
namespace FindG
noncomputable def body : Code := (Tryd.f17.body).getD .skip
def N : Nat := 14
noncomputable abbrev at' (N : Nat) (F : List (FOp × Value)) (C : List (FuncId × List Value × Value)) (c : Code) (s : ASt) : Option Stop := evalTo Tryd.prog F C N 1000 10 c s
noncomputable abbrev leave' (N : Nat) (F : List (FOp × Value)) (C : List (FuncId × List Value × Value)) (ks : List KI) (o : Option Stop) : Option Stop := evalLeave Tryd.prog F C N 1000 10 ks o
noncomputable abbrev unr' (N : Nat) (F : List (FOp × Value)) (C : List (FuncId × List Value × Value)) (m : Nat) (o : Option Stop) : Option Stop := evalUnroll Tryd.prog F C N 1000 10 m o
noncomputable abbrev res' (N : Nat) (F : List (FOp × Value)) (C : List (FuncId × List Value × Value)) (ks : List KI) (x : AX) (s : ASt) : Option Stop := evalRes Tryd.prog F C N 1000 10 ks x s
noncomputable abbrev ops' (N : Nat) (F : List (FOp × Value)) (C : List (FuncId × List Value × Value)) (r : List Oper) (ops : Array Oper) (ks : List KI) (s : ASt) : Option Stop := evalOps Tryd.prog F C N 1000 10 r ops ks s
def s0 : ASt := { sl := slots [(1, symv 1), (0, symv 0)], ms := [], A := start }
def F0 : List (FOp × Value) := []
def C0 : List (FuncId × List Value × Value) := []
noncomputable abbrev ra0 := at' 14 F0 C0 body s0
noncomputable def bc0 : Code := (Tryd.f39.body).getD .skip
noncomputable def rb0 : List Bk := [⟨.cells [symv 1], 9, 0⟩]
def rs0 : Sl := slots [(5, .bool false), (4, .int .i64 0)]
def rp0 : Sl := match aput 14 rs0 (some 9) (symv 2) with | some s => s | none => .nil
theorem e0 : (enterAt Tryd.prog ra0).isSome = true := by kernel_rfl
theorem e1 : (enterD Tryd.prog ra0).1 = 39 := by kernel_rfl
theorem e2 : (setArgs 0 (enterD Tryd.prog ra0).2.1 .nil).isSome = true := by kernel_rfl
theorem e3 : (enterD Tryd.prog ra0).2.1.length + (Tryd.f39.ntmps - (enterD Tryd.prog ra0).2.1.length) = 19 := by kernel_rfl
theorem e4 : (enterD Tryd.prog ra0).2.2.n = 1 := by kernel_rfl
theorem e5 : trT 1 (stopSt ra0).sl rs0 = some [] := by kernel_rfl
theorem e6 : aput 14 rs0 (stopDst ra0) (symv 2) = some rp0 := by kernel_rfl
def F1 : List (FOp × Value) := [(.len #[22] 3 (symv 0), symv 3)]
def C1 : List (FuncId × List Value × Value) := []
noncomputable def bks0 : List Bk := [⟨.cells [symv 1], 9, 0⟩]
def head0 : Sl := slots [(8, symv 4), (7, symv 3), (1, .func (.func 40) ⟨[]⟩ ⟨[.pointer (some ⟨0, 0, none⟩)]⟩), (0, symv 0)]
noncomputable abbrev at0 := at' 19 F1 C1 bc0 (enterSt Tryd.prog ra0)
theorem e7 : headObs head0 bks0 at0 = some [(symv 0, symv 0), (symv 3, symv 3), (.int .i64 0, symv 4), (symv 1, symv 1)] := by kernel_rfl
def F2 : List (FOp × Value) := [(.bin .lss 3 (symv 4) (symv 3), .bool true),
    (.ixa 22 (symv 0) (symv 4), symv 5),
    (.ld 35 (symv 5), .agg ⟨[symv 6, symv 7, symv 8, symv 9, symv 10, symv 11, symv 12, symv 13]⟩),
    (.bin .eql 9 (symv 6) (symv 1), .bool true)]
def C2 : List (FuncId × List Value × Value) := []
theorem e8 : retObs Tryd.prog Tryd.f39 (symv 2) rb0 (leave' 19 F0 C0 (stopKs at0) (at' 19 F2 C2 (stopCode at0) (headSt head0 bks0))) = some [(symv 4, symv 2), (symv 1, symv 1)] := by kernel_rfl
def F3 : List (FOp × Value) := [(.bin .lss 3 (symv 4) (symv 3), .bool true),
    (.ixa 22 (symv 0) (symv 4), symv 5),
    (.ld 35 (symv 5), .agg ⟨[symv 6, symv 7, symv 8, symv 9, symv 10, symv 11, symv 12, symv 13]⟩),
    (.bin .eql 9 (symv 6) (symv 1), .bool false),
    (.bin .add 3 (symv 4) (.int .i64 1), symv 14)]
def C3 : List (FuncId × List Value × Value) := []
theorem e9 : backObs head0 bks0 (at' 19 F3 C3 (stopCode at0) (headSt head0 bks0)) = some [(symv 0, symv 0), (symv 3, symv 3), (symv 14, symv 4), (symv 1, symv 1)] := by kernel_rfl
def F4 : List (FOp × Value) := [(.bin .lss 3 (symv 4) (symv 3), .bool false)]
def C4 : List (FuncId × List Value × Value) := []
theorem e10 : retObs Tryd.prog Tryd.f39 (symv 2) rb0 (leave' 19 F0 C0 (stopKs at0) (at' 19 F4 C4 (stopCode at0) (headSt head0 bks0))) = some [(.int .i64 (-1), symv 2), (symv 1, symv 1)] := by kernel_rfl
def F5 : List (FOp × Value) := [(.mx #[3, 3] 3 (.int .i64 0) (symv 2), symv 15),
    (.bin .geq 3 (symv 2) (.int .i64 0), .bool true)]
def C5 : List (FuncId × List Value × Value) := []
theorem e11 : endVal Tryd.prog Tryd.f17 (ops' 14 F5 C5 (stopRest ra0) (stopOps ra0) (stopKs ra0) { sl := rp0, ms := (stopSt ra0).ms, A := mkAS rb0 }) = some (.tuple ⟨[symv 15, .bool true]⟩) := by kernel_rfl
def F6 : List (FOp × Value) := [(.mx #[3, 3] 3 (.int .i64 0) (symv 2), symv 15),
    (.bin .geq 3 (symv 2) (.int .i64 0), .bool false)]
def C6 : List (FuncId × List Value × Value) := []
theorem e12 : endVal Tryd.prog Tryd.f17 (ops' 14 F6 C6 (stopRest ra0) (stopOps ra0) (stopKs ra0) { sl := rp0, ms := (stopSt ra0).ms, A := mkAS rb0 }) = some (.tuple ⟨[symv 15, .bool false]⟩) := by kernel_rfl
@[reducible] noncomputable def vL (l : List Mt) (a_l : Option Addr) (c_l : Nat) (name : Bs) (i : Nat) (r : Int) : List Value := [.slice a_l l.length c_l, strV name, .int .i64 r, .int .i64 ((l.length : Nat) : Int), .int .i64 ((i : Nat) : Int), cellPtr (.slice a_l l.length c_l) (i * 8), strV (l.getD (i) default).1, .bool (l.getD (i) default).2.1, .bool (l.getD (i) default).2.2.1, .bool (l.getD (i) default).2.2.2.1, .int .i64 (l.getD (i) default).2.2.2.2.1, .int .i64 (l.getD (i) default).2.2.2.2.2.1, .int .i64 (l.getD (i) default).2.2.2.2.2.2.1, .int .i64 (l.getD (i) default).2.2.2.2.2.2.2, .int .i64 ((i + 1 : Nat) : Int), .int .i64 (max 0 r)]
@[reducible] noncomputable def sg (M : Mem) (l : List Mt) (a_l : Option Addr) (c_l : Nat) (name : Bs) (i : Nat) (r : Int) : Sig := sgL M (vL l a_l c_l name i r)
set_option maxHeartbeats 4000000 in
theorem any (W : World) {v_l : Value} {l : List Mt} (hl : Arr (heapOf W) 8 encM v_l l) (name : Bs) (hn : l.length ≤ 1000000) : Calls Tryd.prog 17 #[v_l, strV name] W fun e w' => e = .returned (.tuple #[.int .i64 (max 0 (idxN l name)), .bool (decide (0 ≤ idxN l name))]) ∧ Low W.heap.size W w' := by
  obtain ⟨a_l, c_l, rfl⟩ := hl.slice
  refine @walk_enter (sg (heapOf W) l a_l c_l name 0 0) Tryd.prog 17 Tryd.f17 body [symv 0, symv 1] (slots [(1, symv 1), (0, symv 0)]) N W _ Tryd.func17 (by kernel_rfl) (by kernel_rfl) (by kernel_rfl) (by kernel_rfl) (immW_sgL W _) fun a hh => ?_
  letI := (sg (heapOf W) l a_l c_l name 0 0)
  have hb := idxN_bound l name
  refine walk_to (F := F0) (T := C0) (fuel := 1000) (d := 10) mixed allF_nil allC_nil ?_ hh
  refine ostop_enterX (N' := 19) (n := 1) (fn := Tryd.f39) (c := bc0) (sgR := fun (r : Int) => (sg (heapOf W) l a_l c_l name 0 r)) (R := fun (r : Int) => r = idxN l name) (vR := symv 2) (bksR := rb0) (sl2 := rs0) (sl3 := rp0) e0 ((congrArg (fun f => Tryd.prog.funcs[f]?) e1).trans Tryd.func39) (by kernel_rfl) e2 e3 e4 e5 e6 (fun r _ => meet_nil) ?_ ?_
  · intro φ aC w hh
    letI : Outer := ⟨φ, 1⟩
    refine walk_to (F := F1) (T := C1) (fuel := 1000) (d := 10) mixed (allF_cons (FactOk.arrLen hl rfl rfl underMl rfl rfl) allF_nil) allC_nil ?_ hh
    -- LOOP 0: slot 4 = .int .i64 0 is written in the loop: left out
    refine ostop_loop (sg := (fun i => sg (heapOf W) l a_l c_l name i 0)) (fun i => i ≤ l.length ∧ ∀ j, j < i → ¬ (l.getD j default).1 = name) (fun i => l.length - i) 0 e7 (meet_cons (by first | exact meetV (.slice a_l l.length c_l) rfl rfl | exact meetI rfl rfl (by omega)) (meet_cons (by first | exact meetV (.int .i64 ((l.length : Nat) : Int)) rfl rfl | exact meetI rfl rfl (by omega)) (meet_cons (by first | rfl | exact meetInt (by omega)) (meet_cons (by exact meetV (strV name) rfl rfl) meet_nil)))) (fun _ _ h => h) (by exact ⟨Nat.zero_le _, fun j h => absurd h (Nat.not_lt_zero _)⟩) ?_
    intro i hI aC w hh
    letI := (sg (heapOf W) l a_l c_l name i 0)
    by_cases q0 : ((i : Nat) : Int) < ((l.length : Nat) : Int)
    · by_cases q1 : (l.getD (i) default).1 = name
      · refine walk_to (F := F2) (T := C2) (fuel := 1000) (d := 10) mixed (allF_cons (FactOk.bi rfl rfl rfl rfl rfl rfl (boolT (by omega))) (allF_cons (FactOk.arrIxa hl (show i < l.length by omega) rfl rfl rfl underMl sizeM rfl rfl rfl) (allF_cons (FactOk.arrLd hl (getSome (show i < l.length by omega)) rfl rfl aggM sizeM rfl rfl rfl) (allF_cons (FactOk.strEqT rfl rfl rfl rfl q1) allF_nil)))) allC_nil ?_ hh
        refine walk_leave (F := F0) (T := C0) (fuel := 1000) (d := 10) mixed allF_nil allC_nil ?_
        exact ostop_ret (s1 := (sg (heapOf W) l a_l c_l name i 0)) (sgR := fun (r : Int) => (sg (heapOf W) l a_l c_l name 0 r)) (R := fun (r : Int) => r = idxN l name) ((i : Nat) : Int) e8 (meet_cons (by first | exact meetV (.int .i64 ((i : Nat) : Int)) rfl rfl | exact meetI rfl rfl (by omega)) (meet_cons (by exact meetV (strV name) rfl rfl) meet_nil)) (fun _ _ h => h) (by first | exact (idxN_at hI.2 (by omega) q1).symm | exact (idxN_none (fun j h => hI.2 j (by omega))).symm) (Nat.le_of_ble_eq_true rfl) ⟨trivial, trivial⟩
      · refine walk_to (F := F3) (T := C3) (fuel := 1000) (d := 10) mixed (allF_cons (FactOk.bi rfl rfl rfl rfl rfl rfl (boolT (by omega))) (allF_cons (FactOk.arrIxa hl (show i < l.length by omega) rfl rfl rfl underMl sizeM rfl rfl rfl) (allF_cons (FactOk.arrLd hl (getSome (show i < l.length by omega)) rfl rfl aggM sizeM rfl rfl rfl) (allF_cons (FactOk.strEqF rfl rfl rfl rfl q1) (allF_cons (FactOk.bi rfl rfl rfl rfl rfl rfl (intI (by omega) (by omega) (by omega))) allF_nil))))) allC_nil ?_ hh
        exact ostop_backM (s1 := (sg (heapOf W) l a_l c_l name i 0)) (sg := (fun i => sg (heapOf W) l a_l c_l name i 0)) (I := fun i => i ≤ l.length ∧ ∀ j, j < i → ¬ (l.getD j default).1 = name) (μ := fun i => l.length - i) (x := i) (i + 1) e9 (meet_cons (by first | exact meetV (.slice a_l l.length c_l) rfl rfl | exact meetI rfl rfl (by omega)) (meet_cons (by first | exact meetV (.int .i64 ((l.length : Nat) : Int)) rfl rfl | exact meetI rfl rfl (by omega)) (meet_cons (by first | exact meetV (.int .i64 ((i + 1 : Nat) : Int)) rfl rfl | exact meetI rfl rfl (by omega)) (meet_cons (by exact meetV (strV name) rfl rfl) meet_nil)))) (fun _ _ h => h) (by exact ⟨by omega, fun j h => by rcases Nat.lt_or_ge j i with h1 | h1; exact hI.2 j h1; rw [show j = i by omega]; exact q1⟩) (by (try dsimp only); omega)
    · refine walk_to (F := F4) (T := C4) (fuel := 1000) (d := 10) mixed (allF_cons (FactOk.bi rfl rfl rfl rfl rfl rfl (boolF (by omega))) allF_nil) allC_nil ?_ hh
      refine walk_leave (F := F0) (T := C0) (fuel := 1000) (d := 10) mixed allF_nil allC_nil ?_
      exact ostop_ret (s1 := (sg (heapOf W) l a_l c_l name i 0)) (sgR := fun (r : Int) => (sg (heapOf W) l a_l c_l name 0 r)) (R := fun (r : Int) => r = idxN l name) (-1) e10 (meet_cons (by first | rfl | exact meetInt (by omega)) (meet_cons (by exact meetV (strV name) rfl rfl) meet_nil)) (fun _ _ h => h) (by first | exact (idxN_at hI.2 (by omega) q1).symm | exact (idxN_none (fun j h => hI.2 j (by omega))).symm) (Nat.le_of_ble_eq_true rfl) ⟨trivial, trivial⟩
  · intro r hY0 aC w hh
    letI := (sg (heapOf W) l a_l c_l name 0 r)
    by_cases p0 : 0 ≤ r
    · refine walk_ops (F := F5) (T := C5) (fuel := 1000) (d := 10) mixed (allF_cons (FactOk.maxI rfl rfl rfl rfl rfl rfl) (allF_cons (FactOk.bi rfl rfl rfl rfl rfl rfl (boolT (by omega))) allF_nil)) allC_nil ?_ hh
      exact ostop_end e11 fun w2 hLow hIn => ⟨(by first | (rw [← hY0, decide_eq_true (by omega)]; rfl) | (rw [← hY0, decide_eq_false (by omega)]; rfl)), hLow⟩   -- returns .tuple ⟨[symv 15, .bool true]⟩
    · refine walk_ops (F := F6) (T := C6) (fuel := 1000) (d := 10) mixed (allF_cons (FactOk.maxI rfl rfl rfl rfl rfl rfl) (allF_cons (FactOk.bi rfl rfl rfl rfl rfl rfl (boolF (by omega))) allF_nil)) allC_nil ?_ hh
      exact ostop_end e12 fun w2 hLow hIn => ⟨(by first | (rw [← hY0, decide_eq_true (by omega)]; rfl) | (rw [← hY0, decide_eq_false (by omega)]; rfl)), hLow⟩   -- returns .tuple ⟨[symv 15, .bool false]⟩
end FindG
end AE
end Go.Proofs.YtblhndlmgibljaaDoor

/- What the functions of the materials answer, as facts for the walks of the laws. -/
namespace Go.Proofs.YtblhndlmgibljaaDoor
open Go Go.Proofs Go.RowKit
namespace AE
theorem fewM_len {l : List Mt} (h : fewM l) : l.length ≤ 1000000 := by have := h.1; omega
section
variable [Sig]
theorem callSanity (hK : KindsM Sig.imm) : CallFactOk Tryd.prog (9, [], .bool true) :=
  callAny (a := #[]) rfl rfl rfl rfl fun w hw => SanG.any w (hK.mono hw)
theorem callFewT {x : Value} {u : Value} {l : List Mt} (hp : plainSL [x] = true) (ev : interpL [x] = [u]) (hl : Arr Sig.imm 8 encM u l) (h : fewM l) : CallFactOk Tryd.prog (10, [x], .bool true) :=
  callAny (a := #[u]) hp rfl ev rfl fun w hw => (FewG.any w (hl.mono hw)).mono fun e w' h' => by rw [decide_eq_true h] at h'; exact h'
theorem callFewF {x : Value} {u : Value} {l : List Mt} (hp : plainSL [x] = true) (ev : interpL [x] = [u]) (hl : Arr Sig.imm 8 encM u l) (h : ¬ fewM l) : CallFactOk Tryd.prog (10, [x], .bool false) :=
  callAny (a := #[u]) hp rfl ev rfl fun w hw => (FewG.any w (hl.mono hw)).mono fun e w' h' => by rw [decide_eq_false h] at h'; exact h'
theorem callFind {x y r : Value} {u : Value} {l : List Mt} {name : Bs} (hp : plainSL [x, y] = true) (hr : plainS r = true) (ev : interpL [x, y] = [u, strV name]) (er : interp r = .tuple #[.int .i64 (max 0 (idxN l name)), .bool (decide (0 ≤ idxN l name))]) (hl : Arr Sig.imm 8 encM u l) (hn : l.length ≤ 1000000) : CallFactOk Tryd.prog (17, [x, y], r) :=
  callAny (a := #[u, strV name]) hp hr ev er fun w hw => FindG.any w (hl.mono hw) name hn
theorem callRFind {x y r : Value} {u : Value} {l : List Mt} {name : Bs} (hp : plainSL [x, y] = true) (hr : plainS r = true) (ev : interpL [x, y] = [u, strV name]) (er : interp r = .tuple #[.int .i64 (max 0 (idxN l name)), .bool (decide (0 ≤ idxN l name))]) (hl : Arr Sig.imm 8 encM u l) (hn : l.length ≤ 1000000) : CallFactOk Tryd.prog (18, [x, y], r) :=
  callAny (a := #[u, strV name]) hp hr ev er fun w hw => RFindG.any w (hl.mono hw) name hn
theorem callMAt {x y r : Value} {u : Value} {l : List Mt} {cell : Int} (hp : plainSL [x, y] = true) (hr : plainS r = true) (ev : interpL [x, y] = [u, .int .i64 cell]) (er : interp r = M.val (atM l cell)) (hl : Arr Sig.imm 8 encM u l) : CallFactOk Tryd.prog (41, [x, y], r) :=
  callAny (a := #[u, .int .i64 cell]) hp hr ev er fun w hw => AtG.any w (hl.mono hw) cell
theorem callRAt {x y r : Value} {u : Value} {l : List Mt} {cell : Int} (hp : plainSL [x, y] = true) (hr : plainS r = true) (ev : interpL [x, y] = [u, .int .i64 cell]) (er : interp r = M.val (atM l cell)) (hl : Arr Sig.imm 8 encM u l) : CallFactOk Tryd.prog (19, [x, y], r) :=
  callAny (a := #[u, .int .i64 cell]) hp hr ev er fun w hw => RAtG.any w (hl.mono hw) cell
end
end AE
end Go.Proofs.YtblhndlmgibljaaDoor

/- What is checked of a table of materials: plain laws. -/
namespace Go.Proofs.YtblhndlmgibljaaDoor
open Go Go.Proofs Go.RowKit
namespace AE

/-- A letter. -/
def letP (r : Nat) : Bool := decide (97 ≤ r) && decide (r ≤ 122)
/-- What no name holds. -/
def badP (r : Nat) : Bool := !letP r && !decide (r = 45)
/-- A name, as the program reads it. -/
def nameP (s : Bs) : Prop := (0 < s.length ∧ s.length ≤ 32) ∧ ¬ (((s.getD 0 0).toNat : Nat) : Int) = 45 ∧ ¬ (((s.getD ((((s.length : Nat) : Int) - 1)).toNat 0).toNat : Nat) : Int) = 45 ∧ Lib.idxFunc badP true ⟨s.toArray⟩ < 0
instance (s : Bs) : Decidable (nameP s) := by unfold nameP; infer_instance

/- kinds: word, solid, liquid, falling -/
abbrev Kd := Bs × Bool × Bool × Bool
def encK (x : Kd) : List Value := [strV x.1, .bool x.2.1, .bool x.2.2.1, .bool x.2.2.2]
abbrev K.val (x : Kd) : Value := .agg ⟨encK x⟩
def kindM (x : Mt) : Kd :=
  if x.2.1 = true then (if x.2.2.1 = true then ([], false, false, false) else if x.2.2.2.1 = true then ([102, 97, 108, 108, 105, 110, 103], true, false, true) else ([115, 111, 108, 105, 100], true, false, false))
  else if x.2.2.1 = true then (if x.2.2.2.1 = true then ([], false, false, false) else ([108, 105, 113, 117, 105, 100], false, true, false))
  else if x.2.2.2.1 = true then ([], false, false, false) else ([103, 97, 115], false, false, false)
section
variable {x : Mt}
theorem kindM_gas (h0 : ¬ x.2.1 = true) (h1 : ¬ x.2.2.1 = true) (h2 : ¬ x.2.2.2.1 = true) : kindM x = ([103, 97, 115], false, false, false) := by unfold kindM; rw [if_neg h0, if_neg h1, if_neg h2]
theorem kindM_sol (h0 : x.2.1 = true) (h1 : ¬ x.2.2.1 = true) (h2 : ¬ x.2.2.2.1 = true) : kindM x = ([115, 111, 108, 105, 100], true, false, false) := by unfold kindM; rw [if_pos h0, if_neg h1, if_neg h2]
theorem kindM_fal (h0 : x.2.1 = true) (h1 : ¬ x.2.2.1 = true) (h2 : x.2.2.2.1 = true) : kindM x = ([102, 97, 108, 108, 105, 110, 103], true, false, true) := by unfold kindM; rw [if_pos h0, if_neg h1, if_pos h2]
theorem kindM_liq (h0 : ¬ x.2.1 = true) (h1 : x.2.2.1 = true) (h2 : ¬ x.2.2.2.1 = true) : kindM x = ([108, 105, 113, 117, 105, 100], false, true, false) := by unfold kindM; rw [if_neg h0, if_pos h1, if_neg h2]
theorem kindM_no1 (h0 : x.2.1 = true) (h1 : x.2.2.1 = true) : kindM x = ([], false, false, false) := by unfold kindM; rw [if_pos h0, if_pos h1]
theorem kindM_no2 (h0 : ¬ x.2.1 = true) (h2 : x.2.2.2.1 = true) : kindM x = ([], false, false, false) := by unfold kindM; rw [if_neg h0]; split <;> first | rfl | rw [if_pos h2]
end

/-- A material is valid. -/
def validM (x : Mt) : Prop := nameP x.1 ∧ ¬ (kindM x).1 = [] ∧ 1 ≤ x.2.2.2.2.1 ∧ x.2.2.2.2.1 ≤ 16 ∧ 0 ≤ x.2.2.2.2.2.1 ∧ x.2.2.2.2.2.1 ≤ 15 ∧ 0 ≤ x.2.2.2.2.2.2.1 ∧ x.2.2.2.2.2.2.1 ≤ 15 ∧ 0 ≤ x.2.2.2.2.2.2.2 ∧ x.2.2.2.2.2.2.2 ≤ 15
instance (x : Mt) : Decidable (validM x) := by unfold validM; infer_instance

def airM : Mt := ([97, 105, 114], false, false, false, 1, 0, 0, 0)
/-- The names ahead of a place. -/
def namesTo (l : List Mt) (i : Nat) : List Bs := (l.take i).map (·.1)
/-- What is wrong at a place. -/
def badAt (l : List Mt) (i : Nat) : Prop := ¬ validM (l.getD i default) ∨ (l.getD i default).1 ∈ namesTo l i
instance (l : List Mt) (i : Nat) : Decidable (badAt l i) := by unfold badAt; infer_instance
/-- What Check answers. -/
def chkM (l : List Mt) : Int × Int :=
  if 256 < l.length then (-1, 2) else if l.length = 0 then (-1, 1) else if ¬ l.getD 0 default = airM then (0, 1) else
  match (List.range l.length).find? (fun i => decide (badAt l i)) with
  | some i => (i, if validM (l.getD i default) then 10 else 1)
  | none => (0, 0)

section
variable {l : List Mt}
theorem chkM_long (h : 256 < l.length) : chkM l = (-1, 2) := by unfold chkM; rw [if_pos h]
theorem chkM_nil (h0 : ¬ 256 < l.length) (h : l.length = 0) : chkM l = (-1, 1) := by unfold chkM; rw [if_neg h0, if_pos h]
theorem chkM_air (h0 : ¬ 256 < l.length) (h1 : ¬ l.length = 0) (h : ¬ l.getD 0 default = airM) : chkM l = (0, 1) := by unfold chkM; rw [if_neg h0, if_neg h1, if_pos h]
theorem find_first {p : Nat → Bool} {n i : Nat} (hi : i < n) (h : ∀ j, j < i → p j = false) (hp : p i = true) : (List.range n).find? p = some i := by
  rw [List.find?_eq_some_iff_getElem]
  refine ⟨hp, i, by simpa using hi, by simp, fun j hj => ?_⟩
  simp [h j hj]
theorem chkM_bad {i : Nat} (h0 : ¬ 256 < l.length) (h1 : ¬ l.length = 0) (ha : l.getD 0 default = airM) (hi : i < l.length) (h : ∀ j, j < i → ¬ badAt l j) (hb : ¬ validM (l.getD i default)) : chkM l = ((i : Int), 1) := by
  unfold chkM
  rw [if_neg h0, if_neg h1, if_neg (fun h => h ha), find_first hi (fun j hj => decide_eq_false (h j hj)) (decide_eq_true (.inl hb))]
  simp only
  rw [if_neg hb]
theorem chkM_two {i : Nat} (h0 : ¬ 256 < l.length) (h1 : ¬ l.length = 0) (ha : l.getD 0 default = airM) (hi : i < l.length) (h : ∀ j, j < i → ¬ badAt l j) (hv : validM (l.getD i default)) (hb : (l.getD i default).1 ∈ namesTo l i) : chkM l = ((i : Int), 10) := by
  unfold chkM
  rw [if_neg h0, if_neg h1, if_neg (fun h => h ha), find_first hi (fun j hj => decide_eq_false (h j hj)) (decide_eq_true (.inr hb))]
  simp only
  rw [if_pos hv]
theorem chkM_ok (h0 : ¬ 256 < l.length) (h1 : ¬ l.length = 0) (ha : l.getD 0 default = airM) (h : ∀ j, j < l.length → ¬ badAt l j) : chkM l = (0, 0) := by
  unfold chkM
  rw [if_neg h0, if_neg h1, if_neg (fun h => h ha), List.find?_eq_none.2 fun j hj => by simpa using h j (by simpa using hj)]
theorem badAt_no {i : Nat} (hv : validM (l.getD i default)) (hb : ¬ (l.getD i default).1 ∈ namesTo l i) : ¬ badAt l i := fun h => h.elim (fun h => h hv) hb
theorem namesTo_zero : namesTo l 0 = [] := rfl
theorem namesTo_succ {i : Nat} (hi : i < l.length) : namesTo l (i + 1) = namesTo l i ++ [(l.getD i default).1] := by
  unfold namesTo
  rw [List.take_add_one, List.map_append, List.getElem?_eq_getElem hi, List.getD_eq_getElem?_getD, List.getElem?_eq_getElem hi]
  rfl
/-- A table that Check accepts. -/
theorem chkM_zero (h : (chkM l).2 = 0) : l.length ≤ 256 ∧ 0 < l.length ∧ l.getD 0 default = airM ∧ ∀ j, j < l.length → ¬ badAt l j := by
  unfold chkM at h
  split at h
  · cases h
  split at h
  · cases h
  split at h
  · cases h
  rename_i h0 h1 ha
  refine ⟨by omega, by omega, Classical.not_not.1 ha, fun j hj hb => ?_⟩
  split at h
  · simp only at h
    split at h <;> cases h
  · rename_i hn
    have := List.find?_eq_none.1 hn j (by simpa using hj)
    simp [hb] at this
theorem chkM_fst (l : List Mt) : -1 ≤ (chkM l).1 ∧ (chkM l).1 < l.length + 1 := by
  unfold chkM
  split
  · simp only; omega
  split
  · simp only; omega
  split
  · simp only; omega
  split
  · rename_i i hi
    have := List.mem_of_find?_eq_some hi
    simp at this
    simp only; omega
  · simp only; omega
end

/- the map of names in Check -/
theorem mapT1 : pureRun Tryd.prog (underlying 49) = some (.map 9 4) := by kernel_rfl
theorem mapT2 : pureRun Tryd.prog (underlying 9) = some .string := by kernel_rfl
theorem mapZ : pureRun Tryd.prog (zeroValue 4) = some (.bool false) := by kernel_rfl
theorem mapCk (b : Bool) (n : Bs) : pureRun Tryd.prog (Instr.checkKey b 10000 9 (strV n)) = some () := by kernel_rfl
end AE
end Go.Proofs.YtblhndlmgibljaaDoor

/- The names of materials: what isName answers. -/
namespace Go.Proofs.YtblhndlmgibljaaDoor
open Go Go.Proofs Go.Shelf Go.RowKit Go.Lib
set_option maxRecDepth 100000

def laysGw15_ren : Go.Shelf.Ren := ⟨fun | 15 => 62 | 20 => 70 | n => n, fun | 9 => 9 | 23 => 89 | 3 => 3 | 4 => 4 | 0 => 0 | 21 => 21 | n => n, fun | n => n⟩
theorem laysGw15 : Go.Proofs.LaysGw.n15 Tryd.prog laysGw15_ren := {
  mixed := by kernel_rfl
  f15 := Tryd.func62.trans (congrArg some (by kernel_rfl))
  f20 := Tryd.func70.trans (congrArg some (by kernel_rfl))
  t0 := Tryd.underlying0
  a0 := Tryd.isAgg0
  z0 := Tryd.sizeOf0
  v0 := Tryd.zeroValue0
  i0 := by kernel_rfl
  t3 := Tryd.underlying3
  a3 := Tryd.isAgg3
  z3 := Tryd.sizeOf3
  v3 := Tryd.zeroValue3
  i3 := by kernel_rfl
  t4 := Tryd.underlying4
  a4 := Tryd.isAgg4
  z4 := Tryd.sizeOf4
  v4 := Tryd.zeroValue4
  i4 := by kernel_rfl
  t9 := Tryd.underlying9
  a9 := Tryd.isAgg9
  z9 := Tryd.sizeOf9
  v9 := Tryd.zeroValue9
  i9 := by kernel_rfl
  t21 := Tryd.underlying21
  a21 := Tryd.isAgg21
  z21 := Tryd.sizeOf21
  v21 := Tryd.zeroValue21
  i21 := by kernel_rfl
  t23 := Tryd.underlying89
  a23 := Tryd.isAgg89
  z23 := Tryd.sizeOf89
  v23 := Tryd.zeroValue89
  i23 := by kernel_rfl }
theorem strings_IndexFunc (g : Nat) (lb : Array Value) (eg : ∀ args w, (callFunc g args).run Tryd.prog w = .ok (.enter g args) w) (p : Nat → Bool) (s : ByteArray) (w : World) (hp : PredAt Tryd.prog g lb encR p w) :
    Calls Tryd.prog 62 #[.string s, .func (.func g) #[] lb] w fun e w' => e = .returned (.int .i64 (Lib.idxFunc p true s)) ∧ Below w.heap.size w w' := Any.strings_IndexFunc laysGw15 g lb eg p s w hp

namespace AE
theorem letters_any (r : Nat) (W : World) : Calls Tryd.prog 61 #[encR r] W fun e w' => e = .returned (.bool (letP r)) ∧ ∃ q, w' = W.drewN q := by
  by_cases h1 : 97 ≤ r <;> by_cases h2 : r ≤ 122
  all_goals
    have z1 : (97 : Int) ≤ (r : Int) ↔ 97 ≤ r := by omega
    have z2 : (r : Int) ≤ 122 ↔ r ≤ 122 := by omega
    go_enter Tryd.func61, Tryd.ntmps61
    go_wp2
    all_goals first | (exfalso; omega) | (go_ret; exact ⟨by simp [letP, h1, h2], 0, rfl⟩)

set_option maxHeartbeats 4000000 in
theorem bad_at (w : World) (B off : Nat) (hB : B < w.heap.size) (hc : w.cell? ⟨B, off, none⟩ = some (.func (.func 61) #[] #[])) :
    PredAt Tryd.prog 63 #[.pointer (some ⟨B, off, none⟩)] encR badP w := fun W r hb => by
  have hc' : W.cell? ⟨B, off, none⟩ = some (.func (.func 61) #[] #[]) := (hb.cell (p := ⟨B, off, none⟩) hB).trans hc
  have hL := letters_any r W
  unfold FnGives
  cases h1 : letP r <;> by_cases z2 : (r : Int) = 45
  all_goals
    have h2 : r = 45 ↔ (r : Int) = 45 := by omega
    rw [h1] at hL
    go_enter Tryd.func63, Tryd.ntmps63
    go_wp2_with (go_at_call 61; refine hL.mono ?_; rintro e w' ⟨rfl, q, rfl⟩)
    all_goals first | (go_ret; exact ⟨by simp [badP, h1, h2, z2], q, rfl⟩) | omega


theorem boxF_not (g : FuncId) (u : Value) : plainS (boxF g u) = false := by unfold boxF; simp [plainS, plainSL]
theorem callIdxF [Sig] {x r : Value} {s : Bs} (hp : plainS x = true) (hr : plainS r = true) (ex : interp x = strV s) (er : interp r = .int .i64 (Lib.idxFunc badP true ⟨s.toArray⟩)) :
    CallFactR Tryd.prog (62, [x, boxF 63 (.func (.func 61) ⟨[]⟩ ⟨[]⟩)], r) := by
  intro w _ us ha
  match us, ha with
  | [a1, a2], ⟨h1, h2, _⟩ =>
    have e1 : a1 = strV s := by
      rcases h1 with ⟨_, h⟩ | ⟨g, u, B, off, h, _⟩
      · rw [h, ex]
      · rw [h, boxF_not] at hp; cases hp
    rcases h2 with ⟨h, _⟩ | ⟨g, u, B, off, h, _, e2, hB, hc⟩
    · rw [boxF_not] at h; cases h
    · unfold boxF at h
      simp only [Value.func.injEq, Fn.func.injEq, Array.mk.injEq, List.cons.injEq, Value.agg.injEq, and_true, true_and] at h
      obtain ⟨rfl, rfl⟩ := h
      subst e1 e2
      refine (strings_IndexFunc 63 #[.pointer (some ⟨B, off, none⟩)] (enters_of Tryd.func63 (by kernel_rfl) rfl) badP ⟨s.toArray⟩ w (bad_at w B off hB hc)).mono fun e w' ⟨he, hb⟩ => ?_
      exact ⟨_, he, fun φ => by rw [← er]; exact VRel.of_plainS φ r hr, ⟨hb, Nat.le_refl _⟩⟩
  | [], h => exact h.elim
  | [_], h => exact h.2.elim
  | _ :: _ :: _ :: _, h => exact h.2.2.elim
end AE
end Go.Proofs.YtblhndlmgibljaaDoor

/- the walks of isName and of -/
namespace Go.Proofs.YtblhndlmgibljaaDoor
open Go Go.Proofs Go.RowKit
set_option maxRecDepth 100000
namespace AE
namespace NameG
noncomputable def body : Code := (Tryd.f47.body).getD .skip
def N : Nat := 31
noncomputable abbrev at' (N : Nat) (F : List (FOp × Value)) (C : List (FuncId × List Value × Value)) (c : Code) (s : ASt) : Option Stop := evalTo Tryd.prog F C N 1000 10 c s
noncomputable abbrev leave' (N : Nat) (F : List (FOp × Value)) (C : List (FuncId × List Value × Value)) (ks : List KI) (o : Option Stop) : Option Stop := evalLeave Tryd.prog F C N 1000 10 ks o
noncomputable abbrev unr' (N : Nat) (F : List (FOp × Value)) (C : List (FuncId × List Value × Value)) (m : Nat) (o : Option Stop) : Option Stop := evalUnroll Tryd.prog F C N 1000 10 m o
noncomputable abbrev res' (N : Nat) (F : List (FOp × Value)) (C : List (FuncId × List Value × Value)) (ks : List KI) (x : AX) (s : ASt) : Option Stop := evalRes Tryd.prog F C N 1000 10 ks x s
noncomputable abbrev ops' (N : Nat) (F : List (FOp × Value)) (C : List (FuncId × List Value × Value)) (r : List Oper) (ops : Array Oper) (ks : List KI) (s : ASt) : Option Stop := evalOps Tryd.prog F C N 1000 10 r ops ks s
def s0 : ASt := { sl := slots [(0, symv 0)], ms := [], A := start }
def F0 : List (FOp × Value) := [(.len #[9] 3 (symv 0), symv 1),
    (.bin .gtr 3 (symv 1) (.int .i64 0), .bool true),
    (.bin .leq 3 (symv 1) (.int .i64 32), .bool true),
    (.ix 9 (symv 0) (.int .i64 0), symv 2),
    (.bin .neq 5 (symv 2) (.int .u8 45), .bool false)]
def C0 : List (FuncId × List Value × Value) := []
theorem e0 : endVal Tryd.prog Tryd.f47 (at' 31 F0 C0 body s0) = some (.bool false) := by kernel_rfl
def F1 : List (FOp × Value) := [(.len #[9] 3 (symv 0), symv 1),
    (.bin .gtr 3 (symv 1) (.int .i64 0), .bool true),
    (.bin .leq 3 (symv 1) (.int .i64 32), .bool true),
    (.ix 9 (symv 0) (.int .i64 0), symv 2),
    (.bin .neq 5 (symv 2) (.int .u8 45), .bool true),
    (.bin .sub 3 (symv 1) (.int .i64 1), symv 3),
    (.ix 9 (symv 0) (symv 3), symv 4),
    (.bin .neq 5 (symv 4) (.int .u8 45), .bool false)]
def C1 : List (FuncId × List Value × Value) := []
theorem e1 : endVal Tryd.prog Tryd.f47 (at' 31 F1 C1 body s0) = some (.bool false) := by kernel_rfl
def F2 : List (FOp × Value) := [(.len #[9] 3 (symv 0), symv 1),
    (.bin .gtr 3 (symv 1) (.int .i64 0), .bool true),
    (.bin .leq 3 (symv 1) (.int .i64 32), .bool true),
    (.ix 9 (symv 0) (.int .i64 0), symv 2),
    (.bin .neq 5 (symv 2) (.int .u8 45), .bool true),
    (.bin .sub 3 (symv 1) (.int .i64 1), symv 3),
    (.ix 9 (symv 0) (symv 3), symv 4),
    (.bin .neq 5 (symv 4) (.int .u8 45), .bool true),
    (.bin .lss 3 (symv 5) (.int .i64 0), .bool true)]
def C2 : List (FuncId × List Value × Value) := [(62, [symv 0, .func (.func 63) ⟨[]⟩ ⟨[.agg ⟨[.slice none 7 7, .func (.func 61) ⟨[]⟩ ⟨[]⟩]⟩]⟩], symv 5)]
theorem e2 : endVal Tryd.prog Tryd.f47 (at' 31 F2 C2 body s0) = some (.bool true) := by kernel_rfl
def F3 : List (FOp × Value) := [(.len #[9] 3 (symv 0), symv 1),
    (.bin .gtr 3 (symv 1) (.int .i64 0), .bool true),
    (.bin .leq 3 (symv 1) (.int .i64 32), .bool true),
    (.ix 9 (symv 0) (.int .i64 0), symv 2),
    (.bin .neq 5 (symv 2) (.int .u8 45), .bool true),
    (.bin .sub 3 (symv 1) (.int .i64 1), symv 3),
    (.ix 9 (symv 0) (symv 3), symv 4),
    (.bin .neq 5 (symv 4) (.int .u8 45), .bool true),
    (.bin .lss 3 (symv 5) (.int .i64 0), .bool false)]
def C3 : List (FuncId × List Value × Value) := [(62, [symv 0, .func (.func 63) ⟨[]⟩ ⟨[.agg ⟨[.slice none 7 7, .func (.func 61) ⟨[]⟩ ⟨[]⟩]⟩]⟩], symv 5)]
theorem e3 : endVal Tryd.prog Tryd.f47 (at' 31 F3 C3 body s0) = some (.bool false) := by kernel_rfl
def F4 : List (FOp × Value) := [(.len #[9] 3 (symv 0), symv 1),
    (.bin .gtr 3 (symv 1) (.int .i64 0), .bool true),
    (.bin .leq 3 (symv 1) (.int .i64 32), .bool false)]
def C4 : List (FuncId × List Value × Value) := []
theorem e4 : endVal Tryd.prog Tryd.f47 (at' 31 F4 C4 body s0) = some (.bool false) := by kernel_rfl
def F5 : List (FOp × Value) := [(.len #[9] 3 (symv 0), symv 1),
    (.bin .gtr 3 (symv 1) (.int .i64 0), .bool false)]
def C5 : List (FuncId × List Value × Value) := []
theorem e5 : endVal Tryd.prog Tryd.f47 (at' 31 F5 C5 body s0) = some (.bool false) := by kernel_rfl
@[reducible] noncomputable def vL (s : Bs) : List Value := [strV s, .int .i64 ((s.length : Nat) : Int), .int .u8 (((s.getD 0 0).toNat : Nat) : Int), .int .i64 (((s.length : Nat) : Int) - 1), .int .u8 (((s.getD ((((s.length : Nat) : Int) - 1)).toNat 0).toNat : Nat) : Int), .int .i64 (Lib.idxFunc badP true ⟨s.toArray⟩)]
@[reducible] noncomputable def sg (M : Mem) (s : Bs) : Sig := sgL M (vL s)
set_option maxHeartbeats 4000000 in
theorem any (W : World) (s : Bs)  : Calls Tryd.prog 47 #[strV s] W fun e w' => e = .returned (.bool (decide (nameP s))) ∧ Low W.heap.size W w' := by
  refine @walk_enter (sg (heapOf W) s ) Tryd.prog 47 Tryd.f47 body [symv 0] (slots [(0, symv 0)]) N W _ Tryd.func47 (by kernel_rfl) (by kernel_rfl) (by kernel_rfl) (by kernel_rfl) (immW_sgL W _) fun a hh => ?_
  letI := (sg (heapOf W) s )
  by_cases h0 : 0 < ((s.length : Nat) : Int)
  · by_cases h1 : ((s.length : Nat) : Int) ≤ 32
    · by_cases h2 : (((s.getD 0 0).toNat : Nat) : Int) = 45
      · refine walk_to (F := F0) (T := C0) (fuel := 1000) (d := 10) mixed (allF_cons (FactOk.strLen rfl rfl underStr rfl rfl) (allF_cons (FactOk.bi rfl rfl rfl rfl rfl rfl (boolT (by omega))) (allF_cons (FactOk.bi rfl rfl rfl rfl rfl rfl (boolT (by omega))) (allF_cons (FactOk.strIx (l := s) (j := 0) (show 0 < s.length by omega) rfl rfl rfl underStr rfl rfl rfl) (allF_cons (FactOk.bi rfl rfl rfl rfl rfl rfl (nboolF (by omega))) allF_nil))))) allC_nil ?_ hh
        exact ostop_end e0 fun w2 hLow hIn => ⟨(by first | (rw [decide_eq_true (show nameP s from ⟨⟨by omega, by omega⟩, by assumption, by assumption, by assumption⟩)]; rfl) | (rw [decide_eq_false (fun h : nameP s => by have h1 := h.1; have h2 := h.2.1; have h3 := h.2.2.1; have h4 := h.2.2.2; first | omega | contradiction)]; rfl)), hLow⟩   -- returns .bool false
      · by_cases h3 : (((s.getD ((((s.length : Nat) : Int) - 1)).toNat 0).toNat : Nat) : Int) = 45
        · refine walk_to (F := F1) (T := C1) (fuel := 1000) (d := 10) mixed (allF_cons (FactOk.strLen rfl rfl underStr rfl rfl) (allF_cons (FactOk.bi rfl rfl rfl rfl rfl rfl (boolT (by omega))) (allF_cons (FactOk.bi rfl rfl rfl rfl rfl rfl (boolT (by omega))) (allF_cons (FactOk.strIx (l := s) (j := 0) (show 0 < s.length by omega) rfl rfl rfl underStr rfl rfl rfl) (allF_cons (FactOk.bi rfl rfl rfl rfl rfl rfl (nboolT (by omega))) (allF_cons (FactOk.bi rfl rfl rfl rfl rfl rfl (intI (by omega) (by omega) (by omega))) (allF_cons (FactOk.strIx (l := s) (j := ((((s.length : Nat) : Int) - 1)).toNat) (show ((((s.length : Nat) : Int) - 1)).toNat < s.length by omega) rfl rfl rfl underStr rfl (natI (by omega)) rfl) (allF_cons (FactOk.bi rfl rfl rfl rfl rfl rfl (nboolF (by omega))) allF_nil)))))))) allC_nil ?_ hh
          exact ostop_end e1 fun w2 hLow hIn => ⟨(by first | (rw [decide_eq_true (show nameP s from ⟨⟨by omega, by omega⟩, by assumption, by assumption, by assumption⟩)]; rfl) | (rw [decide_eq_false (fun h : nameP s => by have h1 := h.1; have h2 := h.2.1; have h3 := h.2.2.1; have h4 := h.2.2.2; first | omega | contradiction)]; rfl)), hLow⟩   -- returns .bool false
        · by_cases h4 : (Lib.idxFunc badP true ⟨s.toArray⟩) < 0
          · refine walk_to (F := F2) (T := C2) (fuel := 1000) (d := 10) mixed (allF_cons (FactOk.strLen rfl rfl underStr rfl rfl) (allF_cons (FactOk.bi rfl rfl rfl rfl rfl rfl (boolT (by omega))) (allF_cons (FactOk.bi rfl rfl rfl rfl rfl rfl (boolT (by omega))) (allF_cons (FactOk.strIx (l := s) (j := 0) (show 0 < s.length by omega) rfl rfl rfl underStr rfl rfl rfl) (allF_cons (FactOk.bi rfl rfl rfl rfl rfl rfl (nboolT (by omega))) (allF_cons (FactOk.bi rfl rfl rfl rfl rfl rfl (intI (by omega) (by omega) (by omega))) (allF_cons (FactOk.strIx (l := s) (j := ((((s.length : Nat) : Int) - 1)).toNat) (show ((((s.length : Nat) : Int) - 1)).toNat < s.length by omega) rfl rfl rfl underStr rfl (natI (by omega)) rfl) (allF_cons (FactOk.bi rfl rfl rfl rfl rfl rfl (nboolT (by omega))) (allF_cons (FactOk.bi rfl rfl rfl rfl rfl rfl (boolT (by omega))) allF_nil))))))))) (allC_consR (callIdxF rfl rfl rfl rfl) allC_nil) ?_ hh
            exact ostop_end e2 fun w2 hLow hIn => ⟨(by first | (rw [decide_eq_true (show nameP s from ⟨⟨by omega, by omega⟩, by assumption, by assumption, by assumption⟩)]; rfl) | (rw [decide_eq_false (fun h : nameP s => by have h1 := h.1; have h2 := h.2.1; have h3 := h.2.2.1; have h4 := h.2.2.2; first | omega | contradiction)]; rfl)), hLow⟩   -- returns .bool true
          · refine walk_to (F := F3) (T := C3) (fuel := 1000) (d := 10) mixed (allF_cons (FactOk.strLen rfl rfl underStr rfl rfl) (allF_cons (FactOk.bi rfl rfl rfl rfl rfl rfl (boolT (by omega))) (allF_cons (FactOk.bi rfl rfl rfl rfl rfl rfl (boolT (by omega))) (allF_cons (FactOk.strIx (l := s) (j := 0) (show 0 < s.length by omega) rfl rfl rfl underStr rfl rfl rfl) (allF_cons (FactOk.bi rfl rfl rfl rfl rfl rfl (nboolT (by omega))) (allF_cons (FactOk.bi rfl rfl rfl rfl rfl rfl (intI (by omega) (by omega) (by omega))) (allF_cons (FactOk.strIx (l := s) (j := ((((s.length : Nat) : Int) - 1)).toNat) (show ((((s.length : Nat) : Int) - 1)).toNat < s.length by omega) rfl rfl rfl underStr rfl (natI (by omega)) rfl) (allF_cons (FactOk.bi rfl rfl rfl rfl rfl rfl (nboolT (by omega))) (allF_cons (FactOk.bi rfl rfl rfl rfl rfl rfl (boolF (by omega))) allF_nil))))))))) (allC_consR (callIdxF rfl rfl rfl rfl) allC_nil) ?_ hh
            exact ostop_end e3 fun w2 hLow hIn => ⟨(by first | (rw [decide_eq_true (show nameP s from ⟨⟨by omega, by omega⟩, by assumption, by assumption, by assumption⟩)]; rfl) | (rw [decide_eq_false (fun h : nameP s => by have h1 := h.1; have h2 := h.2.1; have h3 := h.2.2.1; have h4 := h.2.2.2; first | omega | contradiction)]; rfl)), hLow⟩   -- returns .bool false
    · refine walk_to (F := F4) (T := C4) (fuel := 1000) (d := 10) mixed (allF_cons (FactOk.strLen rfl rfl underStr rfl rfl) (allF_cons (FactOk.bi rfl rfl rfl rfl rfl rfl (boolT (by omega))) (allF_cons (FactOk.bi rfl rfl rfl rfl rfl rfl (boolF (by omega))) allF_nil))) allC_nil ?_ hh
      exact ostop_end e4 fun w2 hLow hIn => ⟨(by first | (rw [decide_eq_true (show nameP s from ⟨⟨by omega, by omega⟩, by assumption, by assumption, by assumption⟩)]; rfl) | (rw [decide_eq_false (fun h : nameP s => by have h1 := h.1; have h2 := h.2.1; have h3 := h.2.2.1; have h4 := h.2.2.2; first | omega | contradiction)]; rfl)), hLow⟩   -- returns .bool false
  · refine walk_to (F := F5) (T := C5) (fuel := 1000) (d := 10) mixed (allF_cons (FactOk.strLen rfl rfl underStr rfl rfl) (allF_cons (FactOk.bi rfl rfl rfl rfl rfl rfl (boolF (by omega))) allF_nil)) allC_nil ?_ hh
    exact ostop_end e5 fun w2 hLow hIn => ⟨(by first | (rw [decide_eq_true (show nameP s from ⟨⟨by omega, by omega⟩, by assumption, by assumption, by assumption⟩)]; rfl) | (rw [decide_eq_false (fun h : nameP s => by have h1 := h.1; have h2 := h.2.1; have h3 := h.2.2.1; have h4 := h.2.2.2; first | omega | contradiction)]; rfl)), hLow⟩   -- returns .bool false
end NameG
namespace OfG
noncomputable def body : Code := (Tryd.f33.body).getD .skip
def N : Nat := 31
noncomputable abbrev at' (N : Nat) (F : List (FOp × Value)) (C : List (FuncId × List Value × Value)) (c : Code) (s : ASt) : Option Stop := evalTo Tryd.prog F C N 1000 10 c s
noncomputable abbrev leave' (N : Nat) (F : List (FOp × Value)) (C : List (FuncId × List Value × Value)) (ks : List KI) (o : Option Stop) : Option Stop := evalLeave Tryd.prog F C N 1000 10 ks o
noncomputable abbrev unr' (N : Nat) (F : List (FOp × Value)) (C : List (FuncId × List Value × Value)) (m : Nat) (o : Option Stop) : Option Stop := evalUnroll Tryd.prog F C N 1000 10 m o
noncomputable abbrev res' (N : Nat) (F : List (FOp × Value)) (C : List (FuncId × List Value × Value)) (ks : List KI) (x : AX) (s : ASt) : Option Stop := evalRes Tryd.prog F C N 1000 10 ks x s
noncomputable abbrev ops' (N : Nat) (F : List (FOp × Value)) (C : List (FuncId × List Value × Value)) (r : List Oper) (ops : Array Oper) (ks : List KI) (s : ASt) : Option Stop := evalOps Tryd.prog F C N 1000 10 r ops ks s
def s0 : ASt := { sl := slots [(0, .agg ⟨[symv 0, symv 1, symv 2, symv 3, symv 4, symv 5, symv 6, symv 7]⟩)], ms := [], A := start }
def F0 : List (FOp × Value) := [(.ld 78 (symv 1000000), .agg ⟨[strV [103, 97, 115], .bool false, .bool false, .bool false, strV [115, 111, 108, 105, 100], .bool true, .bool false, .bool false, strV [102, 97, 108, 108, 105, 110, 103], .bool true, .bool false, .bool true, strV [108, 105, 113, 117, 105, 100], .bool false, .bool true, .bool false]⟩),
    (.bin .eql 4 (.bool false) (symv 1), .bool false),
    (.bin .eql 4 (.bool true) (symv 1), .bool true),
    (.bin .eql 4 (.bool false) (symv 2), .bool false)]
def C0 : List (FuncId × List Value × Value) := []
theorem e0 : endVal Tryd.prog Tryd.f33 (at' 31 F0 C0 body s0) = some (.agg ⟨[strV [], .bool false, .bool false, .bool false]⟩) := by kernel_rfl
def F1 : List (FOp × Value) := [(.ld 78 (symv 1000000), .agg ⟨[strV [103, 97, 115], .bool false, .bool false, .bool false, strV [115, 111, 108, 105, 100], .bool true, .bool false, .bool false, strV [102, 97, 108, 108, 105, 110, 103], .bool true, .bool false, .bool true, strV [108, 105, 113, 117, 105, 100], .bool false, .bool true, .bool false]⟩),
    (.bin .eql 4 (.bool false) (symv 1), .bool false),
    (.bin .eql 4 (.bool true) (symv 1), .bool true),
    (.bin .eql 4 (.bool false) (symv 2), .bool true),
    (.bin .eql 4 (.bool false) (symv 3), .bool false),
    (.bin .eql 4 (.bool true) (symv 3), .bool true)]
def C1 : List (FuncId × List Value × Value) := []
theorem e1 : endVal Tryd.prog Tryd.f33 (at' 31 F1 C1 body s0) = some (.agg ⟨[strV [102, 97, 108, 108, 105, 110, 103], .bool true, .bool false, .bool true]⟩) := by kernel_rfl
def F2 : List (FOp × Value) := [(.ld 78 (symv 1000000), .agg ⟨[strV [103, 97, 115], .bool false, .bool false, .bool false, strV [115, 111, 108, 105, 100], .bool true, .bool false, .bool false, strV [102, 97, 108, 108, 105, 110, 103], .bool true, .bool false, .bool true, strV [108, 105, 113, 117, 105, 100], .bool false, .bool true, .bool false]⟩),
    (.bin .eql 4 (.bool false) (symv 1), .bool false),
    (.bin .eql 4 (.bool true) (symv 1), .bool true),
    (.bin .eql 4 (.bool false) (symv 2), .bool true),
    (.bin .eql 4 (.bool false) (symv 3), .bool true)]
def C2 : List (FuncId × List Value × Value) := []
theorem e2 : endVal Tryd.prog Tryd.f33 (at' 31 F2 C2 body s0) = some (.agg ⟨[strV [115, 111, 108, 105, 100], .bool true, .bool false, .bool false]⟩) := by kernel_rfl
def F3 : List (FOp × Value) := [(.ld 78 (symv 1000000), .agg ⟨[strV [103, 97, 115], .bool false, .bool false, .bool false, strV [115, 111, 108, 105, 100], .bool true, .bool false, .bool false, strV [102, 97, 108, 108, 105, 110, 103], .bool true, .bool false, .bool true, strV [108, 105, 113, 117, 105, 100], .bool false, .bool true, .bool false]⟩),
    (.bin .eql 4 (.bool false) (symv 1), .bool true),
    (.bin .eql 4 (.bool false) (symv 2), .bool false),
    (.bin .eql 4 (.bool true) (symv 1), .bool false),
    (.bin .eql 4 (.bool true) (symv 2), .bool true),
    (.bin .eql 4 (.bool false) (symv 3), .bool false)]
def C3 : List (FuncId × List Value × Value) := []
theorem e3 : endVal Tryd.prog Tryd.f33 (at' 31 F3 C3 body s0) = some (.agg ⟨[strV [], .bool false, .bool false, .bool false]⟩) := by kernel_rfl
def F4 : List (FOp × Value) := [(.ld 78 (symv 1000000), .agg ⟨[strV [103, 97, 115], .bool false, .bool false, .bool false, strV [115, 111, 108, 105, 100], .bool true, .bool false, .bool false, strV [102, 97, 108, 108, 105, 110, 103], .bool true, .bool false, .bool true, strV [108, 105, 113, 117, 105, 100], .bool false, .bool true, .bool false]⟩),
    (.bin .eql 4 (.bool false) (symv 1), .bool true),
    (.bin .eql 4 (.bool false) (symv 2), .bool false),
    (.bin .eql 4 (.bool true) (symv 1), .bool false),
    (.bin .eql 4 (.bool true) (symv 2), .bool true),
    (.bin .eql 4 (.bool false) (symv 3), .bool true)]
def C4 : List (FuncId × List Value × Value) := []
theorem e4 : endVal Tryd.prog Tryd.f33 (at' 31 F4 C4 body s0) = some (.agg ⟨[strV [108, 105, 113, 117, 105, 100], .bool false, .bool true, .bool false]⟩) := by kernel_rfl
def F5 : List (FOp × Value) := [(.ld 78 (symv 1000000), .agg ⟨[strV [103, 97, 115], .bool false, .bool false, .bool false, strV [115, 111, 108, 105, 100], .bool true, .bool false, .bool false, strV [102, 97, 108, 108, 105, 110, 103], .bool true, .bool false, .bool true, strV [108, 105, 113, 117, 105, 100], .bool false, .bool true, .bool false]⟩),
    (.bin .eql 4 (.bool false) (symv 1), .bool true),
    (.bin .eql 4 (.bool false) (symv 2), .bool true),
    (.bin .eql 4 (.bool false) (symv 3), .bool false),
    (.bin .eql 4 (.bool true) (symv 1), .bool false),
    (.bin .eql 4 (.bool true) (symv 2), .bool false)]
def C5 : List (FuncId × List Value × Value) := []
theorem e5 : endVal Tryd.prog Tryd.f33 (at' 31 F5 C5 body s0) = some (.agg ⟨[strV [], .bool false, .bool false, .bool false]⟩) := by kernel_rfl
def F6 : List (FOp × Value) := [(.ld 78 (symv 1000000), .agg ⟨[strV [103, 97, 115], .bool false, .bool false, .bool false, strV [115, 111, 108, 105, 100], .bool true, .bool false, .bool false, strV [102, 97, 108, 108, 105, 110, 103], .bool true, .bool false, .bool true, strV [108, 105, 113, 117, 105, 100], .bool false, .bool true, .bool false]⟩),
    (.bin .eql 4 (.bool false) (symv 1), .bool true),
    (.bin .eql 4 (.bool false) (symv 2), .bool true),
    (.bin .eql 4 (.bool false) (symv 3), .bool true)]
def C6 : List (FuncId × List Value × Value) := []
theorem e6 : endVal Tryd.prog Tryd.f33 (at' 31 F6 C6 body s0) = some (.agg ⟨[strV [103, 97, 115], .bool false, .bool false, .bool false]⟩) := by kernel_rfl
@[reducible] noncomputable def vL (x : Mt) : List Value := [strV x.1, .bool x.2.1, .bool x.2.2.1, .bool x.2.2.2.1, .int .i64 x.2.2.2.2.1, .int .i64 x.2.2.2.2.2.1, .int .i64 x.2.2.2.2.2.2.1, .int .i64 x.2.2.2.2.2.2.2]
@[reducible] noncomputable def sg (M : Mem) (x : Mt) : Sig := sgL M (vL x)
set_option maxHeartbeats 4000000 in
theorem any (W : World) (x : Mt) (hK : KindsM (heapOf W)) : Calls Tryd.prog 33 #[M.val x] W fun e w' => e = .returned (K.val (kindM x)) ∧ Low W.heap.size W w' := by
  refine @walk_enter (sg (heapOf W) x ) Tryd.prog 33 Tryd.f33 body [.agg ⟨[symv 0, symv 1, symv 2, symv 3, symv 4, symv 5, symv 6, symv 7]⟩] (slots [(0, .agg ⟨[symv 0, symv 1, symv 2, symv 3, symv 4, symv 5, symv 6, symv 7]⟩)]) N W _ Tryd.func33 (by kernel_rfl) (by kernel_rfl) (by kernel_rfl) (by kernel_rfl) (immW_sgL W _) fun a hh => ?_
  letI := (sg (heapOf W) x )
  by_cases h0 : x.2.1 = true
  · by_cases h1 : x.2.2.1 = true
    · refine walk_to (F := F0) (T := C0) (fuel := 1000) (d := 10) mixed (allF_cons (ldG hK (o := 0) (n := 16) rfl rfl (by kernel_rfl) (by kernel_rfl) rfl rfl rfl rfl) (allF_cons (boolEqFT rfl rfl rfl rfl (by decide) h0) (allF_cons (boolEqTT rfl rfl rfl rfl rfl h0) (allF_cons (boolEqFT rfl rfl rfl rfl (by decide) h1) allF_nil)))) allC_nil ?_ hh
      exact ostop_end e0 fun w2 hLow hIn => ⟨(by first | (rw [kindM_gas (by assumption) (by assumption) (by assumption)]; rfl) | (rw [kindM_sol (by assumption) (by assumption) (by assumption)]; rfl) | (rw [kindM_fal (by assumption) (by assumption) (by assumption)]; rfl) | (rw [kindM_liq (by assumption) (by assumption) (by assumption)]; rfl) | (rw [kindM_no1 (by assumption) (by assumption)]; rfl) | (rw [kindM_no2 (by assumption) (by assumption)]; rfl)), hLow⟩   -- returns .agg ⟨[strV [], .bool false, .bool false, .bool false]⟩
    · by_cases h2 : x.2.2.2.1 = true
      · refine walk_to (F := F1) (T := C1) (fuel := 1000) (d := 10) mixed (allF_cons (ldG hK (o := 0) (n := 16) rfl rfl (by kernel_rfl) (by kernel_rfl) rfl rfl rfl rfl) (allF_cons (boolEqFT rfl rfl rfl rfl (by decide) h0) (allF_cons (boolEqTT rfl rfl rfl rfl rfl h0) (allF_cons (boolEqFF rfl rfl rfl rfl (by decide) h1) (allF_cons (boolEqFT rfl rfl rfl rfl (by decide) h2) (allF_cons (boolEqTT rfl rfl rfl rfl rfl h2) allF_nil)))))) allC_nil ?_ hh
        exact ostop_end e1 fun w2 hLow hIn => ⟨(by first | (rw [kindM_gas (by assumption) (by assumption) (by assumption)]; rfl) | (rw [kindM_sol (by assumption) (by assumption) (by assumption)]; rfl) | (rw [kindM_fal (by assumption) (by assumption) (by assumption)]; rfl) | (rw [kindM_liq (by assumption) (by assumption) (by assumption)]; rfl) | (rw [kindM_no1 (by assumption) (by assumption)]; rfl) | (rw [kindM_no2 (by assumption) (by assumption)]; rfl)), hLow⟩   -- returns .agg ⟨[strV [102, 97, 108, 108, 105, 110, 103], .bool true, .bool false, .bool true]⟩
      · refine walk_to (F := F2) (T := C2) (fuel := 1000) (d := 10) mixed (allF_cons (ldG hK (o := 0) (n := 16) rfl rfl (by kernel_rfl) (by kernel_rfl) rfl rfl rfl rfl) (allF_cons (boolEqFT rfl rfl rfl rfl (by decide) h0) (allF_cons (boolEqTT rfl rfl rfl rfl rfl h0) (allF_cons (boolEqFF rfl rfl rfl rfl (by decide) h1) (allF_cons (boolEqFF rfl rfl rfl rfl (by decide) h2) allF_nil))))) allC_nil ?_ hh
        exact ostop_end e2 fun w2 hLow hIn => ⟨(by first | (rw [kindM_gas (by assumption) (by assumption) (by assumption)]; rfl) | (rw [kindM_sol (by assumption) (by assumption) (by assumption)]; rfl) | (rw [kindM_fal (by assumption) (by assumption) (by assumption)]; rfl) | (rw [kindM_liq (by assumption) (by assumption) (by assumption)]; rfl) | (rw [kindM_no1 (by assumption) (by assumption)]; rfl) | (rw [kindM_no2 (by assumption) (by assumption)]; rfl)), hLow⟩   -- returns .agg ⟨[strV [115, 111, 108, 105, 100], .bool true, .bool false, .bool false]⟩
  · by_cases h1 : x.2.2.1 = true
    · by_cases h2 : x.2.2.2.1 = true
      · refine walk_to (F := F3) (T := C3) (fuel := 1000) (d := 10) mixed (allF_cons (ldG hK (o := 0) (n := 16) rfl rfl (by kernel_rfl) (by kernel_rfl) rfl rfl rfl rfl) (allF_cons (boolEqFF rfl rfl rfl rfl (by decide) h0) (allF_cons (boolEqFT rfl rfl rfl rfl (by decide) h1) (allF_cons (boolEqTF rfl rfl rfl rfl rfl h0) (allF_cons (boolEqTT rfl rfl rfl rfl rfl h1) (allF_cons (boolEqFT rfl rfl rfl rfl (by decide) h2) allF_nil)))))) allC_nil ?_ hh
        exact ostop_end e3 fun w2 hLow hIn => ⟨(by first | (rw [kindM_gas (by assumption) (by assumption) (by assumption)]; rfl) | (rw [kindM_sol (by assumption) (by assumption) (by assumption)]; rfl) | (rw [kindM_fal (by assumption) (by assumption) (by assumption)]; rfl) | (rw [kindM_liq (by assumption) (by assumption) (by assumption)]; rfl) | (rw [kindM_no1 (by assumption) (by assumption)]; rfl) | (rw [kindM_no2 (by assumption) (by assumption)]; rfl)), hLow⟩   -- returns .agg ⟨[strV [], .bool false, .bool false, .bool false]⟩
      · refine walk_to (F := F4) (T := C4) (fuel := 1000) (d := 10) mixed (allF_cons (ldG hK (o := 0) (n := 16) rfl rfl (by kernel_rfl) (by kernel_rfl) rfl rfl rfl rfl) (allF_cons (boolEqFF rfl rfl rfl rfl (by decide) h0) (allF_cons (boolEqFT rfl rfl rfl rfl (by decide) h1) (allF_cons (boolEqTF rfl rfl rfl rfl rfl h0) (allF_cons (boolEqTT rfl rfl rfl rfl rfl h1) (allF_cons (boolEqFF rfl rfl rfl rfl (by decide) h2) allF_nil)))))) allC_nil ?_ hh
        exact ostop_end e4 fun w2 hLow hIn => ⟨(by first | (rw [kindM_gas (by assumption) (by assumption) (by assumption)]; rfl) | (rw [kindM_sol (by assumption) (by assumption) (by assumption)]; rfl) | (rw [kindM_fal (by assumption) (by assumption) (by assumption)]; rfl) | (rw [kindM_liq (by assumption) (by assumption) (by assumption)]; rfl) | (rw [kindM_no1 (by assumption) (by assumption)]; rfl) | (rw [kindM_no2 (by assumption) (by assumption)]; rfl)), hLow⟩   -- returns .agg ⟨[strV [108, 105, 113, 117, 105, 100], .bool false, .bool true, .bool false]⟩
    · by_cases h2 : x.2.2.2.1 = true
      · refine walk_to (F := F5) (T := C5) (fuel := 1000) (d := 10) mixed (allF_cons (ldG hK (o := 0) (n := 16) rfl rfl (by kernel_rfl) (by kernel_rfl) rfl rfl rfl rfl) (allF_cons (boolEqFF rfl rfl rfl rfl (by decide) h0) (allF_cons (boolEqFF rfl rfl rfl rfl (by decide) h1) (allF_cons (boolEqFT rfl rfl rfl rfl (by decide) h2) (allF_cons (boolEqTF rfl rfl rfl rfl rfl h0) (allF_cons (boolEqTF rfl rfl rfl rfl rfl h1) allF_nil)))))) allC_nil ?_ hh
        exact ostop_end e5 fun w2 hLow hIn => ⟨(by first | (rw [kindM_gas (by assumption) (by assumption) (by assumption)]; rfl) | (rw [kindM_sol (by assumption) (by assumption) (by assumption)]; rfl) | (rw [kindM_fal (by assumption) (by assumption) (by assumption)]; rfl) | (rw [kindM_liq (by assumption) (by assumption) (by assumption)]; rfl) | (rw [kindM_no1 (by assumption) (by assumption)]; rfl) | (rw [kindM_no2 (by assumption) (by assumption)]; rfl)), hLow⟩   -- returns .agg ⟨[strV [], .bool false, .bool false, .bool false]⟩
      · refine walk_to (F := F6) (T := C6) (fuel := 1000) (d := 10) mixed (allF_cons (ldG hK (o := 0) (n := 16) rfl rfl (by kernel_rfl) (by kernel_rfl) rfl rfl rfl rfl) (allF_cons (boolEqFF rfl rfl rfl rfl (by decide) h0) (allF_cons (boolEqFF rfl rfl rfl rfl (by decide) h1) (allF_cons (boolEqFF rfl rfl rfl rfl (by decide) h2) allF_nil)))) allC_nil ?_ hh
        exact ostop_end e6 fun w2 hLow hIn => ⟨(by first | (rw [kindM_gas (by assumption) (by assumption) (by assumption)]; rfl) | (rw [kindM_sol (by assumption) (by assumption) (by assumption)]; rfl) | (rw [kindM_fal (by assumption) (by assumption) (by assumption)]; rfl) | (rw [kindM_liq (by assumption) (by assumption) (by assumption)]; rfl) | (rw [kindM_no1 (by assumption) (by assumption)]; rfl) | (rw [kindM_no2 (by assumption) (by assumption)]; rfl)), hLow⟩   -- returns .agg ⟨[strV [103, 97, 115], .bool false, .bool false, .bool false]⟩
end OfG
end AE
end Go.Proofs.YtblhndlmgibljaaDoor

/- What isName and of answer, as facts. -/
namespace Go.Proofs.YtblhndlmgibljaaDoor
open Go Go.Proofs Go.RowKit
namespace AE
variable [Sig]
theorem callNameT {x : Value} {s : Bs} (hp : plainSL [x] = true) (ev : interpL [x] = [strV s]) (h : nameP s) : CallFactOk Tryd.prog (47, [x], .bool true) :=
  callAny (a := #[strV s]) hp rfl ev rfl fun w _ => (NameG.any w s).mono fun e w' h' => by rw [decide_eq_true h] at h'; exact h'
theorem callNameF {x : Value} {s : Bs} (hp : plainSL [x] = true) (ev : interpL [x] = [strV s]) (h : ¬ nameP s) : CallFactOk Tryd.prog (47, [x], .bool false) :=
  callAny (a := #[strV s]) hp rfl ev rfl fun w _ => (NameG.any w s).mono fun e w' h' => by rw [decide_eq_false h] at h'; exact h'
theorem callOf {x r : Value} {m : Mt} (hp : plainSL [x] = true) (hr : plainS r = true) (ev : interpL [x] = [M.val m]) (er : interp r = K.val (kindM m)) (hK : KindsM Sig.imm) : CallFactOk Tryd.prog (33, [x], r) :=
  callAny (a := #[M.val m]) hp hr ev er fun w hw => OfG.any w m (hK.mono hw)
end AE
end Go.Proofs.YtblhndlmgibljaaDoor

/- the walk of isMaterial -/
namespace Go.Proofs.YtblhndlmgibljaaDoor
open Go Go.Proofs Go.RowKit
set_option maxRecDepth 100000
namespace AE
namespace ValMG
noncomputable def body : Code := (Tryd.f29.body).getD .skip
def N : Nat := 30
noncomputable abbrev at' (N : Nat) (F : List (FOp × Value)) (C : List (FuncId × List Value × Value)) (c : Code) (s : ASt) : Option Stop := evalTo Tryd.prog F C N 1000 10 c s
noncomputable abbrev leave' (N : Nat) (F : List (FOp × Value)) (C : List (FuncId × List Value × Value)) (ks : List KI) (o : Option Stop) : Option Stop := evalLeave Tryd.prog F C N 1000 10 ks o
noncomputable abbrev unr' (N : Nat) (F : List (FOp × Value)) (C : List (FuncId × List Value × Value)) (m : Nat) (o : Option Stop) : Option Stop := evalUnroll Tryd.prog F C N 1000 10 m o
noncomputable abbrev res' (N : Nat) (F : List (FOp × Value)) (C : List (FuncId × List Value × Value)) (ks : List KI) (x : AX) (s : ASt) : Option Stop := evalRes Tryd.prog F C N 1000 10 ks x s
noncomputable abbrev ops' (N : Nat) (F : List (FOp × Value)) (C : List (FuncId × List Value × Value)) (r : List Oper) (ops : Array Oper) (ks : List KI) (s : ASt) : Option Stop := evalOps Tryd.prog F C N 1000 10 r ops ks s
def s0 : ASt := { sl := slots [(0, .agg ⟨[symv 0, symv 1, symv 2, symv 3, symv 4, symv 5, symv 6, symv 7]⟩)], ms := [], A := start }
def F0 : List (FOp × Value) := [(.bin .lss 3 (symv 5) (.int .i64 0), .bool true),
    (.bin .neq 9 (symv 8) (strV []), .bool false)]
def C0 : List (FuncId × List Value × Value) := [(47, [symv 0], .bool true),
    (33, [.agg ⟨[symv 0, symv 1, symv 2, symv 3, symv 4, symv 5, symv 6, symv 7]⟩], .agg ⟨[symv 8, symv 9, symv 10, symv 11]⟩)]
theorem e0 : endVal Tryd.prog Tryd.f29 (at' 30 F0 C0 body s0) = some (.bool false) := by kernel_rfl
def F1 : List (FOp × Value) := [(.bin .lss 3 (symv 5) (.int .i64 0), .bool true),
    (.bin .neq 9 (symv 8) (strV []), .bool true),
    (.bin .geq 3 (symv 4) (.int .i64 1), .bool true),
    (.bin .leq 3 (symv 4) (.int .i64 16), .bool true)]
def C1 : List (FuncId × List Value × Value) := [(47, [symv 0], .bool true),
    (33, [.agg ⟨[symv 0, symv 1, symv 2, symv 3, symv 4, symv 5, symv 6, symv 7]⟩], .agg ⟨[symv 8, symv 9, symv 10, symv 11]⟩)]
theorem e1 : endVal Tryd.prog Tryd.f29 (at' 30 F1 C1 body s0) = some (.bool false) := by kernel_rfl
def F2 : List (FOp × Value) := [(.bin .lss 3 (symv 5) (.int .i64 0), .bool true),
    (.bin .neq 9 (symv 8) (strV []), .bool true),
    (.bin .geq 3 (symv 4) (.int .i64 1), .bool true),
    (.bin .leq 3 (symv 4) (.int .i64 16), .bool false)]
def C2 : List (FuncId × List Value × Value) := [(47, [symv 0], .bool true),
    (33, [.agg ⟨[symv 0, symv 1, symv 2, symv 3, symv 4, symv 5, symv 6, symv 7]⟩], .agg ⟨[symv 8, symv 9, symv 10, symv 11]⟩)]
theorem e2 : endVal Tryd.prog Tryd.f29 (at' 30 F2 C2 body s0) = some (.bool false) := by kernel_rfl
def F3 : List (FOp × Value) := [(.bin .lss 3 (symv 5) (.int .i64 0), .bool true),
    (.bin .neq 9 (symv 8) (strV []), .bool true),
    (.bin .geq 3 (symv 4) (.int .i64 1), .bool false)]
def C3 : List (FuncId × List Value × Value) := [(47, [symv 0], .bool true),
    (33, [.agg ⟨[symv 0, symv 1, symv 2, symv 3, symv 4, symv 5, symv 6, symv 7]⟩], .agg ⟨[symv 8, symv 9, symv 10, symv 11]⟩)]
theorem e3 : endVal Tryd.prog Tryd.f29 (at' 30 F3 C3 body s0) = some (.bool false) := by kernel_rfl
def F4 : List (FOp × Value) := [(.bin .lss 3 (symv 5) (.int .i64 0), .bool true)]
def C4 : List (FuncId × List Value × Value) := [(47, [symv 0], .bool false)]
theorem e4 : endVal Tryd.prog Tryd.f29 (at' 30 F4 C4 body s0) = some (.bool false) := by kernel_rfl
def F5 : List (FOp × Value) := [(.bin .lss 3 (symv 5) (.int .i64 0), .bool false),
    (.bin .gtr 3 (symv 5) (.int .i64 15), .bool true),
    (.bin .neq 9 (symv 8) (strV []), .bool false)]
def C5 : List (FuncId × List Value × Value) := [(47, [symv 0], .bool true),
    (33, [.agg ⟨[symv 0, symv 1, symv 2, symv 3, symv 4, symv 5, symv 6, symv 7]⟩], .agg ⟨[symv 8, symv 9, symv 10, symv 11]⟩)]
theorem e5 : endVal Tryd.prog Tryd.f29 (at' 30 F5 C5 body s0) = some (.bool false) := by kernel_rfl
def F6 : List (FOp × Value) := [(.bin .lss 3 (symv 5) (.int .i64 0), .bool false),
    (.bin .gtr 3 (symv 5) (.int .i64 15), .bool true),
    (.bin .neq 9 (symv 8) (strV []), .bool true),
    (.bin .geq 3 (symv 4) (.int .i64 1), .bool true),
    (.bin .leq 3 (symv 4) (.int .i64 16), .bool true)]
def C6 : List (FuncId × List Value × Value) := [(47, [symv 0], .bool true),
    (33, [.agg ⟨[symv 0, symv 1, symv 2, symv 3, symv 4, symv 5, symv 6, symv 7]⟩], .agg ⟨[symv 8, symv 9, symv 10, symv 11]⟩)]
theorem e6 : endVal Tryd.prog Tryd.f29 (at' 30 F6 C6 body s0) = some (.bool false) := by kernel_rfl
def F7 : List (FOp × Value) := [(.bin .lss 3 (symv 5) (.int .i64 0), .bool false),
    (.bin .gtr 3 (symv 5) (.int .i64 15), .bool true),
    (.bin .neq 9 (symv 8) (strV []), .bool true),
    (.bin .geq 3 (symv 4) (.int .i64 1), .bool true),
    (.bin .leq 3 (symv 4) (.int .i64 16), .bool false)]
def C7 : List (FuncId × List Value × Value) := [(47, [symv 0], .bool true),
    (33, [.agg ⟨[symv 0, symv 1, symv 2, symv 3, symv 4, symv 5, symv 6, symv 7]⟩], .agg ⟨[symv 8, symv 9, symv 10, symv 11]⟩)]
theorem e7 : endVal Tryd.prog Tryd.f29 (at' 30 F7 C7 body s0) = some (.bool false) := by kernel_rfl
def F8 : List (FOp × Value) := [(.bin .lss 3 (symv 5) (.int .i64 0), .bool false),
    (.bin .gtr 3 (symv 5) (.int .i64 15), .bool true),
    (.bin .neq 9 (symv 8) (strV []), .bool true),
    (.bin .geq 3 (symv 4) (.int .i64 1), .bool false)]
def C8 : List (FuncId × List Value × Value) := [(47, [symv 0], .bool true),
    (33, [.agg ⟨[symv 0, symv 1, symv 2, symv 3, symv 4, symv 5, symv 6, symv 7]⟩], .agg ⟨[symv 8, symv 9, symv 10, symv 11]⟩)]
theorem e8 : endVal Tryd.prog Tryd.f29 (at' 30 F8 C8 body s0) = some (.bool false) := by kernel_rfl
def F9 : List (FOp × Value) := [(.bin .lss 3 (symv 5) (.int .i64 0), .bool false),
    (.bin .gtr 3 (symv 5) (.int .i64 15), .bool true)]
def C9 : List (FuncId × List Value × Value) := [(47, [symv 0], .bool false)]
theorem e9 : endVal Tryd.prog Tryd.f29 (at' 30 F9 C9 body s0) = some (.bool false) := by kernel_rfl
def F10 : List (FOp × Value) := [(.bin .lss 3 (symv 5) (.int .i64 0), .bool false),
    (.bin .gtr 3 (symv 5) (.int .i64 15), .bool false),
    (.bin .lss 3 (symv 6) (.int .i64 0), .bool true),
    (.bin .neq 9 (symv 8) (strV []), .bool false)]
def C10 : List (FuncId × List Value × Value) := [(47, [symv 0], .bool true),
    (33, [.agg ⟨[symv 0, symv 1, symv 2, symv 3, symv 4, symv 5, symv 6, symv 7]⟩], .agg ⟨[symv 8, symv 9, symv 10, symv 11]⟩)]
theorem e10 : endVal Tryd.prog Tryd.f29 (at' 30 F10 C10 body s0) = some (.bool false) := by kernel_rfl
def F11 : List (FOp × Value) := [(.bin .lss 3 (symv 5) (.int .i64 0), .bool false),
    (.bin .gtr 3 (symv 5) (.int .i64 15), .bool false),
    (.bin .lss 3 (symv 6) (.int .i64 0), .bool true),
    (.bin .neq 9 (symv 8) (strV []), .bool true),
    (.bin .geq 3 (symv 4) (.int .i64 1), .bool true),
    (.bin .leq 3 (symv 4) (.int .i64 16), .bool true)]
def C11 : List (FuncId × List Value × Value) := [(47, [symv 0], .bool true),
    (33, [.agg ⟨[symv 0, symv 1, symv 2, symv 3, symv 4, symv 5, symv 6, symv 7]⟩], .agg ⟨[symv 8, symv 9, symv 10, symv 11]⟩)]
theorem e11 : endVal Tryd.prog Tryd.f29 (at' 30 F11 C11 body s0) = some (.bool false) := by kernel_rfl
def F12 : List (FOp × Value) := [(.bin .lss 3 (symv 5) (.int .i64 0), .bool false),
    (.bin .gtr 3 (symv 5) (.int .i64 15), .bool false),
    (.bin .lss 3 (symv 6) (.int .i64 0), .bool true),
    (.bin .neq 9 (symv 8) (strV []), .bool true),
    (.bin .geq 3 (symv 4) (.int .i64 1), .bool true),
    (.bin .leq 3 (symv 4) (.int .i64 16), .bool false)]
def C12 : List (FuncId × List Value × Value) := [(47, [symv 0], .bool true),
    (33, [.agg ⟨[symv 0, symv 1, symv 2, symv 3, symv 4, symv 5, symv 6, symv 7]⟩], .agg ⟨[symv 8, symv 9, symv 10, symv 11]⟩)]
theorem e12 : endVal Tryd.prog Tryd.f29 (at' 30 F12 C12 body s0) = some (.bool false) := by kernel_rfl
def F13 : List (FOp × Value) := [(.bin .lss 3 (symv 5) (.int .i64 0), .bool false),
    (.bin .gtr 3 (symv 5) (.int .i64 15), .bool false),
    (.bin .lss 3 (symv 6) (.int .i64 0), .bool true),
    (.bin .neq 9 (symv 8) (strV []), .bool true),
    (.bin .geq 3 (symv 4) (.int .i64 1), .bool false)]
def C13 : List (FuncId × List Value × Value) := [(47, [symv 0], .bool true),
    (33, [.agg ⟨[symv 0, symv 1, symv 2, symv 3, symv 4, symv 5, symv 6, symv 7]⟩], .agg ⟨[symv 8, symv 9, symv 10, symv 11]⟩)]
theorem e13 : endVal Tryd.prog Tryd.f29 (at' 30 F13 C13 body s0) = some (.bool false) := by kernel_rfl
def F14 : List (FOp × Value) := [(.bin .lss 3 (symv 5) (.int .i64 0), .bool false),
    (.bin .gtr 3 (symv 5) (.int .i64 15), .bool false),
    (.bin .lss 3 (symv 6) (.int .i64 0), .bool true)]
def C14 : List (FuncId × List Value × Value) := [(47, [symv 0], .bool false)]
theorem e14 : endVal Tryd.prog Tryd.f29 (at' 30 F14 C14 body s0) = some (.bool false) := by kernel_rfl
def F15 : List (FOp × Value) := [(.bin .lss 3 (symv 5) (.int .i64 0), .bool false),
    (.bin .gtr 3 (symv 5) (.int .i64 15), .bool false),
    (.bin .lss 3 (symv 6) (.int .i64 0), .bool false),
    (.bin .gtr 3 (symv 6) (.int .i64 15), .bool true),
    (.bin .neq 9 (symv 8) (strV []), .bool false)]
def C15 : List (FuncId × List Value × Value) := [(47, [symv 0], .bool true),
    (33, [.agg ⟨[symv 0, symv 1, symv 2, symv 3, symv 4, symv 5, symv 6, symv 7]⟩], .agg ⟨[symv 8, symv 9, symv 10, symv 11]⟩)]
theorem e15 : endVal Tryd.prog Tryd.f29 (at' 30 F15 C15 body s0) = some (.bool false) := by kernel_rfl
def F16 : List (FOp × Value) := [(.bin .lss 3 (symv 5) (.int .i64 0), .bool false),
    (.bin .gtr 3 (symv 5) (.int .i64 15), .bool false),
    (.bin .lss 3 (symv 6) (.int .i64 0), .bool false),
    (.bin .gtr 3 (symv 6) (.int .i64 15), .bool true),
    (.bin .neq 9 (symv 8) (strV []), .bool true),
    (.bin .geq 3 (symv 4) (.int .i64 1), .bool true),
    (.bin .leq 3 (symv 4) (.int .i64 16), .bool true)]
def C16 : List (FuncId × List Value × Value) := [(47, [symv 0], .bool true),
    (33, [.agg ⟨[symv 0, symv 1, symv 2, symv 3, symv 4, symv 5, symv 6, symv 7]⟩], .agg ⟨[symv 8, symv 9, symv 10, symv 11]⟩)]
theorem e16 : endVal Tryd.prog Tryd.f29 (at' 30 F16 C16 body s0) = some (.bool false) := by kernel_rfl
def F17 : List (FOp × Value) := [(.bin .lss 3 (symv 5) (.int .i64 0), .bool false),
    (.bin .gtr 3 (symv 5) (.int .i64 15), .bool false),
    (.bin .lss 3 (symv 6) (.int .i64 0), .bool false),
    (.bin .gtr 3 (symv 6) (.int .i64 15), .bool true),
    (.bin .neq 9 (symv 8) (strV []), .bool true),
    (.bin .geq 3 (symv 4) (.int .i64 1), .bool true),
    (.bin .leq 3 (symv 4) (.int .i64 16), .bool false)]
def C17 : List (FuncId × List Value × Value) := [(47, [symv 0], .bool true),
    (33, [.agg ⟨[symv 0, symv 1, symv 2, symv 3, symv 4, symv 5, symv 6, symv 7]⟩], .agg ⟨[symv 8, symv 9, symv 10, symv 11]⟩)]
theorem e17 : endVal Tryd.prog Tryd.f29 (at' 30 F17 C17 body s0) = some (.bool false) := by kernel_rfl
def F18 : List (FOp × Value) := [(.bin .lss 3 (symv 5) (.int .i64 0), .bool false),
    (.bin .gtr 3 (symv 5) (.int .i64 15), .bool false),
    (.bin .lss 3 (symv 6) (.int .i64 0), .bool false),
    (.bin .gtr 3 (symv 6) (.int .i64 15), .bool true),
    (.bin .neq 9 (symv 8) (strV []), .bool true),
    (.bin .geq 3 (symv 4) (.int .i64 1), .bool false)]
def C18 : List (FuncId × List Value × Value) := [(47, [symv 0], .bool true),
    (33, [.agg ⟨[symv 0, symv 1, symv 2, symv 3, symv 4, symv 5, symv 6, symv 7]⟩], .agg ⟨[symv 8, symv 9, symv 10, symv 11]⟩)]
theorem e18 : endVal Tryd.prog Tryd.f29 (at' 30 F18 C18 body s0) = some (.bool false) := by kernel_rfl
def F19 : List (FOp × Value) := [(.bin .lss 3 (symv 5) (.int .i64 0), .bool false),
    (.bin .gtr 3 (symv 5) (.int .i64 15), .bool false),
    (.bin .lss 3 (symv 6) (.int .i64 0), .bool false),
    (.bin .gtr 3 (symv 6) (.int .i64 15), .bool true)]
def C19 : List (FuncId × List Value × Value) := [(47, [symv 0], .bool false)]
theorem e19 : endVal Tryd.prog Tryd.f29 (at' 30 F19 C19 body s0) = some (.bool false) := by kernel_rfl
def F20 : List (FOp × Value) := [(.bin .lss 3 (symv 5) (.int .i64 0), .bool false),
    (.bin .gtr 3 (symv 5) (.int .i64 15), .bool false),
    (.bin .lss 3 (symv 6) (.int .i64 0), .bool false),
    (.bin .gtr 3 (symv 6) (.int .i64 15), .bool false),
    (.bin .lss 3 (symv 7) (.int .i64 0), .bool true),
    (.bin .neq 9 (symv 8) (strV []), .bool false)]
def C20 : List (FuncId × List Value × Value) := [(47, [symv 0], .bool true),
    (33, [.agg ⟨[symv 0, symv 1, symv 2, symv 3, symv 4, symv 5, symv 6, symv 7]⟩], .agg ⟨[symv 8, symv 9, symv 10, symv 11]⟩)]
theorem e20 : endVal Tryd.prog Tryd.f29 (at' 30 F20 C20 body s0) = some (.bool false) := by kernel_rfl
def F21 : List (FOp × Value) := [(.bin .lss 3 (symv 5) (.int .i64 0), .bool false),
    (.bin .gtr 3 (symv 5) (.int .i64 15), .bool false),
    (.bin .lss 3 (symv 6) (.int .i64 0), .bool false),
    (.bin .gtr 3 (symv 6) (.int .i64 15), .bool false),
    (.bin .lss 3 (symv 7) (.int .i64 0), .bool true),
    (.bin .neq 9 (symv 8) (strV []), .bool true),
    (.bin .geq 3 (symv 4) (.int .i64 1), .bool true),
    (.bin .leq 3 (symv 4) (.int .i64 16), .bool true)]
def C21 : List (FuncId × List Value × Value) := [(47, [symv 0], .bool true),
    (33, [.agg ⟨[symv 0, symv 1, symv 2, symv 3, symv 4, symv 5, symv 6, symv 7]⟩], .agg ⟨[symv 8, symv 9, symv 10, symv 11]⟩)]
theorem e21 : endVal Tryd.prog Tryd.f29 (at' 30 F21 C21 body s0) = some (.bool false) := by kernel_rfl
def F22 : List (FOp × Value) := [(.bin .lss 3 (symv 5) (.int .i64 0), .bool false),
    (.bin .gtr 3 (symv 5) (.int .i64 15), .bool false),
    (.bin .lss 3 (symv 6) (.int .i64 0), .bool false),
    (.bin .gtr 3 (symv 6) (.int .i64 15), .bool false),
    (.bin .lss 3 (symv 7) (.int .i64 0), .bool true),
    (.bin .neq 9 (symv 8) (strV []), .bool true),
    (.bin .geq 3 (symv 4) (.int .i64 1), .bool true),
    (.bin .leq 3 (symv 4) (.int .i64 16), .bool false)]
def C22 : List (FuncId × List Value × Value) := [(47, [symv 0], .bool true),
    (33, [.agg ⟨[symv 0, symv 1, symv 2, symv 3, symv 4, symv 5, symv 6, symv 7]⟩], .agg ⟨[symv 8, symv 9, symv 10, symv 11]⟩)]
theorem e22 : endVal Tryd.prog Tryd.f29 (at' 30 F22 C22 body s0) = some (.bool false) := by kernel_rfl
def F23 : List (FOp × Value) := [(.bin .lss 3 (symv 5) (.int .i64 0), .bool false),
    (.bin .gtr 3 (symv 5) (.int .i64 15), .bool false),
    (.bin .lss 3 (symv 6) (.int .i64 0), .bool false),
    (.bin .gtr 3 (symv 6) (.int .i64 15), .bool false),
    (.bin .lss 3 (symv 7) (.int .i64 0), .bool true),
    (.bin .neq 9 (symv 8) (strV []), .bool true),
    (.bin .geq 3 (symv 4) (.int .i64 1), .bool false)]
def C23 : List (FuncId × List Value × Value) := [(47, [symv 0], .bool true),
    (33, [.agg ⟨[symv 0, symv 1, symv 2, symv 3, symv 4, symv 5, symv 6, symv 7]⟩], .agg ⟨[symv 8, symv 9, symv 10, symv 11]⟩)]
theorem e23 : endVal Tryd.prog Tryd.f29 (at' 30 F23 C23 body s0) = some (.bool false) := by kernel_rfl
def F24 : List (FOp × Value) := [(.bin .lss 3 (symv 5) (.int .i64 0), .bool false),
    (.bin .gtr 3 (symv 5) (.int .i64 15), .bool false),
    (.bin .lss 3 (symv 6) (.int .i64 0), .bool false),
    (.bin .gtr 3 (symv 6) (.int .i64 15), .bool false),
    (.bin .lss 3 (symv 7) (.int .i64 0), .bool true)]
def C24 : List (FuncId × List Value × Value) := [(47, [symv 0], .bool false)]
theorem e24 : endVal Tryd.prog Tryd.f29 (at' 30 F24 C24 body s0) = some (.bool false) := by kernel_rfl
def F25 : List (FOp × Value) := [(.bin .lss 3 (symv 5) (.int .i64 0), .bool false),
    (.bin .gtr 3 (symv 5) (.int .i64 15), .bool false),
    (.bin .lss 3 (symv 6) (.int .i64 0), .bool false),
    (.bin .gtr 3 (symv 6) (.int .i64 15), .bool false),
    (.bin .lss 3 (symv 7) (.int .i64 0), .bool false),
    (.bin .gtr 3 (symv 7) (.int .i64 15), .bool true),
    (.bin .neq 9 (symv 8) (strV []), .bool false)]
def C25 : List (FuncId × List Value × Value) := [(47, [symv 0], .bool true),
    (33, [.agg ⟨[symv 0, symv 1, symv 2, symv 3, symv 4, symv 5, symv 6, symv 7]⟩], .agg ⟨[symv 8, symv 9, symv 10, symv 11]⟩)]
theorem e25 : endVal Tryd.prog Tryd.f29 (at' 30 F25 C25 body s0) = some (.bool false) := by kernel_rfl
def F26 : List (FOp × Value) := [(.bin .lss 3 (symv 5) (.int .i64 0), .bool false),
    (.bin .gtr 3 (symv 5) (.int .i64 15), .bool false),
    (.bin .lss 3 (symv 6) (.int .i64 0), .bool false),
    (.bin .gtr 3 (symv 6) (.int .i64 15), .bool false),
    (.bin .lss 3 (symv 7) (.int .i64 0), .bool false),
    (.bin .gtr 3 (symv 7) (.int .i64 15), .bool true),
    (.bin .neq 9 (symv 8) (strV []), .bool true),
    (.bin .geq 3 (symv 4) (.int .i64 1), .bool true),
    (.bin .leq 3 (symv 4) (.int .i64 16), .bool true)]
def C26 : List (FuncId × List Value × Value) := [(47, [symv 0], .bool true),
    (33, [.agg ⟨[symv 0, symv 1, symv 2, symv 3, symv 4, symv 5, symv 6, symv 7]⟩], .agg ⟨[symv 8, symv 9, symv 10, symv 11]⟩)]
theorem e26 : endVal Tryd.prog Tryd.f29 (at' 30 F26 C26 body s0) = some (.bool false) := by kernel_rfl
def F27 : List (FOp × Value) := [(.bin .lss 3 (symv 5) (.int .i64 0), .bool false),
    (.bin .gtr 3 (symv 5) (.int .i64 15), .bool false),
    (.bin .lss 3 (symv 6) (.int .i64 0), .bool false),
    (.bin .gtr 3 (symv 6) (.int .i64 15), .bool false),
    (.bin .lss 3 (symv 7) (.int .i64 0), .bool false),
    (.bin .gtr 3 (symv 7) (.int .i64 15), .bool true),
    (.bin .neq 9 (symv 8) (strV []), .bool true),
    (.bin .geq 3 (symv 4) (.int .i64 1), .bool true),
    (.bin .leq 3 (symv 4) (.int .i64 16), .bool false)]
def C27 : List (FuncId × List Value × Value) := [(47, [symv 0], .bool true),
    (33, [.agg ⟨[symv 0, symv 1, symv 2, symv 3, symv 4, symv 5, symv 6, symv 7]⟩], .agg ⟨[symv 8, symv 9, symv 10, symv 11]⟩)]
theorem e27 : endVal Tryd.prog Tryd.f29 (at' 30 F27 C27 body s0) = some (.bool false) := by kernel_rfl
def F28 : List (FOp × Value) := [(.bin .lss 3 (symv 5) (.int .i64 0), .bool false),
    (.bin .gtr 3 (symv 5) (.int .i64 15), .bool false),
    (.bin .lss 3 (symv 6) (.int .i64 0), .bool false),
    (.bin .gtr 3 (symv 6) (.int .i64 15), .bool false),
    (.bin .lss 3 (symv 7) (.int .i64 0), .bool false),
    (.bin .gtr 3 (symv 7) (.int .i64 15), .bool true),
    (.bin .neq 9 (symv 8) (strV []), .bool true),
    (.bin .geq 3 (symv 4) (.int .i64 1), .bool false)]
def C28 : List (FuncId × List Value × Value) := [(47, [symv 0], .bool true),
    (33, [.agg ⟨[symv 0, symv 1, symv 2, symv 3, symv 4, symv 5, symv 6, symv 7]⟩], .agg ⟨[symv 8, symv 9, symv 10, symv 11]⟩)]
theorem e28 : endVal Tryd.prog Tryd.f29 (at' 30 F28 C28 body s0) = some (.bool false) := by kernel_rfl
def F29 : List (FOp × Value) := [(.bin .lss 3 (symv 5) (.int .i64 0), .bool false),
    (.bin .gtr 3 (symv 5) (.int .i64 15), .bool false),
    (.bin .lss 3 (symv 6) (.int .i64 0), .bool false),
    (.bin .gtr 3 (symv 6) (.int .i64 15), .bool false),
    (.bin .lss 3 (symv 7) (.int .i64 0), .bool false),
    (.bin .gtr 3 (symv 7) (.int .i64 15), .bool true)]
def C29 : List (FuncId × List Value × Value) := [(47, [symv 0], .bool false)]
theorem e29 : endVal Tryd.prog Tryd.f29 (at' 30 F29 C29 body s0) = some (.bool false) := by kernel_rfl
def F30 : List (FOp × Value) := [(.bin .lss 3 (symv 5) (.int .i64 0), .bool false),
    (.bin .gtr 3 (symv 5) (.int .i64 15), .bool false),
    (.bin .lss 3 (symv 6) (.int .i64 0), .bool false),
    (.bin .gtr 3 (symv 6) (.int .i64 15), .bool false),
    (.bin .lss 3 (symv 7) (.int .i64 0), .bool false),
    (.bin .gtr 3 (symv 7) (.int .i64 15), .bool false),
    (.bin .neq 9 (symv 8) (strV []), .bool false)]
def C30 : List (FuncId × List Value × Value) := [(47, [symv 0], .bool true),
    (33, [.agg ⟨[symv 0, symv 1, symv 2, symv 3, symv 4, symv 5, symv 6, symv 7]⟩], .agg ⟨[symv 8, symv 9, symv 10, symv 11]⟩)]
theorem e30 : endVal Tryd.prog Tryd.f29 (at' 30 F30 C30 body s0) = some (.bool false) := by kernel_rfl
def F31 : List (FOp × Value) := [(.bin .lss 3 (symv 5) (.int .i64 0), .bool false),
    (.bin .gtr 3 (symv 5) (.int .i64 15), .bool false),
    (.bin .lss 3 (symv 6) (.int .i64 0), .bool false),
    (.bin .gtr 3 (symv 6) (.int .i64 15), .bool false),
    (.bin .lss 3 (symv 7) (.int .i64 0), .bool false),
    (.bin .gtr 3 (symv 7) (.int .i64 15), .bool false),
    (.bin .neq 9 (symv 8) (strV []), .bool true),
    (.bin .geq 3 (symv 4) (.int .i64 1), .bool true),
    (.bin .leq 3 (symv 4) (.int .i64 16), .bool true)]
def C31 : List (FuncId × List Value × Value) := [(47, [symv 0], .bool true),
    (33, [.agg ⟨[symv 0, symv 1, symv 2, symv 3, symv 4, symv 5, symv 6, symv 7]⟩], .agg ⟨[symv 8, symv 9, symv 10, symv 11]⟩)]
theorem e31 : endVal Tryd.prog Tryd.f29 (at' 30 F31 C31 body s0) = some (.bool true) := by kernel_rfl
def F32 : List (FOp × Value) := [(.bin .lss 3 (symv 5) (.int .i64 0), .bool false),
    (.bin .gtr 3 (symv 5) (.int .i64 15), .bool false),
    (.bin .lss 3 (symv 6) (.int .i64 0), .bool false),
    (.bin .gtr 3 (symv 6) (.int .i64 15), .bool false),
    (.bin .lss 3 (symv 7) (.int .i64 0), .bool false),
    (.bin .gtr 3 (symv 7) (.int .i64 15), .bool false),
    (.bin .neq 9 (symv 8) (strV []), .bool true),
    (.bin .geq 3 (symv 4) (.int .i64 1), .bool true),
    (.bin .leq 3 (symv 4) (.int .i64 16), .bool false)]
def C32 : List (FuncId × List Value × Value) := [(47, [symv 0], .bool true),
    (33, [.agg ⟨[symv 0, symv 1, symv 2, symv 3, symv 4, symv 5, symv 6, symv 7]⟩], .agg ⟨[symv 8, symv 9, symv 10, symv 11]⟩)]
theorem e32 : endVal Tryd.prog Tryd.f29 (at' 30 F32 C32 body s0) = some (.bool false) := by kernel_rfl
def F33 : List (FOp × Value) := [(.bin .lss 3 (symv 5) (.int .i64 0), .bool false),
    (.bin .gtr 3 (symv 5) (.int .i64 15), .bool false),
    (.bin .lss 3 (symv 6) (.int .i64 0), .bool false),
    (.bin .gtr 3 (symv 6) (.int .i64 15), .bool false),
    (.bin .lss 3 (symv 7) (.int .i64 0), .bool false),
    (.bin .gtr 3 (symv 7) (.int .i64 15), .bool false),
    (.bin .neq 9 (symv 8) (strV []), .bool true),
    (.bin .geq 3 (symv 4) (.int .i64 1), .bool false)]
def C33 : List (FuncId × List Value × Value) := [(47, [symv 0], .bool true),
    (33, [.agg ⟨[symv 0, symv 1, symv 2, symv 3, symv 4, symv 5, symv 6, symv 7]⟩], .agg ⟨[symv 8, symv 9, symv 10, symv 11]⟩)]
theorem e33 : endVal Tryd.prog Tryd.f29 (at' 30 F33 C33 body s0) = some (.bool false) := by kernel_rfl
def F34 : List (FOp × Value) := [(.bin .lss 3 (symv 5) (.int .i64 0), .bool false),
    (.bin .gtr 3 (symv 5) (.int .i64 15), .bool false),
    (.bin .lss 3 (symv 6) (.int .i64 0), .bool false),
    (.bin .gtr 3 (symv 6) (.int .i64 15), .bool false),
    (.bin .lss 3 (symv 7) (.int .i64 0), .bool false),
    (.bin .gtr 3 (symv 7) (.int .i64 15), .bool false)]
def C34 : List (FuncId × List Value × Value) := [(47, [symv 0], .bool false)]
theorem e34 : endVal Tryd.prog Tryd.f29 (at' 30 F34 C34 body s0) = some (.bool false) := by kernel_rfl
@[reducible] noncomputable def vL (x : Mt) : List Value := [strV x.1, .bool x.2.1, .bool x.2.2.1, .bool x.2.2.2.1, .int .i64 x.2.2.2.2.1, .int .i64 x.2.2.2.2.2.1, .int .i64 x.2.2.2.2.2.2.1, .int .i64 x.2.2.2.2.2.2.2, strV (kindM x).1, .bool (kindM x).2.1, .bool (kindM x).2.2.1, .bool (kindM x).2.2.2]
@[reducible] noncomputable def sg (M : Mem) (x : Mt) : Sig := sgL M (vL x)
set_option maxHeartbeats 4000000 in
theorem any (W : World) (x : Mt) (hK : KindsM (heapOf W)) : Calls Tryd.prog 29 #[M.val x] W fun e w' => e = .returned (.bool (decide (validM x))) ∧ Low W.heap.size W w' := by
  refine @walk_enter (sg (heapOf W) x ) Tryd.prog 29 Tryd.f29 body [.agg ⟨[symv 0, symv 1, symv 2, symv 3, symv 4, symv 5, symv 6, symv 7]⟩] (slots [(0, .agg ⟨[symv 0, symv 1, symv 2, symv 3, symv 4, symv 5, symv 6, symv 7]⟩)]) N W _ Tryd.func29 (by kernel_rfl) (by kernel_rfl) (by kernel_rfl) (by kernel_rfl) (immW_sgL W _) fun a hh => ?_
  letI := (sg (heapOf W) x )
  by_cases h0 : x.2.2.2.2.2.1 < 0
  · by_cases h1 : nameP x.1
    · by_cases h2 : (kindM x).1 = ([] : Bs)
      · refine walk_to (F := F0) (T := C0) (fuel := 1000) (d := 10) mixed (allF_cons (FactOk.bi rfl rfl rfl rfl rfl rfl (boolT (by omega))) (allF_cons (FactOk.strNeT rfl rfl rfl rfl h2) allF_nil)) (allC_cons (callNameT rfl rfl h1) (allC_cons (callOf rfl rfl rfl rfl hK) allC_nil)) ?_ hh
        exact ostop_end e0 fun w2 hLow hIn => ⟨(by first | (rw [decide_eq_true (show validM x from ⟨by assumption, by assumption, by omega, by omega, by omega, by omega, by omega, by omega, by omega, by omega⟩)]; rfl) | (rw [decide_eq_false (fun h : validM x => absurd h.1 (by assumption))]; rfl) | (rw [decide_eq_false (fun h : validM x => absurd h.2.1 (by first | assumption | exact not_not_intro (by assumption)))]; rfl) | (rw [decide_eq_false (fun h : validM x => by have := h.2.2; omega)]; rfl)), hLow⟩   -- returns .bool false
      · by_cases h3 : 1 ≤ x.2.2.2.2.1
        · by_cases h4 : x.2.2.2.2.1 ≤ 16
          · refine walk_to (F := F1) (T := C1) (fuel := 1000) (d := 10) mixed (allF_cons (FactOk.bi rfl rfl rfl rfl rfl rfl (boolT (by omega))) (allF_cons (FactOk.strNeF rfl rfl rfl rfl h2) (allF_cons (FactOk.bi rfl rfl rfl rfl rfl rfl (boolT (by omega))) (allF_cons (FactOk.bi rfl rfl rfl rfl rfl rfl (boolT (by omega))) allF_nil)))) (allC_cons (callNameT rfl rfl h1) (allC_cons (callOf rfl rfl rfl rfl hK) allC_nil)) ?_ hh
            exact ostop_end e1 fun w2 hLow hIn => ⟨(by first | (rw [decide_eq_true (show validM x from ⟨by assumption, by assumption, by omega, by omega, by omega, by omega, by omega, by omega, by omega, by omega⟩)]; rfl) | (rw [decide_eq_false (fun h : validM x => absurd h.1 (by assumption))]; rfl) | (rw [decide_eq_false (fun h : validM x => absurd h.2.1 (by first | assumption | exact not_not_intro (by assumption)))]; rfl) | (rw [decide_eq_false (fun h : validM x => by have := h.2.2; omega)]; rfl)), hLow⟩   -- returns .bool false
          · refine walk_to (F := F2) (T := C2) (fuel := 1000) (d := 10) mixed (allF_cons (FactOk.bi rfl rfl rfl rfl rfl rfl (boolT (by omega))) (allF_cons (FactOk.strNeF rfl rfl rfl rfl h2) (allF_cons (FactOk.bi rfl rfl rfl rfl rfl rfl (boolT (by omega))) (allF_cons (FactOk.bi rfl rfl rfl rfl rfl rfl (boolF (by omega))) allF_nil)))) (allC_cons (callNameT rfl rfl h1) (allC_cons (callOf rfl rfl rfl rfl hK) allC_nil)) ?_ hh
            exact ostop_end e2 fun w2 hLow hIn => ⟨(by first | (rw [decide_eq_true (show validM x from ⟨by assumption, by assumption, by omega, by omega, by omega, by omega, by omega, by omega, by omega, by omega⟩)]; rfl) | (rw [decide_eq_false (fun h : validM x => absurd h.1 (by assumption))]; rfl) | (rw [decide_eq_false (fun h : validM x => absurd h.2.1 (by first | assumption | exact not_not_intro (by assumption)))]; rfl) | (rw [decide_eq_false (fun h : validM x => by have := h.2.2; omega)]; rfl)), hLow⟩   -- returns .bool false
        · refine walk_to (F := F3) (T := C3) (fuel := 1000) (d := 10) mixed (allF_cons (FactOk.bi rfl rfl rfl rfl rfl rfl (boolT (by omega))) (allF_cons (FactOk.strNeF rfl rfl rfl rfl h2) (allF_cons (FactOk.bi rfl rfl rfl rfl rfl rfl (boolF (by omega))) allF_nil))) (allC_cons (callNameT rfl rfl h1) (allC_cons (callOf rfl rfl rfl rfl hK) allC_nil)) ?_ hh
          exact ostop_end e3 fun w2 hLow hIn => ⟨(by first | (rw [decide_eq_true (show validM x from ⟨by assumption, by assumption, by omega, by omega, by omega, by omega, by omega, by omega, by omega, by omega⟩)]; rfl) | (rw [decide_eq_false (fun h : validM x => absurd h.1 (by assumption))]; rfl) | (rw [decide_eq_false (fun h : validM x => absurd h.2.1 (by first | assumption | exact not_not_intro (by assumption)))]; rfl) | (rw [decide_eq_false (fun h : validM x => by have := h.2.2; omega)]; rfl)), hLow⟩   -- returns .bool false
    · refine walk_to (F := F4) (T := C4) (fuel := 1000) (d := 10) mixed (allF_cons (FactOk.bi rfl rfl rfl rfl rfl rfl (boolT (by omega))) allF_nil) (allC_cons (callNameF rfl rfl h1) allC_nil) ?_ hh
      exact ostop_end e4 fun w2 hLow hIn => ⟨(by first | (rw [decide_eq_true (show validM x from ⟨by assumption, by assumption, by omega, by omega, by omega, by omega, by omega, by omega, by omega, by omega⟩)]; rfl) | (rw [decide_eq_false (fun h : validM x => absurd h.1 (by assumption))]; rfl) | (rw [decide_eq_false (fun h : validM x => absurd h.2.1 (by first | assumption | exact not_not_intro (by assumption)))]; rfl) | (rw [decide_eq_false (fun h : validM x => by have := h.2.2; omega)]; rfl)), hLow⟩   -- returns .bool false
  · by_cases h1 : 15 < x.2.2.2.2.2.1
    · by_cases h2 : nameP x.1
      · by_cases h3 : (kindM x).1 = ([] : Bs)
        · refine walk_to (F := F5) (T := C5) (fuel := 1000) (d := 10) mixed (allF_cons (FactOk.bi rfl rfl rfl rfl rfl rfl (boolF (by omega))) (allF_cons (FactOk.bi rfl rfl rfl rfl rfl rfl (boolT (by omega))) (allF_cons (FactOk.strNeT rfl rfl rfl rfl h3) allF_nil))) (allC_cons (callNameT rfl rfl h2) (allC_cons (callOf rfl rfl rfl rfl hK) allC_nil)) ?_ hh
          exact ostop_end e5 fun w2 hLow hIn => ⟨(by first | (rw [decide_eq_true (show validM x from ⟨by assumption, by assumption, by omega, by omega, by omega, by omega, by omega, by omega, by omega, by omega⟩)]; rfl) | (rw [decide_eq_false (fun h : validM x => absurd h.1 (by assumption))]; rfl) | (rw [decide_eq_false (fun h : validM x => absurd h.2.1 (by first | assumption | exact not_not_intro (by assumption)))]; rfl) | (rw [decide_eq_false (fun h : validM x => by have := h.2.2; omega)]; rfl)), hLow⟩   -- returns .bool false
        · by_cases h4 : 1 ≤ x.2.2.2.2.1
          · by_cases h5 : x.2.2.2.2.1 ≤ 16
            · refine walk_to (F := F6) (T := C6) (fuel := 1000) (d := 10) mixed (allF_cons (FactOk.bi rfl rfl rfl rfl rfl rfl (boolF (by omega))) (allF_cons (FactOk.bi rfl rfl rfl rfl rfl rfl (boolT (by omega))) (allF_cons (FactOk.strNeF rfl rfl rfl rfl h3) (allF_cons (FactOk.bi rfl rfl rfl rfl rfl rfl (boolT (by omega))) (allF_cons (FactOk.bi rfl rfl rfl rfl rfl rfl (boolT (by omega))) allF_nil))))) (allC_cons (callNameT rfl rfl h2) (allC_cons (callOf rfl rfl rfl rfl hK) allC_nil)) ?_ hh
              exact ostop_end e6 fun w2 hLow hIn => ⟨(by first | (rw [decide_eq_true (show validM x from ⟨by assumption, by assumption, by omega, by omega, by omega, by omega, by omega, by omega, by omega, by omega⟩)]; rfl) | (rw [decide_eq_false (fun h : validM x => absurd h.1 (by assumption))]; rfl) | (rw [decide_eq_false (fun h : validM x => absurd h.2.1 (by first | assumption | exact not_not_intro (by assumption)))]; rfl) | (rw [decide_eq_false (fun h : validM x => by have := h.2.2; omega)]; rfl)), hLow⟩   -- returns .bool false
            · refine walk_to (F := F7) (T := C7) (fuel := 1000) (d := 10) mixed (allF_cons (FactOk.bi rfl rfl rfl rfl rfl rfl (boolF (by omega))) (allF_cons (FactOk.bi rfl rfl rfl rfl rfl rfl (boolT (by omega))) (allF_cons (FactOk.strNeF rfl rfl rfl rfl h3) (allF_cons (FactOk.bi rfl rfl rfl rfl rfl rfl (boolT (by omega))) (allF_cons (FactOk.bi rfl rfl rfl rfl rfl rfl (boolF (by omega))) allF_nil))))) (allC_cons (callNameT rfl rfl h2) (allC_cons (callOf rfl rfl rfl rfl hK) allC_nil)) ?_ hh
              exact ostop_end e7 fun w2 hLow hIn => ⟨(by first | (rw [decide_eq_true (show validM x from ⟨by assumption, by assumption, by omega, by omega, by omega, by omega, by omega, by omega, by omega, by omega⟩)]; rfl) | (rw [decide_eq_false (fun h : validM x => absurd h.1 (by assumption))]; rfl) | (rw [decide_eq_false (fun h : validM x => absurd h.2.1 (by first | assumption | exact not_not_intro (by assumption)))]; rfl) | (rw [decide_eq_false (fun h : validM x => by have := h.2.2; omega)]; rfl)), hLow⟩   -- returns .bool false
          · refine walk_to (F := F8) (T := C8) (fuel := 1000) (d := 10) mixed (allF_cons (FactOk.bi rfl rfl rfl rfl rfl rfl (boolF (by omega))) (allF_cons (FactOk.bi rfl rfl rfl rfl rfl rfl (boolT (by omega))) (allF_cons (FactOk.strNeF rfl rfl rfl rfl h3) (allF_cons (FactOk.bi rfl rfl rfl rfl rfl rfl (boolF (by omega))) allF_nil)))) (allC_cons (callNameT rfl rfl h2) (allC_cons (callOf rfl rfl rfl rfl hK) allC_nil)) ?_ hh
            exact ostop_end e8 fun w2 hLow hIn => ⟨(by first | (rw [decide_eq_true (show validM x from ⟨by assumption, by assumption, by omega, by omega, by omega, by omega, by omega, by omega, by omega, by omega⟩)]; rfl) | (rw [decide_eq_false (fun h : validM x => absurd h.1 (by assumption))]; rfl) | (rw [decide_eq_false (fun h : validM x => absurd h.2.1 (by first | assumption | exact not_not_intro (by assumption)))]; rfl) | (rw [decide_eq_false (fun h : validM x => by have := h.2.2; omega)]; rfl)), hLow⟩   -- returns .bool false
      · refine walk_to (F := F9) (T := C9) (fuel := 1000) (d := 10) mixed (allF_cons (FactOk.bi rfl rfl rfl rfl rfl rfl (boolF (by omega))) (allF_cons (FactOk.bi rfl rfl rfl rfl rfl rfl (boolT (by omega))) allF_nil)) (allC_cons (callNameF rfl rfl h2) allC_nil) ?_ hh
        exact ostop_end e9 fun w2 hLow hIn => ⟨(by first | (rw [decide_eq_true (show validM x from ⟨by assumption, by assumption, by omega, by omega, by omega, by omega, by omega, by omega, by omega, by omega⟩)]; rfl) | (rw [decide_eq_false (fun h : validM x => absurd h.1 (by assumption))]; rfl) | (rw [decide_eq_false (fun h : validM x => absurd h.2.1 (by first | assumption | exact not_not_intro (by assumption)))]; rfl) | (rw [decide_eq_false (fun h : validM x => by have := h.2.2; omega)]; rfl)), hLow⟩   -- returns .bool false
    · by_cases h2 : x.2.2.2.2.2.2.1 < 0
      · by_cases h3 : nameP x.1
        · by_cases h4 : (kindM x).1 = ([] : Bs)
          · refine walk_to (F := F10) (T := C10) (fuel := 1000) (d := 10) mixed (allF_cons (FactOk.bi rfl rfl rfl rfl rfl rfl (boolF (by omega))) (allF_cons (FactOk.bi rfl rfl rfl rfl rfl rfl (boolF (by omega))) (allF_cons (FactOk.bi rfl rfl rfl rfl rfl rfl (boolT (by omega))) (allF_cons (FactOk.strNeT rfl rfl rfl rfl h4) allF_nil)))) (allC_cons (callNameT rfl rfl h3) (allC_cons (callOf rfl rfl rfl rfl hK) allC_nil)) ?_ hh
            exact ostop_end e10 fun w2 hLow hIn => ⟨(by first | (rw [decide_eq_true (show validM x from ⟨by assumption, by assumption, by omega, by omega, by omega, by omega, by omega, by omega, by omega, by omega⟩)]; rfl) | (rw [decide_eq_false (fun h : validM x => absurd h.1 (by assumption))]; rfl) | (rw [decide_eq_false (fun h : validM x => absurd h.2.1 (by first | assumption | exact not_not_intro (by assumption)))]; rfl) | (rw [decide_eq_false (fun h : validM x => by have := h.2.2; omega)]; rfl)), hLow⟩   -- returns .bool false
          · by_cases h5 : 1 ≤ x.2.2.2.2.1
            · by_cases h6 : x.2.2.2.2.1 ≤ 16
              · refine walk_to (F := F11) (T := C11) (fuel := 1000) (d := 10) mixed (allF_cons (FactOk.bi rfl rfl rfl rfl rfl rfl (boolF (by omega))) (allF_cons (FactOk.bi rfl rfl rfl rfl rfl rfl (boolF (by omega))) (allF_cons (FactOk.bi rfl rfl rfl rfl rfl rfl (boolT (by omega))) (allF_cons (FactOk.strNeF rfl rfl rfl rfl h4) (allF_cons (FactOk.bi rfl rfl rfl rfl rfl rfl (boolT (by omega))) (allF_cons (FactOk.bi rfl rfl rfl rfl rfl rfl (boolT (by omega))) allF_nil)))))) (allC_cons (callNameT rfl rfl h3) (allC_cons (callOf rfl rfl rfl rfl hK) allC_nil)) ?_ hh
                exact ostop_end e11 fun w2 hLow hIn => ⟨(by first | (rw [decide_eq_true (show validM x from ⟨by assumption, by assumption, by omega, by omega, by omega, by omega, by omega, by omega, by omega, by omega⟩)]; rfl) | (rw [decide_eq_false (fun h : validM x => absurd h.1 (by assumption))]; rfl) | (rw [decide_eq_false (fun h : validM x => absurd h.2.1 (by first | assumption | exact not_not_intro (by assumption)))]; rfl) | (rw [decide_eq_false (fun h : validM x => by have := h.2.2; omega)]; rfl)), hLow⟩   -- returns .bool false
              · refine walk_to (F := F12) (T := C12) (fuel := 1000) (d := 10) mixed (allF_cons (FactOk.bi rfl rfl rfl rfl rfl rfl (boolF (by omega))) (allF_cons (FactOk.bi rfl rfl rfl rfl rfl rfl (boolF (by omega))) (allF_cons (FactOk.bi rfl rfl rfl rfl rfl rfl (boolT (by omega))) (allF_cons (FactOk.strNeF rfl rfl rfl rfl h4) (allF_cons (FactOk.bi rfl rfl rfl rfl rfl rfl (boolT (by omega))) (allF_cons (FactOk.bi rfl rfl rfl rfl rfl rfl (boolF (by omega))) allF_nil)))))) (allC_cons (callNameT rfl rfl h3) (allC_cons (callOf rfl rfl rfl rfl hK) allC_nil)) ?_ hh
                exact ostop_end e12 fun w2 hLow hIn => ⟨(by first | (rw [decide_eq_true (show validM x from ⟨by assumption, by assumption, by omega, by omega, by omega, by omega, by omega, by omega, by omega, by omega⟩)]; rfl) | (rw [decide_eq_false (fun h : validM x => absurd h.1 (by assumption))]; rfl) | (rw [decide_eq_false (fun h : validM x => absurd h.2.1 (by first | assumption | exact not_not_intro (by assumption)))]; rfl) | (rw [decide_eq_false (fun h : validM x => by have := h.2.2; omega)]; rfl)), hLow⟩   -- returns .bool false
            · refine walk_to (F := F13) (T := C13) (fuel := 1000) (d := 10) mixed (allF_cons (FactOk.bi rfl rfl rfl rfl rfl rfl (boolF (by omega))) (allF_cons (FactOk.bi rfl rfl rfl rfl rfl rfl (boolF (by omega))) (allF_cons (FactOk.bi rfl rfl rfl rfl rfl rfl (boolT (by omega))) (allF_cons (FactOk.strNeF rfl rfl rfl rfl h4) (allF_cons (FactOk.bi rfl rfl rfl rfl rfl rfl (boolF (by omega))) allF_nil))))) (allC_cons (callNameT rfl rfl h3) (allC_cons (callOf rfl rfl rfl rfl hK) allC_nil)) ?_ hh
              exact ostop_end e13 fun w2 hLow hIn => ⟨(by first | (rw [decide_eq_true (show validM x from ⟨by assumption, by assumption, by omega, by omega, by omega, by omega, by omega, by omega, by omega, by omega⟩)]; rfl) | (rw [decide_eq_false (fun h : validM x => absurd h.1 (by assumption))]; rfl) | (rw [decide_eq_false (fun h : validM x => absurd h.2.1 (by first | assumption | exact not_not_intro (by assumption)))]; rfl) | (rw [decide_eq_false (fun h : validM x => by have := h.2.2; omega)]; rfl)), hLow⟩   -- returns .bool false
        · refine walk_to (F := F14) (T := C14) (fuel := 1000) (d := 10) mixed (allF_cons (FactOk.bi rfl rfl rfl rfl rfl rfl (boolF (by omega))) (allF_cons (FactOk.bi rfl rfl rfl rfl rfl rfl (boolF (by omega))) (allF_cons (FactOk.bi rfl rfl rfl rfl rfl rfl (boolT (by omega))) allF_nil))) (allC_cons (callNameF rfl rfl h3) allC_nil) ?_ hh
          exact ostop_end e14 fun w2 hLow hIn => ⟨(by first | (rw [decide_eq_true (show validM x from ⟨by assumption, by assumption, by omega, by omega, by omega, by omega, by omega, by omega, by omega, by omega⟩)]; rfl) | (rw [decide_eq_false (fun h : validM x => absurd h.1 (by assumption))]; rfl) | (rw [decide_eq_false (fun h : validM x => absurd h.2.1 (by first | assumption | exact not_not_intro (by assumption)))]; rfl) | (rw [decide_eq_false (fun h : validM x => by have := h.2.2; omega)]; rfl)), hLow⟩   -- returns .bool false
      · by_cases h3 : 15 < x.2.2.2.2.2.2.1
        · by_cases h4 : nameP x.1
          · by_cases h5 : (kindM x).1 = ([] : Bs)
            · refine walk_to (F := F15) (T := C15) (fuel := 1000) (d := 10) mixed (allF_cons (FactOk.bi rfl rfl rfl rfl rfl rfl (boolF (by omega))) (allF_cons (FactOk.bi rfl rfl rfl rfl rfl rfl (boolF (by omega))) (allF_cons (FactOk.bi rfl rfl rfl rfl rfl rfl (boolF (by omega))) (allF_cons (FactOk.bi rfl rfl rfl rfl rfl rfl (boolT (by omega))) (allF_cons (FactOk.strNeT rfl rfl rfl rfl h5) allF_nil))))) (allC_cons (callNameT rfl rfl h4) (allC_cons (callOf rfl rfl rfl rfl hK) allC_nil)) ?_ hh
              exact ostop_end e15 fun w2 hLow hIn => ⟨(by first | (rw [decide_eq_true (show validM x from ⟨by assumption, by assumption, by omega, by omega, by omega, by omega, by omega, by omega, by omega, by omega⟩)]; rfl) | (rw [decide_eq_false (fun h : validM x => absurd h.1 (by assumption))]; rfl) | (rw [decide_eq_false (fun h : validM x => absurd h.2.1 (by first | assumption | exact not_not_intro (by assumption)))]; rfl) | (rw [decide_eq_false (fun h : validM x => by have := h.2.2; omega)]; rfl)), hLow⟩   -- returns .bool false
            · by_cases h6 : 1 ≤ x.2.2.2.2.1
              · by_cases h7 : x.2.2.2.2.1 ≤ 16
                · refine walk_to (F := F16) (T := C16) (fuel := 1000) (d := 10) mixed (allF_cons (FactOk.bi rfl rfl rfl rfl rfl rfl (boolF (by omega))) (allF_cons (FactOk.bi rfl rfl rfl rfl rfl rfl (boolF (by omega))) (allF_cons (FactOk.bi rfl rfl rfl rfl rfl rfl (boolF (by omega))) (allF_cons (FactOk.bi rfl rfl rfl rfl rfl rfl (boolT (by omega))) (allF_cons (FactOk.strNeF rfl rfl rfl rfl h5) (allF_cons (FactOk.bi rfl rfl rfl rfl rfl rfl (boolT (by omega))) (allF_cons (FactOk.bi rfl rfl rfl rfl rfl rfl (boolT (by omega))) allF_nil))))))) (allC_cons (callNameT rfl rfl h4) (allC_cons (callOf rfl rfl rfl rfl hK) allC_nil)) ?_ hh
                  exact ostop_end e16 fun w2 hLow hIn => ⟨(by first | (rw [decide_eq_true (show validM x from ⟨by assumption, by assumption, by omega, by omega, by omega, by omega, by omega, by omega, by omega, by omega⟩)]; rfl) | (rw [decide_eq_false (fun h : validM x => absurd h.1 (by assumption))]; rfl) | (rw [decide_eq_false (fun h : validM x => absurd h.2.1 (by first | assumption | exact not_not_intro (by assumption)))]; rfl) | (rw [decide_eq_false (fun h : validM x => by have := h.2.2; omega)]; rfl)), hLow⟩   -- returns .bool false
                · refine walk_to (F := F17) (T := C17) (fuel := 1000) (d := 10) mixed (allF_cons (FactOk.bi rfl rfl rfl rfl rfl rfl (boolF (by omega))) (allF_cons (FactOk.bi rfl rfl rfl rfl rfl rfl (boolF (by omega))) (allF_cons (FactOk.bi rfl rfl rfl rfl rfl rfl (boolF (by omega))) (allF_cons (FactOk.bi rfl rfl rfl rfl rfl rfl (boolT (by omega))) (allF_cons (FactOk.strNeF rfl rfl rfl rfl h5) (allF_cons (FactOk.bi rfl rfl rfl rfl rfl rfl (boolT (by omega))) (allF_cons (FactOk.bi rfl rfl rfl rfl rfl rfl (boolF (by omega))) allF_nil))))))) (allC_cons (callNameT rfl rfl h4) (allC_cons (callOf rfl rfl rfl rfl hK) allC_nil)) ?_ hh
                  exact ostop_end e17 fun w2 hLow hIn => ⟨(by first | (rw [decide_eq_true (show validM x from ⟨by assumption, by assumption, by omega, by omega, by omega, by omega, by omega, by omega, by omega, by omega⟩)]; rfl) | (rw [decide_eq_false (fun h : validM x => absurd h.1 (by assumption))]; rfl) | (rw [decide_eq_false (fun h : validM x => absurd h.2.1 (by first | assumption | exact not_not_intro (by assumption)))]; rfl) | (rw [decide_eq_false (fun h : validM x => by have := h.2.2; omega)]; rfl)), hLow⟩   -- returns .bool false
              · refine walk_to (F := F18) (T := C18) (fuel := 1000) (d := 10) mixed (allF_cons (FactOk.bi rfl rfl rfl rfl rfl rfl (boolF (by omega))) (allF_cons (FactOk.bi rfl rfl rfl rfl rfl rfl (boolF (by omega))) (allF_cons (FactOk.bi rfl rfl rfl rfl rfl rfl (boolF (by omega))) (allF_cons (FactOk.bi rfl rfl rfl rfl rfl rfl (boolT (by omega))) (allF_cons (FactOk.strNeF rfl rfl rfl rfl h5) (allF_cons (FactOk.bi rfl rfl rfl rfl rfl rfl (boolF (by omega))) allF_nil)))))) (allC_cons (callNameT rfl rfl h4) (allC_cons (callOf rfl rfl rfl rfl hK) allC_nil)) ?_ hh
                exact ostop_end e18 fun w2 hLow hIn => ⟨(by first | (rw [decide_eq_true (show validM x from ⟨by assumption, by assumption, by omega, by omega, by omega, by omega, by omega, by omega, by omega, by omega⟩)]; rfl) | (rw [decide_eq_false (fun h : validM x => absurd h.1 (by assumption))]; rfl) | (rw [decide_eq_false (fun h : validM x => absurd h.2.1 (by first | assumption | exact not_not_intro (by assumption)))]; rfl) | (rw [decide_eq_false (fun h : validM x => by have := h.2.2; omega)]; rfl)), hLow⟩   -- returns .bool false
          · refine walk_to (F := F19) (T := C19) (fuel := 1000) (d := 10) mixed (allF_cons (FactOk.bi rfl rfl rfl rfl rfl rfl (boolF (by omega))) (allF_cons (FactOk.bi rfl rfl rfl rfl rfl rfl (boolF (by omega))) (allF_cons (FactOk.bi rfl rfl rfl rfl rfl rfl (boolF (by omega))) (allF_cons (FactOk.bi rfl rfl rfl rfl rfl rfl (boolT (by omega))) allF_nil)))) (allC_cons (callNameF rfl rfl h4) allC_nil) ?_ hh
            exact ostop_end e19 fun w2 hLow hIn => ⟨(by first | (rw [decide_eq_true (show validM x from ⟨by assumption, by assumption, by omega, by omega, by omega, by omega, by omega, by omega, by omega, by omega⟩)]; rfl) | (rw [decide_eq_false (fun h : validM x => absurd h.1 (by assumption))]; rfl) | (rw [decide_eq_false (fun h : validM x => absurd h.2.1 (by first | assumption | exact not_not_intro (by assumption)))]; rfl) | (rw [decide_eq_false (fun h : validM x => by have := h.2.2; omega)]; rfl)), hLow⟩   -- returns .bool false
        · by_cases h4 : x.2.2.2.2.2.2.2 < 0
          · by_cases h5 : nameP x.1
            · by_cases h6 : (kindM x).1 = ([] : Bs)
              · refine walk_to (F := F20) (T := C20) (fuel := 1000) (d := 10) mixed (allF_cons (FactOk.bi rfl rfl rfl rfl rfl rfl (boolF (by omega))) (allF_cons (FactOk.bi rfl rfl rfl rfl rfl rfl (boolF (by omega))) (allF_cons (FactOk.bi rfl rfl rfl rfl rfl rfl (boolF (by omega))) (allF_cons (FactOk.bi rfl rfl rfl rfl rfl rfl (boolF (by omega))) (allF_cons (FactOk.bi rfl rfl rfl rfl rfl rfl (boolT (by omega))) (allF_cons (FactOk.strNeT rfl rfl rfl rfl h6) allF_nil)))))) (allC_cons (callNameT rfl rfl h5) (allC_cons (callOf rfl rfl rfl rfl hK) allC_nil)) ?_ hh
                exact ostop_end e20 fun w2 hLow hIn => ⟨(by first | (rw [decide_eq_true (show validM x from ⟨by assumption, by assumption, by omega, by omega, by omega, by omega, by omega, by omega, by omega, by omega⟩)]; rfl) | (rw [decide_eq_false (fun h : validM x => absurd h.1 (by assumption))]; rfl) | (rw [decide_eq_false (fun h : validM x => absurd h.2.1 (by first | assumption | exact not_not_intro (by assumption)))]; rfl) | (rw [decide_eq_false (fun h : validM x => by have := h.2.2; omega)]; rfl)), hLow⟩   -- returns .bool false
              · by_cases h7 : 1 ≤ x.2.2.2.2.1
                · by_cases h8 : x.2.2.2.2.1 ≤ 16
                  · refine walk_to (F := F21) (T := C21) (fuel := 1000) (d := 10) mixed (allF_cons (FactOk.bi rfl rfl rfl rfl rfl rfl (boolF (by omega))) (allF_cons (FactOk.bi rfl rfl rfl rfl rfl rfl (boolF (by omega))) (allF_cons (FactOk.bi rfl rfl rfl rfl rfl rfl (boolF (by omega))) (allF_cons (FactOk.bi rfl rfl rfl rfl rfl rfl (boolF (by omega))) (allF_cons (FactOk.bi rfl rfl rfl rfl rfl rfl (boolT (by omega))) (allF_cons (FactOk.strNeF rfl rfl rfl rfl h6) (allF_cons (FactOk.bi rfl rfl rfl rfl rfl rfl (boolT (by omega))) (allF_cons (FactOk.bi rfl rfl rfl rfl rfl rfl (boolT (by omega))) allF_nil)))))))) (allC_cons (callNameT rfl rfl h5) (allC_cons (callOf rfl rfl rfl rfl hK) allC_nil)) ?_ hh
                    exact ostop_end e21 fun w2 hLow hIn => ⟨(by first | (rw [decide_eq_true (show validM x from ⟨by assumption, by assumption, by omega, by omega, by omega, by omega, by omega, by omega, by omega, by omega⟩)]; rfl) | (rw [decide_eq_false (fun h : validM x => absurd h.1 (by assumption))]; rfl) | (rw [decide_eq_false (fun h : validM x => absurd h.2.1 (by first | assumption | exact not_not_intro (by assumption)))]; rfl) | (rw [decide_eq_false (fun h : validM x => by have := h.2.2; omega)]; rfl)), hLow⟩   -- returns .bool false
                  · refine walk_to (F := F22) (T := C22) (fuel := 1000) (d := 10) mixed (allF_cons (FactOk.bi rfl rfl rfl rfl rfl rfl (boolF (by omega))) (allF_cons (FactOk.bi rfl rfl rfl rfl rfl rfl (boolF (by omega))) (allF_cons (FactOk.bi rfl rfl rfl rfl rfl rfl (boolF (by omega))) (allF_cons (FactOk.bi rfl rfl rfl rfl rfl rfl (boolF (by omega))) (allF_cons (FactOk.bi rfl rfl rfl rfl rfl rfl (boolT (by omega))) (allF_cons (FactOk.strNeF rfl rfl rfl rfl h6) (allF_cons (FactOk.bi rfl rfl rfl rfl rfl rfl (boolT (by omega))) (allF_cons (FactOk.bi rfl rfl rfl rfl rfl rfl (boolF (by omega))) allF_nil)))))))) (allC_cons (callNameT rfl rfl h5) (allC_cons (callOf rfl rfl rfl rfl hK) allC_nil)) ?_ hh
                    exact ostop_end e22 fun w2 hLow hIn => ⟨(by first | (rw [decide_eq_true (show validM x from ⟨by assumption, by assumption, by omega, by omega, by omega, by omega, by omega, by omega, by omega, by omega⟩)]; rfl) | (rw [decide_eq_false (fun h : validM x => absurd h.1 (by assumption))]; rfl) | (rw [decide_eq_false (fun h : validM x => absurd h.2.1 (by first | assumption | exact not_not_intro (by assumption)))]; rfl) | (rw [decide_eq_false (fun h : validM x => by have := h.2.2; omega)]; rfl)), hLow⟩   -- returns .bool false
                · refine walk_to (F := F23) (T := C23) (fuel := 1000) (d := 10) mixed (allF_cons (FactOk.bi rfl rfl rfl rfl rfl rfl (boolF (by omega))) (allF_cons (FactOk.bi rfl rfl rfl rfl rfl rfl (boolF (by omega))) (allF_cons (FactOk.bi rfl rfl rfl rfl rfl rfl (boolF (by omega))) (allF_cons (FactOk.bi rfl rfl rfl rfl rfl rfl (boolF (by omega))) (allF_cons (FactOk.bi rfl rfl rfl rfl rfl rfl (boolT (by omega))) (allF_cons (FactOk.strNeF rfl rfl rfl rfl h6) (allF_cons (FactOk.bi rfl rfl rfl rfl rfl rfl (boolF (by omega))) allF_nil))))))) (allC_cons (callNameT rfl rfl h5) (allC_cons (callOf rfl rfl rfl rfl hK) allC_nil)) ?_ hh
                  exact ostop_end e23 fun w2 hLow hIn => ⟨(by first | (rw [decide_eq_true (show validM x from ⟨by assumption, by assumption, by omega, by omega, by omega, by omega, by omega, by omega, by omega, by omega⟩)]; rfl) | (rw [decide_eq_false (fun h : validM x => absurd h.1 (by assumption))]; rfl) | (rw [decide_eq_false (fun h : validM x => absurd h.2.1 (by first | assumption | exact not_not_intro (by assumption)))]; rfl) | (rw [decide_eq_false (fun h : validM x => by have := h.2.2; omega)]; rfl)), hLow⟩   -- returns .bool false
            · refine walk_to (F := F24) (T := C24) (fuel := 1000) (d := 10) mixed (allF_cons (FactOk.bi rfl rfl rfl rfl rfl rfl (boolF (by omega))) (allF_cons (FactOk.bi rfl rfl rfl rfl rfl rfl (boolF (by omega))) (allF_cons (FactOk.bi rfl rfl rfl rfl rfl rfl (boolF (by omega))) (allF_cons (FactOk.bi rfl rfl rfl rfl rfl rfl (boolF (by omega))) (allF_cons (FactOk.bi rfl rfl rfl rfl rfl rfl (boolT (by omega))) allF_nil))))) (allC_cons (callNameF rfl rfl h5) allC_nil) ?_ hh
              exact ostop_end e24 fun w2 hLow hIn => ⟨(by first | (rw [decide_eq_true (show validM x from ⟨by assumption, by assumption, by omega, by omega, by omega, by omega, by omega, by omega, by omega, by omega⟩)]; rfl) | (rw [decide_eq_false (fun h : validM x => absurd h.1 (by assumption))]; rfl) | (rw [decide_eq_false (fun h : validM x => absurd h.2.1 (by first | assumption | exact not_not_intro (by assumption)))]; rfl) | (rw [decide_eq_false (fun h : validM x => by have := h.2.2; omega)]; rfl)), hLow⟩   -- returns .bool false
          · by_cases h5 : 15 < x.2.2.2.2.2.2.2
            · by_cases h6 : nameP x.1
              · by_cases h7 : (kindM x).1 = ([] : Bs)
                · refine walk_to (F := F25) (T := C25) (fuel := 1000) (d := 10) mixed (allF_cons (FactOk.bi rfl rfl rfl rfl rfl rfl (boolF (by omega))) (allF_cons (FactOk.bi rfl rfl rfl rfl rfl rfl (boolF (by omega))) (allF_cons (FactOk.bi rfl rfl rfl rfl rfl rfl (boolF (by omega))) (allF_cons (FactOk.bi rfl rfl rfl rfl rfl rfl (boolF (by omega))) (allF_cons (FactOk.bi rfl rfl rfl rfl rfl rfl (boolF (by omega))) (allF_cons (FactOk.bi rfl rfl rfl rfl rfl rfl (boolT (by omega))) (allF_cons (FactOk.strNeT rfl rfl rfl rfl h7) allF_nil))))))) (allC_cons (callNameT rfl rfl h6) (allC_cons (callOf rfl rfl rfl rfl hK) allC_nil)) ?_ hh
                  exact ostop_end e25 fun w2 hLow hIn => ⟨(by first | (rw [decide_eq_true (show validM x from ⟨by assumption, by assumption, by omega, by omega, by omega, by omega, by omega, by omega, by omega, by omega⟩)]; rfl) | (rw [decide_eq_false (fun h : validM x => absurd h.1 (by assumption))]; rfl) | (rw [decide_eq_false (fun h : validM x => absurd h.2.1 (by first | assumption | exact not_not_intro (by assumption)))]; rfl) | (rw [decide_eq_false (fun h : validM x => by have := h.2.2; omega)]; rfl)), hLow⟩   -- returns .bool false
                · by_cases h8 : 1 ≤ x.2.2.2.2.1
                  · by_cases h9 : x.2.2.2.2.1 ≤ 16
                    · refine walk_to (F := F26) (T := C26) (fuel := 1000) (d := 10) mixed (allF_cons (FactOk.bi rfl rfl rfl rfl rfl rfl (boolF (by omega))) (allF_cons (FactOk.bi rfl rfl rfl rfl rfl rfl (boolF (by omega))) (allF_cons (FactOk.bi rfl rfl rfl rfl rfl rfl (boolF (by omega))) (allF_cons (FactOk.bi rfl rfl rfl rfl rfl rfl (boolF (by omega))) (allF_cons (FactOk.bi rfl rfl rfl rfl rfl rfl (boolF (by omega))) (allF_cons (FactOk.bi rfl rfl rfl rfl rfl rfl (boolT (by omega))) (allF_cons (FactOk.strNeF rfl rfl rfl rfl h7) (allF_cons (FactOk.bi rfl rfl rfl rfl rfl rfl (boolT (by omega))) (allF_cons (FactOk.bi rfl rfl rfl rfl rfl rfl (boolT (by omega))) allF_nil))))))))) (allC_cons (callNameT rfl rfl h6) (allC_cons (callOf rfl rfl rfl rfl hK) allC_nil)) ?_ hh
                      exact ostop_end e26 fun w2 hLow hIn => ⟨(by first | (rw [decide_eq_true (show validM x from ⟨by assumption, by assumption, by omega, by omega, by omega, by omega, by omega, by omega, by omega, by omega⟩)]; rfl) | (rw [decide_eq_false (fun h : validM x => absurd h.1 (by assumption))]; rfl) | (rw [decide_eq_false (fun h : validM x => absurd h.2.1 (by first | assumption | exact not_not_intro (by assumption)))]; rfl) | (rw [decide_eq_false (fun h : validM x => by have := h.2.2; omega)]; rfl)), hLow⟩   -- returns .bool false
                    · refine walk_to (F := F27) (T := C27) (fuel := 1000) (d := 10) mixed (allF_cons (FactOk.bi rfl rfl rfl rfl rfl rfl (boolF (by omega))) (allF_cons (FactOk.bi rfl rfl rfl rfl rfl rfl (boolF (by omega))) (allF_cons (FactOk.bi rfl rfl rfl rfl rfl rfl (boolF (by omega))) (allF_cons (FactOk.bi rfl rfl rfl rfl rfl rfl (boolF (by omega))) (allF_cons (FactOk.bi rfl rfl rfl rfl rfl rfl (boolF (by omega))) (allF_cons (FactOk.bi rfl rfl rfl rfl rfl rfl (boolT (by omega))) (allF_cons (FactOk.strNeF rfl rfl rfl rfl h7) (allF_cons (FactOk.bi rfl rfl rfl rfl rfl rfl (boolT (by omega))) (allF_cons (FactOk.bi rfl rfl rfl rfl rfl rfl (boolF (by omega))) allF_nil))))))))) (allC_cons (callNameT rfl rfl h6) (allC_cons (callOf rfl rfl rfl rfl hK) allC_nil)) ?_ hh
                      exact ostop_end e27 fun w2 hLow hIn => ⟨(by first | (rw [decide_eq_true (show validM x from ⟨by assumption, by assumption, by omega, by omega, by omega, by omega, by omega, by omega, by omega, by omega⟩)]; rfl) | (rw [decide_eq_false (fun h : validM x => absurd h.1 (by assumption))]; rfl) | (rw [decide_eq_false (fun h : validM x => absurd h.2.1 (by first | assumption | exact not_not_intro (by assumption)))]; rfl) | (rw [decide_eq_false (fun h : validM x => by have := h.2.2; omega)]; rfl)), hLow⟩   -- returns .bool false
                  · refine walk_to (F := F28) (T := C28) (fuel := 1000) (d := 10) mixed (allF_cons (FactOk.bi rfl rfl rfl rfl rfl rfl (boolF (by omega))) (allF_cons (FactOk.bi rfl rfl rfl rfl rfl rfl (boolF (by omega))) (allF_cons (FactOk.bi rfl rfl rfl rfl rfl rfl (boolF (by omega))) (allF_cons (FactOk.bi rfl rfl rfl rfl rfl rfl (boolF (by omega))) (allF_cons (FactOk.bi rfl rfl rfl rfl rfl rfl (boolF (by omega))) (allF_cons (FactOk.bi rfl rfl rfl rfl rfl rfl (boolT (by omega))) (allF_cons (FactOk.strNeF rfl rfl rfl rfl h7) (allF_cons (FactOk.bi rfl rfl rfl rfl rfl rfl (boolF (by omega))) allF_nil)))))))) (allC_cons (callNameT rfl rfl h6) (allC_cons (callOf rfl rfl rfl rfl hK) allC_nil)) ?_ hh
                    exact ostop_end e28 fun w2 hLow hIn => ⟨(by first | (rw [decide_eq_true (show validM x from ⟨by assumption, by assumption, by omega, by omega, by omega, by omega, by omega, by omega, by omega, by omega⟩)]; rfl) | (rw [decide_eq_false (fun h : validM x => absurd h.1 (by assumption))]; rfl) | (rw [decide_eq_false (fun h : validM x => absurd h.2.1 (by first | assumption | exact not_not_intro (by assumption)))]; rfl) | (rw [decide_eq_false (fun h : validM x => by have := h.2.2; omega)]; rfl)), hLow⟩   -- returns .bool false
              · refine walk_to (F := F29) (T := C29) (fuel := 1000) (d := 10) mixed (allF_cons (FactOk.bi rfl rfl rfl rfl rfl rfl (boolF (by omega))) (allF_cons (FactOk.bi rfl rfl rfl rfl rfl rfl (boolF (by omega))) (allF_cons (FactOk.bi rfl rfl rfl rfl rfl rfl (boolF (by omega))) (allF_cons (FactOk.bi rfl rfl rfl rfl rfl rfl (boolF (by omega))) (allF_cons (FactOk.bi rfl rfl rfl rfl rfl rfl (boolF (by omega))) (allF_cons (FactOk.bi rfl rfl rfl rfl rfl rfl (boolT (by omega))) allF_nil)))))) (allC_cons (callNameF rfl rfl h6) allC_nil) ?_ hh
                exact ostop_end e29 fun w2 hLow hIn => ⟨(by first | (rw [decide_eq_true (show validM x from ⟨by assumption, by assumption, by omega, by omega, by omega, by omega, by omega, by omega, by omega, by omega⟩)]; rfl) | (rw [decide_eq_false (fun h : validM x => absurd h.1 (by assumption))]; rfl) | (rw [decide_eq_false (fun h : validM x => absurd h.2.1 (by first | assumption | exact not_not_intro (by assumption)))]; rfl) | (rw [decide_eq_false (fun h : validM x => by have := h.2.2; omega)]; rfl)), hLow⟩   -- returns .bool false
            · by_cases h6 : nameP x.1
              · by_cases h7 : (kindM x).1 = ([] : Bs)
                · refine walk_to (F := F30) (T := C30) (fuel := 1000) (d := 10) mixed (allF_cons (FactOk.bi rfl rfl rfl rfl rfl rfl (boolF (by omega))) (allF_cons (FactOk.bi rfl rfl rfl rfl rfl rfl (boolF (by omega))) (allF_cons (FactOk.bi rfl rfl rfl rfl rfl rfl (boolF (by omega))) (allF_cons (FactOk.bi rfl rfl rfl rfl rfl rfl (boolF (by omega))) (allF_cons (FactOk.bi rfl rfl rfl rfl rfl rfl (boolF (by omega))) (allF_cons (FactOk.bi rfl rfl rfl rfl rfl rfl (boolF (by omega))) (allF_cons (FactOk.strNeT rfl rfl rfl rfl h7) allF_nil))))))) (allC_cons (callNameT rfl rfl h6) (allC_cons (callOf rfl rfl rfl rfl hK) allC_nil)) ?_ hh
                  exact ostop_end e30 fun w2 hLow hIn => ⟨(by first | (rw [decide_eq_true (show validM x from ⟨by assumption, by assumption, by omega, by omega, by omega, by omega, by omega, by omega, by omega, by omega⟩)]; rfl) | (rw [decide_eq_false (fun h : validM x => absurd h.1 (by assumption))]; rfl) | (rw [decide_eq_false (fun h : validM x => absurd h.2.1 (by first | assumption | exact not_not_intro (by assumption)))]; rfl) | (rw [decide_eq_false (fun h : validM x => by have := h.2.2; omega)]; rfl)), hLow⟩   -- returns .bool false
                · by_cases h8 : 1 ≤ x.2.2.2.2.1
                  · by_cases h9 : x.2.2.2.2.1 ≤ 16
                    · refine walk_to (F := F31) (T := C31) (fuel := 1000) (d := 10) mixed (allF_cons (FactOk.bi rfl rfl rfl rfl rfl rfl (boolF (by omega))) (allF_cons (FactOk.bi rfl rfl rfl rfl rfl rfl (boolF (by omega))) (allF_cons (FactOk.bi rfl rfl rfl rfl rfl rfl (boolF (by omega))) (allF_cons (FactOk.bi rfl rfl rfl rfl rfl rfl (boolF (by omega))) (allF_cons (FactOk.bi rfl rfl rfl rfl rfl rfl (boolF (by omega))) (allF_cons (FactOk.bi rfl rfl rfl rfl rfl rfl (boolF (by omega))) (allF_cons (FactOk.strNeF rfl rfl rfl rfl h7) (allF_cons (FactOk.bi rfl rfl rfl rfl rfl rfl (boolT (by omega))) (allF_cons (FactOk.bi rfl rfl rfl rfl rfl rfl (boolT (by omega))) allF_nil))))))))) (allC_cons (callNameT rfl rfl h6) (allC_cons (callOf rfl rfl rfl rfl hK) allC_nil)) ?_ hh
                      exact ostop_end e31 fun w2 hLow hIn => ⟨(by first | (rw [decide_eq_true (show validM x from ⟨by assumption, by assumption, by omega, by omega, by omega, by omega, by omega, by omega, by omega, by omega⟩)]; rfl) | (rw [decide_eq_false (fun h : validM x => absurd h.1 (by assumption))]; rfl) | (rw [decide_eq_false (fun h : validM x => absurd h.2.1 (by first | assumption | exact not_not_intro (by assumption)))]; rfl) | (rw [decide_eq_false (fun h : validM x => by have := h.2.2; omega)]; rfl)), hLow⟩   -- returns .bool true
                    · refine walk_to (F := F32) (T := C32) (fuel := 1000) (d := 10) mixed (allF_cons (FactOk.bi rfl rfl rfl rfl rfl rfl (boolF (by omega))) (allF_cons (FactOk.bi rfl rfl rfl rfl rfl rfl (boolF (by omega))) (allF_cons (FactOk.bi rfl rfl rfl rfl rfl rfl (boolF (by omega))) (allF_cons (FactOk.bi rfl rfl rfl rfl rfl rfl (boolF (by omega))) (allF_cons (FactOk.bi rfl rfl rfl rfl rfl rfl (boolF (by omega))) (allF_cons (FactOk.bi rfl rfl rfl rfl rfl rfl (boolF (by omega))) (allF_cons (FactOk.strNeF rfl rfl rfl rfl h7) (allF_cons (FactOk.bi rfl rfl rfl rfl rfl rfl (boolT (by omega))) (allF_cons (FactOk.bi rfl rfl rfl rfl rfl rfl (boolF (by omega))) allF_nil))))))))) (allC_cons (callNameT rfl rfl h6) (allC_cons (callOf rfl rfl rfl rfl hK) allC_nil)) ?_ hh
                      exact ostop_end e32 fun w2 hLow hIn => ⟨(by first | (rw [decide_eq_true (show validM x from ⟨by assumption, by assumption, by omega, by omega, by omega, by omega, by omega, by omega, by omega, by omega⟩)]; rfl) | (rw [decide_eq_false (fun h : validM x => absurd h.1 (by assumption))]; rfl) | (rw [decide_eq_false (fun h : validM x => absurd h.2.1 (by first | assumption | exact not_not_intro (by assumption)))]; rfl) | (rw [decide_eq_false (fun h : validM x => by have := h.2.2; omega)]; rfl)), hLow⟩   -- returns .bool false
                  · refine walk_to (F := F33) (T := C33) (fuel := 1000) (d := 10) mixed (allF_cons (FactOk.bi rfl rfl rfl rfl rfl rfl (boolF (by omega))) (allF_cons (FactOk.bi rfl rfl rfl rfl rfl rfl (boolF (by omega))) (allF_cons (FactOk.bi rfl rfl rfl rfl rfl rfl (boolF (by omega))) (allF_cons (FactOk.bi rfl rfl rfl rfl rfl rfl (boolF (by omega))) (allF_cons (FactOk.bi rfl rfl rfl rfl rfl rfl (boolF (by omega))) (allF_cons (FactOk.bi rfl rfl rfl rfl rfl rfl (boolF (by omega))) (allF_cons (FactOk.strNeF rfl rfl rfl rfl h7) (allF_cons (FactOk.bi rfl rfl rfl rfl rfl rfl (boolF (by omega))) allF_nil)))))))) (allC_cons (callNameT rfl rfl h6) (allC_cons (callOf rfl rfl rfl rfl hK) allC_nil)) ?_ hh
                    exact ostop_end e33 fun w2 hLow hIn => ⟨(by first | (rw [decide_eq_true (show validM x from ⟨by assumption, by assumption, by omega, by omega, by omega, by omega, by omega, by omega, by omega, by omega⟩)]; rfl) | (rw [decide_eq_false (fun h : validM x => absurd h.1 (by assumption))]; rfl) | (rw [decide_eq_false (fun h : validM x => absurd h.2.1 (by first | assumption | exact not_not_intro (by assumption)))]; rfl) | (rw [decide_eq_false (fun h : validM x => by have := h.2.2; omega)]; rfl)), hLow⟩   -- returns .bool false
              · refine walk_to (F := F34) (T := C34) (fuel := 1000) (d := 10) mixed (allF_cons (FactOk.bi rfl rfl rfl rfl rfl rfl (boolF (by omega))) (allF_cons (FactOk.bi rfl rfl rfl rfl rfl rfl (boolF (by omega))) (allF_cons (FactOk.bi rfl rfl rfl rfl rfl rfl (boolF (by omega))) (allF_cons (FactOk.bi rfl rfl rfl rfl rfl rfl (boolF (by omega))) (allF_cons (FactOk.bi rfl rfl rfl rfl rfl rfl (boolF (by omega))) (allF_cons (FactOk.bi rfl rfl rfl rfl rfl rfl (boolF (by omega))) allF_nil)))))) (allC_cons (callNameF rfl rfl h6) allC_nil) ?_ hh
                exact ostop_end e34 fun w2 hLow hIn => ⟨(by first | (rw [decide_eq_true (show validM x from ⟨by assumption, by assumption, by omega, by omega, by omega, by omega, by omega, by omega, by omega, by omega⟩)]; rfl) | (rw [decide_eq_false (fun h : validM x => absurd h.1 (by assumption))]; rfl) | (rw [decide_eq_false (fun h : validM x => absurd h.2.1 (by first | assumption | exact not_not_intro (by assumption)))]; rfl) | (rw [decide_eq_false (fun h : validM x => by have := h.2.2; omega)]; rfl)), hLow⟩   -- returns .bool false
end ValMG
end AE
end Go.Proofs.YtblhndlmgibljaaDoor

/- AE, Om: maps of the call's own, from names to truth: made, looked up, written. -/
namespace Go.Proofs.YtblhndlmgibljaaDoor
open Go Go.RowKit
namespace AE

def entsFrom : Nat → List Bs → List MapEntry
  | _, [] => []
  | i, n :: r => { key := strV n, val := .bool true, born := i } :: entsFrom (i + 1) r

theorem entsFrom_snoc : ∀ (i : Nat) (l : List Bs) (n : Bs), entsFrom i (l ++ [n]) = entsFrom i l ++ [{ key := strV n, val := .bool true, born := i + l.length }]
  | i, [], n => by simp [entsFrom]
  | i, x :: r, n => by
    simp only [List.cons_append, entsFrom, entsFrom_snoc (i + 1) r n, List.length_cons]
    rw [show i + 1 + r.length = i + (r.length + 1) by omega]

/-- A map of one's own that holds just these names. -/
def OMap (B : Nat) (M : Mem) (v : Value) (ns : List Bs) : Prop := ∃ b, v = .map (some b) ∧ B ≤ b ∧ M b = some (.map ⟨entsFrom 0 ns⟩ ns.length)
/-- The block of a map. -/
def mbl : Value → Option Nat
  | .map b => b
  | _ => none

theorem OMap.known {B : Nat} {M : Mem} {v : Value} {ns : List Bs} (h : OMap B M v ns) : ∀ i, some i = mbl v → M i ≠ none ∧ B ≤ i := by
  obtain ⟨b, rfl, h1, h2⟩ := h
  intro i hi
  cases hi
  exact ⟨by rw [h2]; simp, h1⟩

theorem sameNow_str (a b : Bs) : Instr.sameNow .string (strV a) (strV b) = some (decide (a = b)) := by
  show some ((⟨a.toArray⟩ : ByteArray) == ⟨b.toArray⟩) = _
  congr 1
  rw [Bool.eq_iff_iff]
  show (a.toArray == b.toArray) = true ↔ _
  simp

theorem findNow_in {n : Bs} : ∀ {ns : List Bs} (i j : Nat), n ∈ ns → ∃ q, Instr.findNow .string (strV n) (entsFrom i ns) j = some (some (q, .bool true))
  | [], _, _, h => by cases h
  | x :: r, i, j, h => by
    unfold entsFrom Instr.findNow
    simp only [sameNow_str]
    by_cases hx : n = x
    · rw [decide_eq_true hx]
      exact ⟨j, rfl⟩
    · rw [decide_eq_false hx]
      exact findNow_in (i + 1) (j + 1) ((List.mem_cons.1 h).resolve_left hx)
theorem findNow_out {n : Bs} : ∀ {ns : List Bs} (i j : Nat), n ∉ ns → Instr.findNow .string (strV n) (entsFrom i ns) j = some none
  | [], _, _, _ => rfl
  | x :: r, i, j, h => by
    unfold entsFrom Instr.findNow
    simp only [sameNow_str]
    rw [decide_eq_false (fun e => h (by rw [e]; exact List.mem_cons_self))]
    exact findNow_out (i + 1) (j + 1) fun h' => h (List.mem_cons_of_mem _ h')

section
variable {P : Program} {kt : TypeId} {n : Bs} {ns : List Bs}
theorem run_findKey_in (hk : pureRun P (underlying kt) = some .string) (h : n ∈ ns) (w : World) : ∃ q, (Instr.findKey kt (strV n) (entsFrom 0 ns)).run P w = .ok (some (q, .bool true)) w := by
  obtain ⟨q, hq⟩ := findNow_in (ns := ns) 0 0 h
  refine ⟨q, ?_⟩
  unfold Instr.findKey
  refine run_pre hk ?_
  rw [hq]
  rfl
theorem run_findKey_out (hk : pureRun P (underlying kt) = some .string) (h : n ∉ ns) (w : World) : (Instr.findKey kt (strV n) (entsFrom 0 ns)).run P w = .ok none w := by
  have hq := findNow_out (ns := ns) 0 0 h
  unfold Instr.findKey
  refine run_pre hk ?_
  rw [hq]
  rfl

variable [Sig]
theorem FactOk.lkIn {t el : TypeId} {x i : Value} {u : Value} {B : Nat} (hx : plainS x = true) (hi : plainS i = true) (ht : pureRun P (underlying t) = some (.map kt el)) (hk : pureRun P (underlying kt) = some .string) (hck : ∀ b n, pureRun P (Instr.checkKey b 10000 kt (strV n)) = some ()) (hO : OMap B Sig.imm u ns)
    (ex : interp x = u) (ei : interp i = strV n) (h : n ∈ ns) : FactOk P (.lk t x i false, .bool true) := by
  obtain ⟨b, rfl, _, hb⟩ := hO
  refine fact_any (by simp [plainF, hx, hi]) rfl rfl fun xo yo w hw => ?_
  show (semF xo yo (.lk t (interp x) (interp i) false)).run P w = _
  obtain ⟨q, hq⟩ := run_findKey_in (P := P) hk h w
  have := run_lookup (P := P) (w := w) (z := undef) (ok := false) (.inr ⟨b, ns.length, rfl, hw _ _ hb⟩) ht (hck _ n) hq (fun h => by cases h)
  rw [ex, ei]
  unfold semF
  simp only [Sem.run_bind, this, Result.andThen_ok]
  rfl
theorem FactOk.lkOut {t el : TypeId} {x i : Value} {u : Value} {B : Nat} (hx : plainS x = true) (hi : plainS i = true) (ht : pureRun P (underlying t) = some (.map kt el)) (hk : pureRun P (underlying kt) = some .string) (hz : pureRun P (zeroValue el) = some (.bool false)) (hck : ∀ b n, pureRun P (Instr.checkKey b 10000 kt (strV n)) = some ()) (hO : OMap B Sig.imm u ns)
    (ex : interp x = u) (ei : interp i = strV n) (h : n ∉ ns) : FactOk P (.lk t x i false, .bool false) := by
  obtain ⟨b, rfl, _, hb⟩ := hO
  refine fact_any (by simp [plainF, hx, hi]) rfl rfl fun xo yo w hw => ?_
  show (semF xo yo (.lk t (interp x) (interp i) false)).run P w = _
  have := run_lookup (P := P) (w := w) (z := .bool false) (ok := false) (.inr ⟨b, ns.length, rfl, hw _ _ hb⟩) ht (hck _ n) (run_findKey_out (P := P) hk h w) (fun _ => hz)
  rw [ex, ei]
  unfold semF
  simp only [Sem.run_bind, this, Result.andThen_ok]
  rfl
end

/-- The map that an evaluation stops at: it is made. -/
def mkmOf : Option Stop → Option TypeId
  | some (.oper o _ ops s _) => match o.op with
    | .makeMap t none => match aWanted ops o s.sl with
      | some true => some t
      | _ => none
    | _ => none
  | _ => none

theorem ostop_makeMap [Outer] {P : Program} {N B : Nat} {w0 : World} {Q : Exit → Act → World → Prop} {M : Mem} {vals : List Value} {o : Option Stop} {t : TypeId} {vR : Value} {vals2 : Nat → List Value} {sl2 sl3 : Sl} {bks : List Bk} {obs : Obs} {ns : List Bs}
    (hl' : ns = []) (h : mkmOf o = some t) (htr : trAll (stopSt o) sl2 bks = some obs) (hput : aput N sl2 (stopDst o) vR = some sl3) (hpl : plainS vR = true)
    (hm : ∀ M' g, Meet (sgL M vals) (sgL M' (vals2 g)) obs) (hv : ∀ M' g, @interp (sgL M' (vals2 g)) vR = .map (some g))
    (rest : ∀ M' g, OMap B M' (.map (some g)) ns → Keeps M M' none → ∀ a' w, @Here (sgL M' (vals2 g)) _ N { sl := sl3, ms := [], A := mkAS bks } B w0 a' w → wpListIn (Fr none) 0 P (stopOps o) (KQ P (stopKs o) Q) (stopRest o) a' w)
    (hn : Outer.n0 ≤ bks.length := by first | exact Nat.zero_le _ | exact Nat.le_of_ble_eq_true rfl) (hc : SameC (stopSt o).A bks 0 := by exact sameC_none rfl) : @OStop (sgL M vals) _ P N B w0 Q o := by
  subst hl'
  letI := sgL M vals
  unfold mkmOf at h
  split at h
  · rename_i op r ops s ks
    refine ⟨_, rfl, fun a w hh => ?_⟩
    split at h
    · rename_i t' hop
      split at h
      · rename_i hwt
        cases h
        have hh0 := hh
        obtain ⟨⟨φ, ds, h1, h2, h3, h4, _⟩, h5, h6⟩ := hh
        unfold wpListIn
        rw [wanted_spec h2.get hwt, if_pos rfl]
        have hw : ∀ i o, M i = some o → w.heap[i]? = some o := hh0.immW
        let w' : World := { w with heap := w.heap.push (.map #[] 0) }
        have hrun : (execOp a.eval op).run P w = .ok (.value (.map (some w.heap.size))) w' := by
          unfold execOp
          rw [hop]
          rfl
        have hnd : ∀ c', op.op ≠ .defer c' := fun c' h => by rw [hop] at h; cases h
        refine ⟨fun _ _ => trivial, ?_⟩
        rw [Oper.semAt_eq _ _ _ hnd, hrun, Oper.uponIn_value]
        obtain ⟨q1, q2⟩ := turns_memTo (B := B) (M := M) (w := w) (w' := w') (T := none) (U := some w.heap.size) hw (fun i h => by cases h) (fun i hi => .inr (by cases hi; exact Nat.le_refl _)) ⟨rfl, rfl, rfl⟩ (Nat.le_refl _) (by simp [w']) (fun i hi _ => by
          show (w.heap.push _)[i]? = _
          rw [Array.getElem?_push, if_neg (by omega)])
        have hO : OMap B (memTo M w' none (some w.heap.size)) (.map (some w.heap.size)) [] := by
          refine ⟨_, rfl, h6, ?_⟩
          unfold memTo
          rw [if_pos rfl]
          show (w.heap.push _)[w.heap.size]? = _
          rw [Array.getElem?_push, if_pos rfl]
          rfl
        have hh2 := Here.turns (vals' := vals2 w.heap.size) htr (hm _ _) q1 hn hc hh0
        letI := sgL (memTo M w' none (some w.heap.size)) (vals2 w.heap.size)
        have hh3 := Here.put (d := op.dst) hh2 (v := vR) hpl hput
        rw [hv] at hh3
        exact rest _ _ hO q2 _ w' hh3
      · cases h
    · cases h
  · cases h

/-- The write into a map that an evaluation stops at. -/
def msetOf : Option Stop → Option (TypeId × Value × Value × Value)
  | some (.oper o _ ops s _) => match o.op with
    | .mapUpdate t m k x => match aWanted ops o s.sl with
      | some true => some (t, evs .nil s.sl m, evs .nil s.sl k, evs .nil s.sl x)
      | _ => none
    | _ => none
  | _ => none

theorem ostop_mapSet [Outer] {P : Program} {N B : Nat} {w0 : World} {Q : Exit → Act → World → Prop} {M : Mem} {vals vals2 : List Value} {o : Option Stop} {t kt el : TypeId} {m k u : Value} {n : Bs} {ns ns' : List Bs} {sl2 sl3 : Sl} {bks : List Bk} {obs : Obs}
    (hl' : ns' = ns ++ [n]) (h : msetOf o = some (t, m, k, .bool true)) (ht : pureRun P (underlying t) = some (.map kt el)) (hk : pureRun P (underlying kt) = some .string) (hck : ∀ b n, pureRun P (Instr.checkKey b 10000 kt (strV n)) = some ())
    (htr : trAll (stopSt o) sl2 bks = some obs) (hput : aput N sl2 (stopDst o) undef = some sl3) (hp : plainS m = true) (hx : plainS k = true) (em : @interp (sgL M vals) m = u) (ek : @interp (sgL M vals) k = strV n)
    (hO : OMap B M u ns) (hnew : n ∉ ns) (hm : ∀ M', Meet (sgL M vals) (sgL M' vals2) obs)
    (rest : ∀ M', OMap B M' u ns' → Keeps M M' (mbl u) → ∀ a' w, @Here (sgL M' vals2) _ N { sl := sl3, ms := [], A := mkAS bks } B w0 a' w → wpListIn (Fr none) 0 P (stopOps o) (KQ P (stopKs o) Q) (stopRest o) a' w)
    (hn : Outer.n0 ≤ bks.length := by first | exact Nat.zero_le _ | exact Nat.le_of_ble_eq_true rfl) (hc : SameC (stopSt o).A bks 0 := by exact sameC_none rfl) : @OStop (sgL M vals) _ P N B w0 Q o := by
  subst hl'
  letI := sgL M vals
  unfold msetOf at h
  split at h
  · rename_i op r ops s ks
    refine ⟨_, rfl, fun a w hh => ?_⟩
    split at h
    · rename_i t' mO kO xO hop
      split at h
      · rename_i hwt
        simp only [Option.some.injEq, Prod.mk.injEq] at h
        obtain ⟨rfl, rfl, rfl, e4⟩ := h
        have hh0 := hh
        obtain ⟨⟨φ, ds, h1, h2, h3, h4, _⟩, h5, h6⟩ := hh
        unfold wpListIn
        rw [wanted_spec h2.get hwt, if_pos rfl]
        have es : a.eval mO = u := (VRel.eq_of_plainS _ hp (evs_rel (gr_nil φ) h2.get mO)).trans em
        have exx : a.eval kO = strV n := (VRel.eq_of_plainS _ hx (evs_rel (gr_nil φ) h2.get kO)).trans ek
        have exv : a.eval xO = .bool true := by
          have h9 := evs_rel (gr_nil φ) h2.get xO
          rw [e4] at h9
          exact VRel.eq_of_plainS _ rfl h9
        have hw : ∀ i o, M i = some o → w.heap[i]? = some o := hh0.immW
        obtain ⟨b, rfl, hB, hb⟩ := hO
        have hg := hw _ _ hb
        let o' : Obj := .map ⟨entsFrom 0 (ns ++ [n])⟩ (ns ++ [n]).length
        let w' : World := { w with heap := w.heap.setIfInBounds b o' }
        have hobj : Obj.map ((⟨entsFrom 0 ns⟩ : Array MapEntry).push { key := strV n, val := .bool true, born := ns.length }) (ns.length + 1) = o' := by
          show _ = Obj.map _ _
          rw [entsFrom_snoc, List.length_append, Nat.zero_add]
          simp
        have hrun : (execOp a.eval op).run P w = .ok .skip w' := by
          unfold execOp
          rw [hop]
          simp only [es, exx, exv]
          show (do Instr.mapUpdate t' (.map (some b)) (strV n) (.bool true); pure Next.skip : Sem Next).run P w = _
          have hst : (Instr.mapUpdate t' (.map (some b)) (strV n) (.bool true)).run P w = .ok () w' := by
            unfold Instr.mapUpdate
            refine run_pre ht ?_
            simp only
            refine run_then (run_getObj hg (by simp)) ?_
            simp only
            refine run_pre (hck _ n) ?_
            refine run_then (run_findKey_out hk hnew w) ?_
            simp only
            rw [hobj]
            exact run_setObj hg (by simp)
          simp only [Sem.run_bind, hst, Result.andThen_ok]
          rfl
        have hnd : ∀ c', op.op ≠ .defer c' := fun c' h => by rw [hop] at h; cases h
        refine ⟨fun _ _ => trivial, ?_⟩
        rw [Oper.semAt_eq _ _ _ hnd, hrun, Oper.uponIn_skip]
        have hbs : b < w.heap.size := (Array.getElem?_eq_some_iff.1 hg).1
        obtain ⟨q1, q2⟩ := turns_memTo (B := B) (M := M) (w := w) (w' := w') (T := some b) (U := some b) hw (fun i hi => by cases hi; exact ⟨by rw [hb]; simp, hB⟩) (fun i hi => .inl hi) ⟨rfl, rfl, rfl⟩ (Nat.le_refl _) (by simp [w']) (fun i hi hne => by
          show (w.heap.setIfInBounds b o')[i]? = _
          rw [Array.getElem?_setIfInBounds, if_neg (fun e => hne (by rw [e]))])
        have hO : OMap B (memTo M w' (some b) (some b)) (.map (some b)) (ns ++ [n]) := by
          refine ⟨_, rfl, hB, ?_⟩
          unfold memTo
          rw [if_pos rfl]
          show (w.heap.setIfInBounds b o')[b]? = _
          rw [Array.getElem?_setIfInBounds, if_pos rfl, if_pos hbs]
        have hh2 := Here.turns (vals' := vals2) htr (hm _) q1 hn hc hh0
        letI := sgL (memTo M w' (some b) (some b)) vals2
        exact rest _ hO q2 _ w' (Here.put (d := op.dst) hh2 (v := undef) rfl hput)
      · cases h
    · cases h
  · cases h

theorem Keeps.map {B : Nat} {M M' : Mem} {T : Option Nat} {v : Value} {l : List Bs} (hk : Keeps M M' T) (h : OMap B M v l) (hne : ∀ i, some i = mbl v → some i ≠ T) : OMap B M' v l := by
  obtain ⟨b, rfl, h1, h2⟩ := h
  exact ⟨b, rfl, h1, hk _ _ h2 (hne b rfl)⟩
end AE
end Go.Proofs.YtblhndlmgibljaaDoor

/- isMaterial, as a fact. -/
namespace Go.Proofs.YtblhndlmgibljaaDoor
open Go Go.Proofs Go.RowKit
namespace AE
variable [Sig]
theorem callValT {x : Value} {m : Mt} (hp : plainSL [x] = true) (ev : interpL [x] = [M.val m]) (hK : KindsM Sig.imm) (h : validM m) : CallFactOk Tryd.prog (29, [x], .bool true) :=
  callAny (a := #[M.val m]) hp rfl ev rfl fun w hw => (ValMG.any w m (hK.mono hw)).mono fun e w' h' => by rw [decide_eq_true h] at h'; exact h'
theorem callValF {x : Value} {m : Mt} (hp : plainSL [x] = true) (ev : interpL [x] = [M.val m]) (hK : KindsM Sig.imm) (h : ¬ validM m) : CallFactOk Tryd.prog (29, [x], .bool false) :=
  callAny (a := #[M.val m]) hp rfl ev rfl fun w hw => (ValMG.any w m (hK.mono hw)).mono fun e w' h' => by rw [decide_eq_false h] at h'; exact h'
end AE
end Go.Proofs.YtblhndlmgibljaaDoor

/- the walk of Check -/
namespace Go.Proofs.YtblhndlmgibljaaDoor
open Go Go.Proofs Go.RowKit
set_option maxRecDepth 100000
namespace AE
namespace ChkG
noncomputable def body : Code := (Tryd.f11.body).getD .skip
def N : Nat := 42
noncomputable abbrev at' (N : Nat) (F : List (FOp × Value)) (C : List (FuncId × List Value × Value)) (c : Code) (s : ASt) : Option Stop := evalTo Tryd.prog F C N 1000 10 c s
noncomputable abbrev leave' (N : Nat) (F : List (FOp × Value)) (C : List (FuncId × List Value × Value)) (ks : List KI) (o : Option Stop) : Option Stop := evalLeave Tryd.prog F C N 1000 10 ks o
noncomputable abbrev unr' (N : Nat) (F : List (FOp × Value)) (C : List (FuncId × List Value × Value)) (m : Nat) (o : Option Stop) : Option Stop := evalUnroll Tryd.prog F C N 1000 10 m o
noncomputable abbrev res' (N : Nat) (F : List (FOp × Value)) (C : List (FuncId × List Value × Value)) (ks : List KI) (x : AX) (s : ASt) : Option Stop := evalRes Tryd.prog F C N 1000 10 ks x s
noncomputable abbrev ops' (N : Nat) (F : List (FOp × Value)) (C : List (FuncId × List Value × Value)) (r : List Oper) (ops : Array Oper) (ks : List KI) (s : ASt) : Option Stop := evalOps Tryd.prog F C N 1000 10 r ops ks s
def s0 : ASt := { sl := slots [(0, symv 0)], ms := [], A := start }
def F0 : List (FOp × Value) := [(.tru (.bool true), .bool true),
    (.len #[22] 3 (symv 0), symv 1),
    (.bin .gtr 3 (symv 1) (.int .i64 256), .bool true)]
def C0 : List (FuncId × List Value × Value) := []
theorem e0 : endVal Tryd.prog Tryd.f11 (at' 42 F0 C0 body s0) = some (.tuple ⟨[.int .i64 (-1), .int .i64 2]⟩) := by kernel_rfl
def F1 : List (FOp × Value) := [(.tru (.bool true), .bool true),
    (.len #[22] 3 (symv 0), symv 1),
    (.bin .gtr 3 (symv 1) (.int .i64 256), .bool false),
    (.bin .eql 3 (symv 1) (.int .i64 0), .bool true)]
def C1 : List (FuncId × List Value × Value) := []
theorem e1 : endVal Tryd.prog Tryd.f11 (at' 42 F1 C1 body s0) = some (.tuple ⟨[.int .i64 (-1), .int .i64 1]⟩) := by kernel_rfl
def F2 : List (FOp × Value) := [(.tru (.bool true), .bool true),
    (.len #[22] 3 (symv 0), symv 1),
    (.bin .gtr 3 (symv 1) (.int .i64 256), .bool false),
    (.bin .eql 3 (symv 1) (.int .i64 0), .bool false),
    (.ixa 22 (symv 0) (.int .i64 0), symv 2),
    (.ld 35 (symv 2), .agg ⟨[symv 3, symv 4, symv 5, symv 6, symv 7, symv 8, symv 9, symv 10]⟩),
    (.bin .neq 35 (.agg ⟨[symv 3, symv 4, symv 5, symv 6, symv 7, symv 8, symv 9, symv 10]⟩) (.agg ⟨[strV [97, 105, 114], .bool false, .bool false, .bool false, .int .i64 1, .int .i64 0, .int .i64 0, .int .i64 0]⟩), .bool false)]
def C2 : List (FuncId × List Value × Value) := []
theorem e2 : mkmOf (at' 42 F2 C2 body s0) = some 49 := by kernel_rfl
noncomputable abbrev so0 := at' 42 F2 C2 body s0
noncomputable def bk0 : List Bk := []
def hd0 : Sl := slots [(3, .int .i64 0), (2, .int .i64 0), (0, symv 0)]
def hp0 : Sl := match aput 42 hd0 (some 21) (symv 11) with | some s => s | none => .nil
theorem e3 : trAll (stopSt so0) hd0 bk0 = some [(symv 0, symv 0)] := by kernel_rfl
theorem e4 : aput 42 hd0 (stopDst so0) (symv 11) = some hp0 := by kernel_rfl
def F3 : List (FOp × Value) := [(.tru (.bool true), .bool true),
    (.len #[22] 3 (symv 0), symv 1)]
def C3 : List (FuncId × List Value × Value) := []
noncomputable def bks0 : List Bk := []
def head0 : Sl := slots [(24, symv 12), (23, symv 1), (22, symv 0), (4, symv 11)]
noncomputable abbrev at0 := ops' 42 F3 C3 (stopRest so0) (stopOps so0) (stopKs so0) { sl := hp0, ms := [], A := mkAS bk0 }
theorem e5 : headObs head0 bks0 at0 = some [(symv 1, symv 1), (symv 11, symv 11), (.int .i64 0, symv 12), (symv 0, symv 0)] := by kernel_rfl
def F4 : List (FOp × Value) := [(.tru (.bool true), .bool true),
    (.bin .lss 3 (symv 12) (symv 1), .bool true),
    (.ixa 22 (symv 0) (symv 12), symv 13),
    (.ld 35 (symv 13), .agg ⟨[symv 14, symv 15, symv 16, symv 17, symv 18, symv 19, symv 20, symv 21]⟩),
    (.lk 49 (symv 11) (symv 14) false, .bool true)]
def C4 : List (FuncId × List Value × Value) := [(29, [.agg ⟨[symv 14, symv 15, symv 16, symv 17, symv 18, symv 19, symv 20, symv 21]⟩], .bool true)]
def F5 : List (FOp × Value) := [(.tru (.bool true), .bool true)]
def C5 : List (FuncId × List Value × Value) := []
theorem e6 : endVal Tryd.prog Tryd.f11 (leave' 42 F5 C5 (stopKs at0) (at' 42 F4 C4 (stopCode at0) (headSt head0 bks0))) = some (.tuple ⟨[symv 12, .int .i64 10]⟩) := by kernel_rfl
def F6 : List (FOp × Value) := [(.tru (.bool true), .bool true),
    (.bin .lss 3 (symv 12) (symv 1), .bool true),
    (.ixa 22 (symv 0) (symv 12), symv 13),
    (.ld 35 (symv 13), .agg ⟨[symv 14, symv 15, symv 16, symv 17, symv 18, symv 19, symv 20, symv 21]⟩),
    (.lk 49 (symv 11) (symv 14) false, .bool false)]
def C6 : List (FuncId × List Value × Value) := [(29, [.agg ⟨[symv 14, symv 15, symv 16, symv 17, symv 18, symv 19, symv 20, symv 21]⟩], .bool true)]
theorem e7 : msetOf (at' 42 F6 C6 (stopCode at0) (headSt head0 bks0)) = some (49, (symv 11), (symv 14), .bool true) := by kernel_rfl
noncomputable abbrev so1 := at' 42 F6 C6 (stopCode at0) (headSt head0 bks0)
noncomputable def bk1 : List Bk := []
def hd1 : Sl := slots [(24, symv 12), (23, symv 1), (22, symv 0), (4, symv 11)]
def hp1 : Sl := match aput 42 hd1 none (.tuple ⟨[]⟩) with | some s => s | none => .nil
theorem e8 : trAll (stopSt so1) hd1 bk1 = some [(symv 1, symv 1), (symv 11, symv 11), (symv 12, symv 12), (symv 0, symv 0)] := by kernel_rfl
theorem e9 : aput 42 hd1 (stopDst so1) (.tuple ⟨[]⟩) = some hp1 := by kernel_rfl
def F7 : List (FOp × Value) := [(.tru (.bool true), .bool true),
    (.bin .add 3 (symv 12) (.int .i64 1), symv 22)]
def C7 : List (FuncId × List Value × Value) := []
theorem e10 : backObs head0 bks0 (ops' 42 F7 C7 (stopRest so1) (stopOps so1) (stopKs so1) { sl := hp1, ms := [], A := mkAS bk1 }) = some [(symv 1, symv 1), (symv 11, symv 11), (symv 22, symv 12), (symv 0, symv 0)] := by kernel_rfl
def F8 : List (FOp × Value) := [(.tru (.bool true), .bool true),
    (.bin .lss 3 (symv 12) (symv 1), .bool true),
    (.ixa 22 (symv 0) (symv 12), symv 13),
    (.ld 35 (symv 13), .agg ⟨[symv 14, symv 15, symv 16, symv 17, symv 18, symv 19, symv 20, symv 21]⟩)]
def C8 : List (FuncId × List Value × Value) := [(29, [.agg ⟨[symv 14, symv 15, symv 16, symv 17, symv 18, symv 19, symv 20, symv 21]⟩], .bool false)]
theorem e11 : endVal Tryd.prog Tryd.f11 (leave' 42 F5 C5 (stopKs at0) (at' 42 F8 C8 (stopCode at0) (headSt head0 bks0))) = some (.tuple ⟨[symv 12, .int .i64 1]⟩) := by kernel_rfl
def F9 : List (FOp × Value) := [(.tru (.bool true), .bool true),
    (.bin .lss 3 (symv 12) (symv 1), .bool false)]
def C9 : List (FuncId × List Value × Value) := []
theorem e12 : endVal Tryd.prog Tryd.f11 (leave' 42 F5 C5 (stopKs at0) (at' 42 F9 C9 (stopCode at0) (headSt head0 bks0))) = some (.tuple ⟨[.int .i64 0, .int .i64 0]⟩) := by kernel_rfl
def F10 : List (FOp × Value) := [(.tru (.bool true), .bool true),
    (.len #[22] 3 (symv 0), symv 1),
    (.bin .gtr 3 (symv 1) (.int .i64 256), .bool false),
    (.bin .eql 3 (symv 1) (.int .i64 0), .bool false),
    (.ixa 22 (symv 0) (.int .i64 0), symv 2),
    (.ld 35 (symv 2), .agg ⟨[symv 3, symv 4, symv 5, symv 6, symv 7, symv 8, symv 9, symv 10]⟩),
    (.bin .neq 35 (.agg ⟨[symv 3, symv 4, symv 5, symv 6, symv 7, symv 8, symv 9, symv 10]⟩) (.agg ⟨[strV [97, 105, 114], .bool false, .bool false, .bool false, .int .i64 1, .int .i64 0, .int .i64 0, .int .i64 0]⟩), .bool true)]
def C10 : List (FuncId × List Value × Value) := []
theorem e13 : endVal Tryd.prog Tryd.f11 (at' 42 F10 C10 body s0) = some (.tuple ⟨[.int .i64 0, .int .i64 1]⟩) := by kernel_rfl
@[reducible] noncomputable def vL (l : List Mt) (a_l : Option Addr) (c_l : Nat) (b : List Bs) (i : Nat) (b0 : List Bs) (g0 : Nat) (b1 : List Bs) : List Value := [.slice a_l l.length c_l, .int .i64 ((l.length : Nat) : Int), cellPtr (.slice a_l l.length c_l) (0 * 8), strV (l.getD (0) default).1, .bool (l.getD (0) default).2.1, .bool (l.getD (0) default).2.2.1, .bool (l.getD (0) default).2.2.2.1, .int .i64 (l.getD (0) default).2.2.2.2.1, .int .i64 (l.getD (0) default).2.2.2.2.2.1, .int .i64 (l.getD (0) default).2.2.2.2.2.2.1, .int .i64 (l.getD (0) default).2.2.2.2.2.2.2, .map (some g0), .int .i64 ((i : Nat) : Int), cellPtr (.slice a_l l.length c_l) (i * 8), strV (l.getD (i) default).1, .bool (l.getD (i) default).2.1, .bool (l.getD (i) default).2.2.1, .bool (l.getD (i) default).2.2.2.1, .int .i64 (l.getD (i) default).2.2.2.2.1, .int .i64 (l.getD (i) default).2.2.2.2.2.1, .int .i64 (l.getD (i) default).2.2.2.2.2.2.1, .int .i64 (l.getD (i) default).2.2.2.2.2.2.2, .int .i64 ((i + 1 : Nat) : Int)]
@[reducible] noncomputable def sg (M : Mem) (l : List Mt) (a_l : Option Addr) (c_l : Nat) (b : List Bs) (i : Nat) (b0 : List Bs) (g0 : Nat) (b1 : List Bs) : Sig := sgL M (vL l a_l c_l b i b0 g0 b1)
set_option maxHeartbeats 4000000 in
theorem any (W : World) {v_l : Value} {l : List Mt} (hl : Arr (heapOf W) 8 encM v_l l) (hK : KindsM (heapOf W)) : Calls Tryd.prog 11 #[v_l] W fun e w' => e = .returned (.tuple #[.int .i64 (chkM l).1, .int .i64 (chkM l).2]) ∧ Low W.heap.size W w' := by
  obtain ⟨a_l, c_l, rfl⟩ := hl.slice
  refine @walk_enter (sg (heapOf W) l a_l c_l [] 0 [] 0 []) Tryd.prog 11 Tryd.f11 body [symv 0] (slots [(0, symv 0)]) N W _ Tryd.func11 (by kernel_rfl) (by kernel_rfl) (by kernel_rfl) (by kernel_rfl) (immW_sgL W _) fun a hh => ?_
  letI := (sg (heapOf W) l a_l c_l [] 0 [] 0 [])
  by_cases h0 : 256 < ((l.length : Nat) : Int)
  · refine walk_to (F := F0) (T := C0) (fuel := 1000) (d := 10) mixed (allF_cons (FactOk.tru rfl rfl) (allF_cons (FactOk.arrLen hl rfl rfl underMl rfl rfl) (allF_cons (FactOk.bi rfl rfl rfl rfl rfl rfl (boolT (by omega))) allF_nil))) allC_nil ?_ hh
    exact ostop_end e0 fun w2 hLow hIn => ⟨(by refine congrArg Ending.returned ?_; first | (rw [chkM_long (by omega)]; rfl) | (rw [chkM_nil (by omega) (by omega)]; rfl) | (rw [chkM_air (by omega) (by omega) (by assumption)]; rfl) | (rw [chkM_bad (i := i) (by omega) (by omega) (by assumption) (by omega) hI.2.2.2.2 (by assumption)]; rfl) | (rw [chkM_two (i := i) (by omega) (by omega) (by assumption) (by omega) hI.2.2.2.2 (by assumption) (by rw [← hI.2.2.1]; assumption)]; rfl) | (rw [chkM_ok (by omega) (by omega) (by assumption) (fun j hj => hI.2.2.2.2 j (by omega))]; rfl)), hLow⟩   -- returns .tuple ⟨[.int .i64 (-1), .int .i64 2]⟩
  · by_cases h1 : ((l.length : Nat) : Int) = 0
    · refine walk_to (F := F1) (T := C1) (fuel := 1000) (d := 10) mixed (allF_cons (FactOk.tru rfl rfl) (allF_cons (FactOk.arrLen hl rfl rfl underMl rfl rfl) (allF_cons (FactOk.bi rfl rfl rfl rfl rfl rfl (boolF (by omega))) (allF_cons (FactOk.bi rfl rfl rfl rfl rfl rfl (boolT (by omega))) allF_nil)))) allC_nil ?_ hh
      exact ostop_end e1 fun w2 hLow hIn => ⟨(by refine congrArg Ending.returned ?_; first | (rw [chkM_long (by omega)]; rfl) | (rw [chkM_nil (by omega) (by omega)]; rfl) | (rw [chkM_air (by omega) (by omega) (by assumption)]; rfl) | (rw [chkM_bad (i := i) (by omega) (by omega) (by assumption) (by omega) hI.2.2.2.2 (by assumption)]; rfl) | (rw [chkM_two (i := i) (by omega) (by omega) (by assumption) (by omega) hI.2.2.2.2 (by assumption) (by rw [← hI.2.2.1]; assumption)]; rfl) | (rw [chkM_ok (by omega) (by omega) (by assumption) (fun j hj => hI.2.2.2.2 j (by omega))]; rfl)), hLow⟩   -- returns .tuple ⟨[.int .i64 (-1), .int .i64 1]⟩
    · by_cases h2 : (l.getD (0) default) = ((([97, 105, 114] : Bs), false, false, false, 1, 0, 0, 0) : Mt)
      · refine walk_to (F := F2) (T := C2) (fuel := 1000) (d := 10) mixed (allF_cons (FactOk.tru rfl rfl) (allF_cons (FactOk.arrLen hl rfl rfl underMl rfl rfl) (allF_cons (FactOk.bi rfl rfl rfl rfl rfl rfl (boolF (by omega))) (allF_cons (FactOk.bi rfl rfl rfl rfl rfl rfl (boolF (by omega))) (allF_cons (FactOk.arrIxa hl (show 0 < l.length by omega) rfl rfl rfl underMl sizeM rfl rfl rfl) (allF_cons (FactOk.arrLd hl (getSome (show 0 < l.length by omega)) rfl rfl aggM sizeM rfl rfl rfl) (allF_cons (neM rfl rfl rfl rfl (by rw [decide_eq_true h2]; rfl)) allF_nil))))))) allC_nil ?_ hh
        obtain ⟨b0, hb0⟩ : ∃ b0 : List Bs, b0 = [] := ⟨_, rfl⟩
        refine ostop_makeMap (vals2 := fun gV => (vL l a_l c_l [] 0 b0 gV [])) hb0 e2 e3 e4 rfl (fun _ gV => (meet_cons (by first | exact meetV (.slice a_l l.length c_l) rfl rfl | exact meetI rfl rfl (by omega)) meet_nil)) (fun _ _ => rfl) ?_
        intro M0 g0 hO0 hK0 aC w hh
        have hM0 := hK0.up (fun i h => by cases h) (Nat.le_refl _) (fun _ _ h => h)
        letI := (sg M0 l a_l c_l [] 0 b0 g0 [])
        refine walk_ops (F := F3) (T := C3) (fuel := 1000) (d := 10) mixed (allF_cons (FactOk.tru rfl rfl) (allF_cons (FactOk.arrLen (hl.mono hM0) rfl rfl underMl rfl rfl) allF_nil)) allC_nil ?_ hh
        -- LOOP 0: slot 2 = .int .i64 0 is written in the loop: left out
        -- LOOP 0: slot 3 = .int .i64 0 is written in the loop: left out
        refine ostop_loop (sg := (fun (⟨M, b, i⟩ : Mem × List Bs × Nat) => sg M l a_l c_l b i b0 g0 [])) (fun (⟨M, b, i⟩ : Mem × List Bs × Nat) => OMap W.heap.size M (.map (some g0)) b ∧ (∀ i o, heapOf W i = some o → M i = some o) ∧ b = namesTo l i ∧ i ≤ l.length ∧ ∀ j, j < i → ¬ badAt l j) (fun (⟨M, b, i⟩ : Mem × List Bs × Nat) => l.length - i) ⟨M0, b0, 0⟩ e5 (meet_cons (by first | exact meetV (.int .i64 ((l.length : Nat) : Int)) rfl rfl | exact meetI rfl rfl (by omega)) (meet_cons (by exact meetV (.map (some g0)) rfl rfl) (meet_cons (by first | rfl | exact meetInt (by omega)) (meet_cons (by first | exact meetV (.slice a_l l.length c_l) rfl rfl | exact meetI rfl rfl (by omega)) meet_nil)))) (fun _ _ h => h) (by exact ⟨hO0, hM0, hb0, Nat.zero_le _, fun j h => absurd h (Nat.not_lt_zero _)⟩) ?_
        intro ⟨M, b, i⟩ hI aC w hh
        letI := (sg M l a_l c_l b i b0 g0 [])
        have hO := hI.1
        have hM := hI.2.1
        by_cases q0 : ((i : Nat) : Int) < ((l.length : Nat) : Int)
        · by_cases q1 : validM (l.getD (i) default)
          · by_cases q2 : (l.getD (i) default).1 ∈ b
            · refine walk_to (F := F4) (T := C4) (fuel := 1000) (d := 10) mixed (allF_cons (FactOk.tru rfl rfl) (allF_cons (FactOk.bi rfl rfl rfl rfl rfl rfl (boolT (by omega))) (allF_cons (FactOk.arrIxa (hl.mono hM) (show i < l.length by omega) rfl rfl rfl underMl sizeM rfl rfl rfl) (allF_cons (FactOk.arrLd (hl.mono hM) (getSome (show i < l.length by omega)) rfl rfl aggM sizeM rfl rfl rfl) (allF_cons (FactOk.lkIn rfl rfl mapT1 mapT2 mapCk hO rfl rfl q2) allF_nil))))) (allC_cons (callValT rfl rfl (by first | exact hK | exact hK.mono (by assumption)) q1) allC_nil) ?_ hh
              refine walk_leave (F := F5) (T := C5) (fuel := 1000) (d := 10) mixed (allF_cons (FactOk.tru rfl rfl) allF_nil) allC_nil ?_
              exact ostop_end e6 fun w2 hLow hIn => ⟨(by refine congrArg Ending.returned ?_; first | (rw [chkM_long (by omega)]; rfl) | (rw [chkM_nil (by omega) (by omega)]; rfl) | (rw [chkM_air (by omega) (by omega) (by assumption)]; rfl) | (rw [chkM_bad (i := i) (by omega) (by omega) (by assumption) (by omega) hI.2.2.2.2 (by assumption)]; rfl) | (rw [chkM_two (i := i) (by omega) (by omega) (by assumption) (by omega) hI.2.2.2.2 (by assumption) (by rw [← hI.2.2.1]; assumption)]; rfl) | (rw [chkM_ok (by omega) (by omega) (by assumption) (fun j hj => hI.2.2.2.2 j (by omega))]; rfl)), hLow⟩   -- returns .tuple ⟨[symv 12, .int .i64 10]⟩
            · refine walk_to (F := F6) (T := C6) (fuel := 1000) (d := 10) mixed (allF_cons (FactOk.tru rfl rfl) (allF_cons (FactOk.bi rfl rfl rfl rfl rfl rfl (boolT (by omega))) (allF_cons (FactOk.arrIxa (hl.mono hM) (show i < l.length by omega) rfl rfl rfl underMl sizeM rfl rfl rfl) (allF_cons (FactOk.arrLd (hl.mono hM) (getSome (show i < l.length by omega)) rfl rfl aggM sizeM rfl rfl rfl) (allF_cons (FactOk.lkOut rfl rfl mapT1 mapT2 mapZ mapCk hO rfl rfl q2) allF_nil))))) (allC_cons (callValT rfl rfl (by first | exact hK | exact hK.mono (by assumption)) q1) allC_nil) ?_ hh
              obtain ⟨b1, hb1⟩ : ∃ b1 : List Bs, b1 = b ++ [(l.getD (i) default).1] := ⟨_, rfl⟩
              refine ostop_mapSet (u := .map (some g0)) (n := (l.getD (i) default).1) (ns := b) (ns' := b1) (vals2 := (vL l a_l c_l b i b0 g0 b1)) hb1 e7 mapT1 mapT2 mapCk e8 e9 rfl rfl rfl rfl hO (by assumption) (fun _ => (meet_cons (by first | exact meetV (.int .i64 ((l.length : Nat) : Int)) rfl rfl | exact meetI rfl rfl (by omega)) (meet_cons (by exact meetV (.map (some g0)) rfl rfl) (meet_cons (by first | exact meetV (.int .i64 ((i : Nat) : Int)) rfl rfl | exact meetI rfl rfl (by omega)) (meet_cons (by first | exact meetV (.slice a_l l.length c_l) rfl rfl | exact meetI rfl rfl (by omega)) meet_nil))))) ?_
              intro M1 hO1 hK1 aC w hh
              have hM1 := hK1.up (fun i h => (hO.known i h).2) (Nat.le_refl _) hM
              letI := (sg M1 l a_l c_l b i b0 g0 b1)
              refine walk_ops (F := F7) (T := C7) (fuel := 1000) (d := 10) mixed (allF_cons (FactOk.tru rfl rfl) (allF_cons (FactOk.bi rfl rfl rfl rfl rfl rfl (intI (by omega) (by omega) (by omega))) allF_nil)) allC_nil ?_ hh
              exact ostop_backM (s1 := (sg M1 l a_l c_l b i b0 g0 b1)) (sg := (fun (⟨M, b, i⟩ : Mem × List Bs × Nat) => sg M l a_l c_l b i b0 g0 [])) (I := fun (⟨M, b, i⟩ : Mem × List Bs × Nat) => OMap W.heap.size M (.map (some g0)) b ∧ (∀ i o, heapOf W i = some o → M i = some o) ∧ b = namesTo l i ∧ i ≤ l.length ∧ ∀ j, j < i → ¬ badAt l j) (μ := fun (⟨M, b, i⟩ : Mem × List Bs × Nat) => l.length - i) (x := ⟨M, b, i⟩) ⟨M1, b1, i + 1⟩ e10 (meet_cons (by first | exact meetV (.int .i64 ((l.length : Nat) : Int)) rfl rfl | exact meetI rfl rfl (by omega)) (meet_cons (by exact meetV (.map (some g0)) rfl rfl) (meet_cons (by first | exact meetV (.int .i64 ((i + 1 : Nat) : Int)) rfl rfl | exact meetI rfl rfl (by omega)) (meet_cons (by first | exact meetV (.slice a_l l.length c_l) rfl rfl | exact meetI rfl rfl (by omega)) meet_nil)))) (fun _ _ h => h) (by exact ⟨hO1, hM1, by rw [hb1, hI.2.2.1, namesTo_succ (by omega)], by omega, fun j hj => by rcases Nat.lt_succ_iff_lt_or_eq.1 hj with h | rfl; exact hI.2.2.2.2 j h; exact badAt_no (by assumption) (by rw [← hI.2.2.1]; assumption)⟩) (by (try dsimp only); omega)
          · refine walk_to (F := F8) (T := C8) (fuel := 1000) (d := 10) mixed (allF_cons (FactOk.tru rfl rfl) (allF_cons (FactOk.bi rfl rfl rfl rfl rfl rfl (boolT (by omega))) (allF_cons (FactOk.arrIxa (hl.mono hM) (show i < l.length by omega) rfl rfl rfl underMl sizeM rfl rfl rfl) (allF_cons (FactOk.arrLd (hl.mono hM) (getSome (show i < l.length by omega)) rfl rfl aggM sizeM rfl rfl rfl) allF_nil)))) (allC_cons (callValF rfl rfl (by first | exact hK | exact hK.mono (by assumption)) q1) allC_nil) ?_ hh
            refine walk_leave (F := F5) (T := C5) (fuel := 1000) (d := 10) mixed (allF_cons (FactOk.tru rfl rfl) allF_nil) allC_nil ?_
            exact ostop_end e11 fun w2 hLow hIn => ⟨(by refine congrArg Ending.returned ?_; first | (rw [chkM_long (by omega)]; rfl) | (rw [chkM_nil (by omega) (by omega)]; rfl) | (rw [chkM_air (by omega) (by omega) (by assumption)]; rfl) | (rw [chkM_bad (i := i) (by omega) (by omega) (by assumption) (by omega) hI.2.2.2.2 (by assumption)]; rfl) | (rw [chkM_two (i := i) (by omega) (by omega) (by assumption) (by omega) hI.2.2.2.2 (by assumption) (by rw [← hI.2.2.1]; assumption)]; rfl) | (rw [chkM_ok (by omega) (by omega) (by assumption) (fun j hj => hI.2.2.2.2 j (by omega))]; rfl)), hLow⟩   -- returns .tuple ⟨[symv 12, .int .i64 1]⟩
        · refine walk_to (F := F9) (T := C9) (fuel := 1000) (d := 10) mixed (allF_cons (FactOk.tru rfl rfl) (allF_cons (FactOk.bi rfl rfl rfl rfl rfl rfl (boolF (by omega))) allF_nil)) allC_nil ?_ hh
          refine walk_leave (F := F5) (T := C5) (fuel := 1000) (d := 10) mixed (allF_cons (FactOk.tru rfl rfl) allF_nil) allC_nil ?_
          exact ostop_end e12 fun w2 hLow hIn => ⟨(by refine congrArg Ending.returned ?_; first | (rw [chkM_long (by omega)]; rfl) | (rw [chkM_nil (by omega) (by omega)]; rfl) | (rw [chkM_air (by omega) (by omega) (by assumption)]; rfl) | (rw [chkM_bad (i := i) (by omega) (by omega) (by assumption) (by omega) hI.2.2.2.2 (by assumption)]; rfl) | (rw [chkM_two (i := i) (by omega) (by omega) (by assumption) (by omega) hI.2.2.2.2 (by assumption) (by rw [← hI.2.2.1]; assumption)]; rfl) | (rw [chkM_ok (by omega) (by omega) (by assumption) (fun j hj => hI.2.2.2.2 j (by omega))]; rfl)), hLow⟩   -- returns .tuple ⟨[.int .i64 0, .int .i64 0]⟩
      · refine walk_to (F := F10) (T := C10) (fuel := 1000) (d := 10) mixed (allF_cons (FactOk.tru rfl rfl) (allF_cons (FactOk.arrLen hl rfl rfl underMl rfl rfl) (allF_cons (FactOk.bi rfl rfl rfl rfl rfl rfl (boolF (by omega))) (allF_cons (FactOk.bi rfl rfl rfl rfl rfl rfl (boolF (by omega))) (allF_cons (FactOk.arrIxa hl (show 0 < l.length by omega) rfl rfl rfl underMl sizeM rfl rfl rfl) (allF_cons (FactOk.arrLd hl (getSome (show 0 < l.length by omega)) rfl rfl aggM sizeM rfl rfl rfl) (allF_cons (neM rfl rfl rfl rfl (by rw [decide_eq_false h2]; rfl)) allF_nil))))))) allC_nil ?_ hh
        exact ostop_end e13 fun w2 hLow hIn => ⟨(by refine congrArg Ending.returned ?_; first | (rw [chkM_long (by omega)]; rfl) | (rw [chkM_nil (by omega) (by omega)]; rfl) | (rw [chkM_air (by omega) (by omega) (by assumption)]; rfl) | (rw [chkM_bad (i := i) (by omega) (by omega) (by assumption) (by omega) hI.2.2.2.2 (by assumption)]; rfl) | (rw [chkM_two (i := i) (by omega) (by omega) (by assumption) (by omega) hI.2.2.2.2 (by assumption) (by rw [← hI.2.2.1]; assumption)]; rfl) | (rw [chkM_ok (by omega) (by omega) (by assumption) (fun j hj => hI.2.2.2.2 j (by omega))]; rfl)), hLow⟩   -- returns .tuple ⟨[.int .i64 0, .int .i64 1]⟩
end ChkG
end AE
end Go.Proofs.YtblhndlmgibljaaDoor

/- Tables that Check accepts: plain laws. -/
namespace Go.Proofs.YtblhndlmgibljaaDoor
open Go Go.Proofs Go.RowKit
namespace AE
section
variable {l : List Mt} {i : Nat} {name : Bs}
theorem uq_valid (hz : (chkM l).2 = 0) (hi : i < l.length) : validM (l.getD i default) ∧ ¬ (l.getD i default).1 ∈ namesTo l i := by
  have h := (chkM_zero hz).2.2.2 i hi
  unfold badAt at h
  exact ⟨Classical.byContradiction fun h1 => h (.inl h1), fun h1 => h (.inr h1)⟩
theorem uq_idx (hz : (chkM l).2 = 0) (hi : i < l.length) : idxN l (l.getD i default).1 = i := by
  refine idxN_at (fun j hj he => (uq_valid hz hi).2 ?_) hi rfl
  unfold namesTo
  rw [← he, List.mem_map]
  refine ⟨l.getD j default, ?_, rfl⟩
  rw [List.mem_iff_getElem?]
  exact ⟨j, by rw [List.getElem?_take, if_pos hj]; exact getSome (by omega)⟩
theorem uq_at (hi : i < l.length) : atM l ((i : Nat) : Int) = l.getD i default := by
  rw [atM_in (by omega) (by omega), Int.toNat_natCast]
theorem uqIdx (hz : (chkM l).2 = 0) (hi : i < l.length) (h : ¬ (max 0 (idxN l (l.getD i default).1)) = ((i : Nat) : Int)) : False := by
  rw [uq_idx hz hi] at h
  omega
theorem uqIs (hz : (chkM l).2 = 0) (hi : i < l.length) (h : ¬ (decide (0 ≤ idxN l (l.getD i default).1)) = true) : False := by
  rw [uq_idx hz hi] at h
  exact h (decide_eq_true (by omega))
theorem uqSL (hz : (chkM l).2 = 0) (hi : i < l.length) (h1 : (atM l ((i : Nat) : Int)).2.1 = true) (h2 : (atM l ((i : Nat) : Int)).2.2.1 = true) : False := by
  rw [uq_at hi] at h1 h2
  exact (uq_valid hz hi).1.2.1 (by rw [kindM_no1 h1 h2])
theorem uqFS (hz : (chkM l).2 = 0) (hi : i < l.length) (h1 : ¬ (atM l ((i : Nat) : Int)).2.1 = true) (h2 : (atM l ((i : Nat) : Int)).2.2.2.1 = true) : False := by
  rw [uq_at hi] at h1 h2
  exact (uq_valid hz hi).1.2.1 (by rw [kindM_no2 h1 h2])
theorem uqF1 (hz : (chkM l).2 = 0) (hi : i < l.length) (h : (atM l ((i : Nat) : Int)).2.2.2.2.1 < 1) : False := by
  rw [uq_at hi] at h
  have := (uq_valid hz hi).1.2.2.1
  omega
theorem uqF2 (hz : (chkM l).2 = 0) (hi : i < l.length) (h : 16 < (atM l ((i : Nat) : Int)).2.2.2.2.1) : False := by
  rw [uq_at hi] at h
  have := (uq_valid hz hi).1.2.2.2.1
  omega
theorem uqLen (hz : (chkM l).2 = 0) (h : ¬ 0 < ((l.length : Nat) : Int)) : False := by
  have := (chkM_zero hz).2.1
  omega
theorem uq0 (hz : (chkM l).2 = 0) : atM l 0 = airM := by
  have h := chkM_zero hz
  have := uq_at h.2.1
  rw [show ((0 : Nat) : Int) = 0 from rfl] at this
  rw [this, h.2.2.1]
theorem uq0S (hz : (chkM l).2 = 0) (h : (atM l 0).2.1 = true) : False := by rw [uq0 hz] at h; cases h
theorem uq0L (hz : (chkM l).2 = 0) (h : (atM l 0).2.2.1 = true) : False := by rw [uq0 hz] at h; cases h
theorem idxN_name (h : 0 ≤ idxN l name) : (l.getD (idxN l name).toNat default).1 = name := by
  unfold idxN at h ⊢
  cases hf : l.findIdx? (fun x => decide (x.1 = name)) with
  | none => rw [hf] at h; simp only at h; omega
  | some i =>
    rw [List.findIdx?_eq_some_iff_getElem] at hf
    obtain ⟨hi, h1, _⟩ := hf
    simp only [Int.toNat_natCast]
    rw [List.getD_eq_getElem?_getD, List.getElem?_eq_getElem hi]
    simpa using h1
theorem uqName (h3 : (decide (0 ≤ idxN l name)) = true) (h5 : ¬ (l.getD (((max 0 (idxN l name))).toNat) default).1 = name) : False := by
  have h := of_decide_eq_true h3
  rw [Int.max_eq_right h] at h5
  exact h5 (idxN_name h)
theorem uqLt (h3 : (decide (0 ≤ idxN l name)) = true) (h5 : ¬ (max 0 (idxN l name)) < ((l.length : Nat) : Int)) : False := by
  have h := of_decide_eq_true h3
  have := idxN_bound l name
  rw [Int.max_eq_right h] at h5
  omega
end
end AE
end Go.Proofs.YtblhndlmgibljaaDoor

/- the walks of the questions -/
namespace Go.Proofs.YtblhndlmgibljaaDoor
open Go Go.Proofs Go.RowKit
set_option maxRecDepth 100000
namespace AE
namespace SolidG
noncomputable def body : Code := (Tryd.f22.body).getD .skip
def N : Nat := 9
noncomputable abbrev at' (N : Nat) (F : List (FOp × Value)) (C : List (FuncId × List Value × Value)) (c : Code) (s : ASt) : Option Stop := evalTo Tryd.prog F C N 1000 10 c s
noncomputable abbrev leave' (N : Nat) (F : List (FOp × Value)) (C : List (FuncId × List Value × Value)) (ks : List KI) (o : Option Stop) : Option Stop := evalLeave Tryd.prog F C N 1000 10 ks o
noncomputable abbrev unr' (N : Nat) (F : List (FOp × Value)) (C : List (FuncId × List Value × Value)) (m : Nat) (o : Option Stop) : Option Stop := evalUnroll Tryd.prog F C N 1000 10 m o
noncomputable abbrev res' (N : Nat) (F : List (FOp × Value)) (C : List (FuncId × List Value × Value)) (ks : List KI) (x : AX) (s : ASt) : Option Stop := evalRes Tryd.prog F C N 1000 10 ks x s
noncomputable abbrev ops' (N : Nat) (F : List (FOp × Value)) (C : List (FuncId × List Value × Value)) (r : List Oper) (ops : Array Oper) (ks : List KI) (s : ASt) : Option Stop := evalOps Tryd.prog F C N 1000 10 r ops ks s
def s0 : ASt := { sl := slots [(1, symv 1), (0, symv 0)], ms := [], A := start }
def F0 : List (FOp × Value) := []
def C0 : List (FuncId × List Value × Value) := [(41, [symv 0, symv 1], .agg ⟨[symv 2, symv 3, symv 4, symv 5, symv 6, symv 7, symv 8, symv 9]⟩)]
theorem e0 : endVal Tryd.prog Tryd.f22 (at' 9 F0 C0 body s0) = some (symv 3) := by kernel_rfl
@[reducible] noncomputable def vL (l : List Mt) (a_l : Option Addr) (c_l : Nat) (cell : Int) : List Value := [.slice a_l l.length c_l, .int .i64 cell, strV (atM l cell).1, .bool (atM l cell).2.1, .bool (atM l cell).2.2.1, .bool (atM l cell).2.2.2.1, .int .i64 (atM l cell).2.2.2.2.1, .int .i64 (atM l cell).2.2.2.2.2.1, .int .i64 (atM l cell).2.2.2.2.2.2.1, .int .i64 (atM l cell).2.2.2.2.2.2.2]
@[reducible] noncomputable def sg (M : Mem) (l : List Mt) (a_l : Option Addr) (c_l : Nat) (cell : Int) : Sig := sgL M (vL l a_l c_l cell)
set_option maxHeartbeats 4000000 in
theorem any (W : World) {v_l : Value} {l : List Mt} (hl : Arr (heapOf W) 8 encM v_l l) (cell : Int)  : Calls Tryd.prog 22 #[v_l, .int .i64 cell] W fun e w' => e = .returned (.bool (atM l cell).2.1) ∧ Low W.heap.size W w' := by
  obtain ⟨a_l, c_l, rfl⟩ := hl.slice
  refine @walk_enter (sg (heapOf W) l a_l c_l cell ) Tryd.prog 22 Tryd.f22 body [symv 0, symv 1] (slots [(1, symv 1), (0, symv 0)]) N W _ Tryd.func22 (by kernel_rfl) (by kernel_rfl) (by kernel_rfl) (by kernel_rfl) (immW_sgL W _) fun a hh => ?_
  letI := (sg (heapOf W) l a_l c_l cell )
  refine walk_to (F := F0) (T := C0) (fuel := 1000) (d := 10) mixed allF_nil (allC_cons (callMAt rfl rfl rfl rfl hl) allC_nil) ?_ hh
  exact ostop_end e0 fun w2 hLow hIn => ⟨(by rfl), hLow⟩   -- returns symv 3
end SolidG
namespace LiquidG
noncomputable def body : Code := (Tryd.f23.body).getD .skip
def N : Nat := 9
noncomputable abbrev at' (N : Nat) (F : List (FOp × Value)) (C : List (FuncId × List Value × Value)) (c : Code) (s : ASt) : Option Stop := evalTo Tryd.prog F C N 1000 10 c s
noncomputable abbrev leave' (N : Nat) (F : List (FOp × Value)) (C : List (FuncId × List Value × Value)) (ks : List KI) (o : Option Stop) : Option Stop := evalLeave Tryd.prog F C N 1000 10 ks o
noncomputable abbrev unr' (N : Nat) (F : List (FOp × Value)) (C : List (FuncId × List Value × Value)) (m : Nat) (o : Option Stop) : Option Stop := evalUnroll Tryd.prog F C N 1000 10 m o
noncomputable abbrev res' (N : Nat) (F : List (FOp × Value)) (C : List (FuncId × List Value × Value)) (ks : List KI) (x : AX) (s : ASt) : Option Stop := evalRes Tryd.prog F C N 1000 10 ks x s
noncomputable abbrev ops' (N : Nat) (F : List (FOp × Value)) (C : List (FuncId × List Value × Value)) (r : List Oper) (ops : Array Oper) (ks : List KI) (s : ASt) : Option Stop := evalOps Tryd.prog F C N 1000 10 r ops ks s
def s0 : ASt := { sl := slots [(1, symv 1), (0, symv 0)], ms := [], A := start }
def F0 : List (FOp × Value) := []
def C0 : List (FuncId × List Value × Value) := [(41, [symv 0, symv 1], .agg ⟨[symv 2, symv 3, symv 4, symv 5, symv 6, symv 7, symv 8, symv 9]⟩)]
theorem e0 : endVal Tryd.prog Tryd.f23 (at' 9 F0 C0 body s0) = some (symv 4) := by kernel_rfl
@[reducible] noncomputable def vL (l : List Mt) (a_l : Option Addr) (c_l : Nat) (cell : Int) : List Value := [.slice a_l l.length c_l, .int .i64 cell, strV (atM l cell).1, .bool (atM l cell).2.1, .bool (atM l cell).2.2.1, .bool (atM l cell).2.2.2.1, .int .i64 (atM l cell).2.2.2.2.1, .int .i64 (atM l cell).2.2.2.2.2.1, .int .i64 (atM l cell).2.2.2.2.2.2.1, .int .i64 (atM l cell).2.2.2.2.2.2.2]
@[reducible] noncomputable def sg (M : Mem) (l : List Mt) (a_l : Option Addr) (c_l : Nat) (cell : Int) : Sig := sgL M (vL l a_l c_l cell)
set_option maxHeartbeats 4000000 in
theorem any (W : World) {v_l : Value} {l : List Mt} (hl : Arr (heapOf W) 8 encM v_l l) (cell : Int)  : Calls Tryd.prog 23 #[v_l, .int .i64 cell] W fun e w' => e = .returned (.bool (atM l cell).2.2.1) ∧ Low W.heap.size W w' := by
  obtain ⟨a_l, c_l, rfl⟩ := hl.slice
  refine @walk_enter (sg (heapOf W) l a_l c_l cell ) Tryd.prog 23 Tryd.f23 body [symv 0, symv 1] (slots [(1, symv 1), (0, symv 0)]) N W _ Tryd.func23 (by kernel_rfl) (by kernel_rfl) (by kernel_rfl) (by kernel_rfl) (immW_sgL W _) fun a hh => ?_
  letI := (sg (heapOf W) l a_l c_l cell )
  refine walk_to (F := F0) (T := C0) (fuel := 1000) (d := 10) mixed allF_nil (allC_cons (callMAt rfl rfl rfl rfl hl) allC_nil) ?_ hh
  exact ostop_end e0 fun w2 hLow hIn => ⟨(by rfl), hLow⟩   -- returns symv 4
end LiquidG
namespace FallingG
noncomputable def body : Code := (Tryd.f24.body).getD .skip
def N : Nat := 9
noncomputable abbrev at' (N : Nat) (F : List (FOp × Value)) (C : List (FuncId × List Value × Value)) (c : Code) (s : ASt) : Option Stop := evalTo Tryd.prog F C N 1000 10 c s
noncomputable abbrev leave' (N : Nat) (F : List (FOp × Value)) (C : List (FuncId × List Value × Value)) (ks : List KI) (o : Option Stop) : Option Stop := evalLeave Tryd.prog F C N 1000 10 ks o
noncomputable abbrev unr' (N : Nat) (F : List (FOp × Value)) (C : List (FuncId × List Value × Value)) (m : Nat) (o : Option Stop) : Option Stop := evalUnroll Tryd.prog F C N 1000 10 m o
noncomputable abbrev res' (N : Nat) (F : List (FOp × Value)) (C : List (FuncId × List Value × Value)) (ks : List KI) (x : AX) (s : ASt) : Option Stop := evalRes Tryd.prog F C N 1000 10 ks x s
noncomputable abbrev ops' (N : Nat) (F : List (FOp × Value)) (C : List (FuncId × List Value × Value)) (r : List Oper) (ops : Array Oper) (ks : List KI) (s : ASt) : Option Stop := evalOps Tryd.prog F C N 1000 10 r ops ks s
def s0 : ASt := { sl := slots [(1, symv 1), (0, symv 0)], ms := [], A := start }
def F0 : List (FOp × Value) := []
def C0 : List (FuncId × List Value × Value) := [(41, [symv 0, symv 1], .agg ⟨[symv 2, symv 3, symv 4, symv 5, symv 6, symv 7, symv 8, symv 9]⟩)]
theorem e0 : endVal Tryd.prog Tryd.f24 (at' 9 F0 C0 body s0) = some (symv 5) := by kernel_rfl
@[reducible] noncomputable def vL (l : List Mt) (a_l : Option Addr) (c_l : Nat) (cell : Int) : List Value := [.slice a_l l.length c_l, .int .i64 cell, strV (atM l cell).1, .bool (atM l cell).2.1, .bool (atM l cell).2.2.1, .bool (atM l cell).2.2.2.1, .int .i64 (atM l cell).2.2.2.2.1, .int .i64 (atM l cell).2.2.2.2.2.1, .int .i64 (atM l cell).2.2.2.2.2.2.1, .int .i64 (atM l cell).2.2.2.2.2.2.2]
@[reducible] noncomputable def sg (M : Mem) (l : List Mt) (a_l : Option Addr) (c_l : Nat) (cell : Int) : Sig := sgL M (vL l a_l c_l cell)
set_option maxHeartbeats 4000000 in
theorem any (W : World) {v_l : Value} {l : List Mt} (hl : Arr (heapOf W) 8 encM v_l l) (cell : Int)  : Calls Tryd.prog 24 #[v_l, .int .i64 cell] W fun e w' => e = .returned (.bool (atM l cell).2.2.2.1) ∧ Low W.heap.size W w' := by
  obtain ⟨a_l, c_l, rfl⟩ := hl.slice
  refine @walk_enter (sg (heapOf W) l a_l c_l cell ) Tryd.prog 24 Tryd.f24 body [symv 0, symv 1] (slots [(1, symv 1), (0, symv 0)]) N W _ Tryd.func24 (by kernel_rfl) (by kernel_rfl) (by kernel_rfl) (by kernel_rfl) (immW_sgL W _) fun a hh => ?_
  letI := (sg (heapOf W) l a_l c_l cell )
  refine walk_to (F := F0) (T := C0) (fuel := 1000) (d := 10) mixed allF_nil (allC_cons (callMAt rfl rfl rfl rfl hl) allC_nil) ?_ hh
  exact ostop_end e0 fun w2 hLow hIn => ⟨(by rfl), hLow⟩   -- returns symv 5
end FallingG
end AE
end Go.Proofs.YtblhndlmgibljaaDoor

/- Check and the questions about cells, as facts. -/
namespace Go.Proofs.YtblhndlmgibljaaDoor
open Go Go.Proofs Go.RowKit
namespace AE
variable [Sig]
theorem callChk {x r : Value} {u : Value} {l : List Mt} (hp : plainSL [x] = true) (hr : plainS r = true) (ev : interpL [x] = [u]) (er : interp r = .tuple #[.int .i64 (chkM l).1, .int .i64 (chkM l).2]) (hl : Arr Sig.imm 8 encM u l) (hK : KindsM Sig.imm) : CallFactOk Tryd.prog (11, [x], r) :=
  callAny (a := #[u]) hp hr ev er fun w hw => ChkG.any w (hl.mono hw) (hK.mono hw)
theorem callSolidT {x y : Value} {u : Value} {l : List Mt} {cell : Int} (hp : plainSL [x, y] = true) (ev : interpL [x, y] = [u, .int .i64 cell]) (hl : Arr Sig.imm 8 encM u l) (h : (atM l cell).2.1 = true) : CallFactOk Tryd.prog (22, [x, y], .bool true) :=
  callAny (a := #[u, .int .i64 cell]) hp rfl ev rfl fun w hw => (SolidG.any w (hl.mono hw) cell).mono fun e w' h' => by rw [h] at h'; exact h'
theorem callSolidF {x y : Value} {u : Value} {l : List Mt} {cell : Int} (hp : plainSL [x, y] = true) (ev : interpL [x, y] = [u, .int .i64 cell]) (hl : Arr Sig.imm 8 encM u l) (h : ¬ (atM l cell).2.1 = true) : CallFactOk Tryd.prog (22, [x, y], .bool false) :=
  callAny (a := #[u, .int .i64 cell]) hp rfl ev rfl fun w hw => (SolidG.any w (hl.mono hw) cell).mono fun e w' h' => by rw [Bool.eq_false_iff.2 h] at h'; exact h'
theorem callLiquidT {x y : Value} {u : Value} {l : List Mt} {cell : Int} (hp : plainSL [x, y] = true) (ev : interpL [x, y] = [u, .int .i64 cell]) (hl : Arr Sig.imm 8 encM u l) (h : (atM l cell).2.2.1 = true) : CallFactOk Tryd.prog (23, [x, y], .bool true) :=
  callAny (a := #[u, .int .i64 cell]) hp rfl ev rfl fun w hw => (LiquidG.any w (hl.mono hw) cell).mono fun e w' h' => by rw [h] at h'; exact h'
theorem callLiquidF {x y : Value} {u : Value} {l : List Mt} {cell : Int} (hp : plainSL [x, y] = true) (ev : interpL [x, y] = [u, .int .i64 cell]) (hl : Arr Sig.imm 8 encM u l) (h : ¬ (atM l cell).2.2.1 = true) : CallFactOk Tryd.prog (23, [x, y], .bool false) :=
  callAny (a := #[u, .int .i64 cell]) hp rfl ev rfl fun w hw => (LiquidG.any w (hl.mono hw) cell).mono fun e w' h' => by rw [Bool.eq_false_iff.2 h] at h'; exact h'
theorem callFallingT {x y : Value} {u : Value} {l : List Mt} {cell : Int} (hp : plainSL [x, y] = true) (ev : interpL [x, y] = [u, .int .i64 cell]) (hl : Arr Sig.imm 8 encM u l) (h : (atM l cell).2.2.2.1 = true) : CallFactOk Tryd.prog (24, [x, y], .bool true) :=
  callAny (a := #[u, .int .i64 cell]) hp rfl ev rfl fun w hw => (FallingG.any w (hl.mono hw) cell).mono fun e w' h' => by rw [h] at h'; exact h'
theorem callFallingF {x y : Value} {u : Value} {l : List Mt} {cell : Int} (hp : plainSL [x, y] = true) (ev : interpL [x, y] = [u, .int .i64 cell]) (hl : Arr Sig.imm 8 encM u l) (h : ¬ (atM l cell).2.2.2.1 = true) : CallFactOk Tryd.prog (24, [x, y], .bool false) :=
  callAny (a := #[u, .int .i64 cell]) hp rfl ev rfl fun w hw => (FallingG.any w (hl.mono hw) cell).mono fun e w' h' => by rw [Bool.eq_false_iff.2 h] at h'; exact h'
end AE
end Go.Proofs.YtblhndlmgibljaaDoor

/- the walk of MaterialNamesAreUnique -/
namespace Go.Proofs.YtblhndlmgibljaaDoor
open Go Go.Proofs Go.RowKit
set_option maxRecDepth 100000
namespace AE
namespace UniqG
noncomputable def body : Code := (Tryd.f8.body).getD .skip
def N : Nat := 128
noncomputable abbrev at' (N : Nat) (F : List (FOp × Value)) (C : List (FuncId × List Value × Value)) (c : Code) (s : ASt) : Option Stop := evalTo Tryd.prog F C N 1000 10 c s
noncomputable abbrev leave' (N : Nat) (F : List (FOp × Value)) (C : List (FuncId × List Value × Value)) (ks : List KI) (o : Option Stop) : Option Stop := evalLeave Tryd.prog F C N 1000 10 ks o
noncomputable abbrev unr' (N : Nat) (F : List (FOp × Value)) (C : List (FuncId × List Value × Value)) (m : Nat) (o : Option Stop) : Option Stop := evalUnroll Tryd.prog F C N 1000 10 m o
noncomputable abbrev res' (N : Nat) (F : List (FOp × Value)) (C : List (FuncId × List Value × Value)) (ks : List KI) (x : AX) (s : ASt) : Option Stop := evalRes Tryd.prog F C N 1000 10 ks x s
noncomputable abbrev ops' (N : Nat) (F : List (FOp × Value)) (C : List (FuncId × List Value × Value)) (r : List Oper) (ops : Array Oper) (ks : List KI) (s : ASt) : Option Stop := evalOps Tryd.prog F C N 1000 10 r ops ks s
def s0 : ASt := { sl := slots [(1, symv 1), (0, symv 0)], ms := [], A := start }
def F0 : List (FOp × Value) := [(.len #[9] 3 (symv 1), symv 2),
    (.bin .gtr 3 (symv 2) (.int .i64 100), .bool true)]
def C0 : List (FuncId × List Value × Value) := [(9, [], .bool true),
    (10, [symv 0], .bool true)]
theorem e0 : endVal Tryd.prog Tryd.f8 (at' 128 F0 C0 body s0) = some (.bool true) := by kernel_rfl
def F1 : List (FOp × Value) := [(.len #[9] 3 (symv 1), symv 2),
    (.bin .gtr 3 (symv 2) (.int .i64 100), .bool false),
    (.bin .neq 25 (symv 4) (.int .i64 0), .bool false)]
def C1 : List (FuncId × List Value × Value) := [(9, [], .bool true),
    (10, [symv 0], .bool true),
    (11, [symv 0], .tuple ⟨[symv 3, symv 4]⟩)]
noncomputable def bks0 : List Bk := []
def head0 : Sl := slots [(8, symv 5), (5, .bool true), (1, symv 1), (0, symv 0)]
noncomputable abbrev at0 := at' 128 F1 C1 body s0
theorem e1 : headObs head0 bks0 at0 = some [(symv 0, symv 0), (symv 1, symv 1), (.int .i64 0, symv 5)] := by kernel_rfl
def F2 : List (FOp × Value) := [(.len #[22] 3 (symv 0), symv 6),
    (.bin .lss 3 (symv 5) (symv 6), .bool true),
    (.ixa 22 (symv 0) (symv 5), symv 7),
    (.fa 35 (symv 7) 0, symv 8),
    (.ld 9 (symv 8), symv 9),
    (.bin .neq 3 (symv 10) (symv 5), .bool false),
    (.un .not (symv 11), .bool false)]
def C2 : List (FuncId × List Value × Value) := [(17, [symv 0, symv 9], .tuple ⟨[symv 10, symv 11]⟩),
    (22, [symv 0, symv 5], .bool true),
    (23, [symv 0, symv 5], .bool true)]
def F3 : List (FOp × Value) := []
def C3 : List (FuncId × List Value × Value) := []
theorem e2 : endVal Tryd.prog Tryd.f8 (leave' 128 F3 C3 (stopKs at0) (at' 128 F2 C2 (stopCode at0) (headSt head0 bks0))) = some (.bool false) := by kernel_rfl
def F4 : List (FOp × Value) := [(.len #[22] 3 (symv 0), symv 6),
    (.bin .lss 3 (symv 5) (symv 6), .bool true),
    (.ixa 22 (symv 0) (symv 5), symv 7),
    (.fa 35 (symv 7) 0, symv 8),
    (.ld 9 (symv 8), symv 9),
    (.bin .neq 3 (symv 10) (symv 5), .bool false),
    (.un .not (symv 11), .bool false),
    (.bin .lss 3 (symv 16) (.int .i64 1), .bool true)]
def C4 : List (FuncId × List Value × Value) := [(17, [symv 0, symv 9], .tuple ⟨[symv 10, symv 11]⟩),
    (22, [symv 0, symv 5], .bool true),
    (23, [symv 0, symv 5], .bool false),
    (24, [symv 0, symv 5], .bool true),
    (41, [symv 0, symv 5], .agg ⟨[symv 12, symv 13, symv 14, symv 15, symv 16, symv 17, symv 18, symv 19]⟩)]
theorem e3 : endVal Tryd.prog Tryd.f8 (leave' 128 F3 C3 (stopKs at0) (at' 128 F4 C4 (stopCode at0) (headSt head0 bks0))) = some (.bool false) := by kernel_rfl
def F5 : List (FOp × Value) := [(.len #[22] 3 (symv 0), symv 6),
    (.bin .lss 3 (symv 5) (symv 6), .bool true),
    (.ixa 22 (symv 0) (symv 5), symv 7),
    (.fa 35 (symv 7) 0, symv 8),
    (.ld 9 (symv 8), symv 9),
    (.bin .neq 3 (symv 10) (symv 5), .bool false),
    (.un .not (symv 11), .bool false),
    (.bin .lss 3 (symv 16) (.int .i64 1), .bool false),
    (.bin .gtr 3 (symv 16) (.int .i64 16), .bool true)]
def C5 : List (FuncId × List Value × Value) := [(17, [symv 0, symv 9], .tuple ⟨[symv 10, symv 11]⟩),
    (22, [symv 0, symv 5], .bool true),
    (23, [symv 0, symv 5], .bool false),
    (24, [symv 0, symv 5], .bool true),
    (41, [symv 0, symv 5], .agg ⟨[symv 12, symv 13, symv 14, symv 15, symv 16, symv 17, symv 18, symv 19]⟩)]
theorem e4 : endVal Tryd.prog Tryd.f8 (leave' 128 F3 C3 (stopKs at0) (at' 128 F5 C5 (stopCode at0) (headSt head0 bks0))) = some (.bool false) := by kernel_rfl
def F6 : List (FOp × Value) := [(.len #[22] 3 (symv 0), symv 6),
    (.bin .lss 3 (symv 5) (symv 6), .bool true),
    (.ixa 22 (symv 0) (symv 5), symv 7),
    (.fa 35 (symv 7) 0, symv 8),
    (.ld 9 (symv 8), symv 9),
    (.bin .neq 3 (symv 10) (symv 5), .bool false),
    (.un .not (symv 11), .bool false),
    (.bin .lss 3 (symv 16) (.int .i64 1), .bool false),
    (.bin .gtr 3 (symv 16) (.int .i64 16), .bool false),
    (.bin .add 3 (symv 5) (.int .i64 1), symv 20)]
def C6 : List (FuncId × List Value × Value) := [(17, [symv 0, symv 9], .tuple ⟨[symv 10, symv 11]⟩),
    (22, [symv 0, symv 5], .bool true),
    (23, [symv 0, symv 5], .bool false),
    (24, [symv 0, symv 5], .bool true),
    (41, [symv 0, symv 5], .agg ⟨[symv 12, symv 13, symv 14, symv 15, symv 16, symv 17, symv 18, symv 19]⟩)]
theorem e5 : backObs head0 bks0 (at' 128 F6 C6 (stopCode at0) (headSt head0 bks0)) = some [(symv 0, symv 0), (symv 1, symv 1), (symv 20, symv 5)] := by kernel_rfl
def F7 : List (FOp × Value) := [(.len #[22] 3 (symv 0), symv 6),
    (.bin .lss 3 (symv 5) (symv 6), .bool true),
    (.ixa 22 (symv 0) (symv 5), symv 7),
    (.fa 35 (symv 7) 0, symv 8),
    (.ld 9 (symv 8), symv 9),
    (.bin .neq 3 (symv 10) (symv 5), .bool false),
    (.un .not (symv 11), .bool false),
    (.bin .lss 3 (symv 16) (.int .i64 1), .bool true)]
def C7 : List (FuncId × List Value × Value) := [(17, [symv 0, symv 9], .tuple ⟨[symv 10, symv 11]⟩),
    (22, [symv 0, symv 5], .bool true),
    (23, [symv 0, symv 5], .bool false),
    (24, [symv 0, symv 5], .bool false),
    (41, [symv 0, symv 5], .agg ⟨[symv 12, symv 13, symv 14, symv 15, symv 16, symv 17, symv 18, symv 19]⟩)]
theorem e6 : endVal Tryd.prog Tryd.f8 (leave' 128 F3 C3 (stopKs at0) (at' 128 F7 C7 (stopCode at0) (headSt head0 bks0))) = some (.bool false) := by kernel_rfl
def F8 : List (FOp × Value) := [(.len #[22] 3 (symv 0), symv 6),
    (.bin .lss 3 (symv 5) (symv 6), .bool true),
    (.ixa 22 (symv 0) (symv 5), symv 7),
    (.fa 35 (symv 7) 0, symv 8),
    (.ld 9 (symv 8), symv 9),
    (.bin .neq 3 (symv 10) (symv 5), .bool false),
    (.un .not (symv 11), .bool false),
    (.bin .lss 3 (symv 16) (.int .i64 1), .bool false),
    (.bin .gtr 3 (symv 16) (.int .i64 16), .bool true)]
def C8 : List (FuncId × List Value × Value) := [(17, [symv 0, symv 9], .tuple ⟨[symv 10, symv 11]⟩),
    (22, [symv 0, symv 5], .bool true),
    (23, [symv 0, symv 5], .bool false),
    (24, [symv 0, symv 5], .bool false),
    (41, [symv 0, symv 5], .agg ⟨[symv 12, symv 13, symv 14, symv 15, symv 16, symv 17, symv 18, symv 19]⟩)]
theorem e7 : endVal Tryd.prog Tryd.f8 (leave' 128 F3 C3 (stopKs at0) (at' 128 F8 C8 (stopCode at0) (headSt head0 bks0))) = some (.bool false) := by kernel_rfl
def F9 : List (FOp × Value) := [(.len #[22] 3 (symv 0), symv 6),
    (.bin .lss 3 (symv 5) (symv 6), .bool true),
    (.ixa 22 (symv 0) (symv 5), symv 7),
    (.fa 35 (symv 7) 0, symv 8),
    (.ld 9 (symv 8), symv 9),
    (.bin .neq 3 (symv 10) (symv 5), .bool false),
    (.un .not (symv 11), .bool false),
    (.bin .lss 3 (symv 16) (.int .i64 1), .bool false),
    (.bin .gtr 3 (symv 16) (.int .i64 16), .bool false),
    (.bin .add 3 (symv 5) (.int .i64 1), symv 20)]
def C9 : List (FuncId × List Value × Value) := [(17, [symv 0, symv 9], .tuple ⟨[symv 10, symv 11]⟩),
    (22, [symv 0, symv 5], .bool true),
    (23, [symv 0, symv 5], .bool false),
    (24, [symv 0, symv 5], .bool false),
    (41, [symv 0, symv 5], .agg ⟨[symv 12, symv 13, symv 14, symv 15, symv 16, symv 17, symv 18, symv 19]⟩)]
theorem e8 : backObs head0 bks0 (at' 128 F9 C9 (stopCode at0) (headSt head0 bks0)) = some [(symv 0, symv 0), (symv 1, symv 1), (symv 20, symv 5)] := by kernel_rfl
def F10 : List (FOp × Value) := [(.len #[22] 3 (symv 0), symv 6),
    (.bin .lss 3 (symv 5) (symv 6), .bool true),
    (.ixa 22 (symv 0) (symv 5), symv 7),
    (.fa 35 (symv 7) 0, symv 8),
    (.ld 9 (symv 8), symv 9),
    (.bin .neq 3 (symv 10) (symv 5), .bool false),
    (.un .not (symv 11), .bool false)]
def C10 : List (FuncId × List Value × Value) := [(17, [symv 0, symv 9], .tuple ⟨[symv 10, symv 11]⟩),
    (22, [symv 0, symv 5], .bool false),
    (24, [symv 0, symv 5], .bool true)]
theorem e9 : endVal Tryd.prog Tryd.f8 (leave' 128 F3 C3 (stopKs at0) (at' 128 F10 C10 (stopCode at0) (headSt head0 bks0))) = some (.bool false) := by kernel_rfl
def F11 : List (FOp × Value) := [(.len #[22] 3 (symv 0), symv 6),
    (.bin .lss 3 (symv 5) (symv 6), .bool true),
    (.ixa 22 (symv 0) (symv 5), symv 7),
    (.fa 35 (symv 7) 0, symv 8),
    (.ld 9 (symv 8), symv 9),
    (.bin .neq 3 (symv 10) (symv 5), .bool false),
    (.un .not (symv 11), .bool false),
    (.bin .lss 3 (symv 16) (.int .i64 1), .bool true)]
def C11 : List (FuncId × List Value × Value) := [(17, [symv 0, symv 9], .tuple ⟨[symv 10, symv 11]⟩),
    (22, [symv 0, symv 5], .bool false),
    (24, [symv 0, symv 5], .bool false),
    (41, [symv 0, symv 5], .agg ⟨[symv 12, symv 13, symv 14, symv 15, symv 16, symv 17, symv 18, symv 19]⟩)]
theorem e10 : endVal Tryd.prog Tryd.f8 (leave' 128 F3 C3 (stopKs at0) (at' 128 F11 C11 (stopCode at0) (headSt head0 bks0))) = some (.bool false) := by kernel_rfl
def F12 : List (FOp × Value) := [(.len #[22] 3 (symv 0), symv 6),
    (.bin .lss 3 (symv 5) (symv 6), .bool true),
    (.ixa 22 (symv 0) (symv 5), symv 7),
    (.fa 35 (symv 7) 0, symv 8),
    (.ld 9 (symv 8), symv 9),
    (.bin .neq 3 (symv 10) (symv 5), .bool false),
    (.un .not (symv 11), .bool false),
    (.bin .lss 3 (symv 16) (.int .i64 1), .bool false),
    (.bin .gtr 3 (symv 16) (.int .i64 16), .bool true)]
def C12 : List (FuncId × List Value × Value) := [(17, [symv 0, symv 9], .tuple ⟨[symv 10, symv 11]⟩),
    (22, [symv 0, symv 5], .bool false),
    (24, [symv 0, symv 5], .bool false),
    (41, [symv 0, symv 5], .agg ⟨[symv 12, symv 13, symv 14, symv 15, symv 16, symv 17, symv 18, symv 19]⟩)]
theorem e11 : endVal Tryd.prog Tryd.f8 (leave' 128 F3 C3 (stopKs at0) (at' 128 F12 C12 (stopCode at0) (headSt head0 bks0))) = some (.bool false) := by kernel_rfl
def F13 : List (FOp × Value) := [(.len #[22] 3 (symv 0), symv 6),
    (.bin .lss 3 (symv 5) (symv 6), .bool true),
    (.ixa 22 (symv 0) (symv 5), symv 7),
    (.fa 35 (symv 7) 0, symv 8),
    (.ld 9 (symv 8), symv 9),
    (.bin .neq 3 (symv 10) (symv 5), .bool false),
    (.un .not (symv 11), .bool false),
    (.bin .lss 3 (symv 16) (.int .i64 1), .bool false),
    (.bin .gtr 3 (symv 16) (.int .i64 16), .bool false),
    (.bin .add 3 (symv 5) (.int .i64 1), symv 20)]
def C13 : List (FuncId × List Value × Value) := [(17, [symv 0, symv 9], .tuple ⟨[symv 10, symv 11]⟩),
    (22, [symv 0, symv 5], .bool false),
    (24, [symv 0, symv 5], .bool false),
    (41, [symv 0, symv 5], .agg ⟨[symv 12, symv 13, symv 14, symv 15, symv 16, symv 17, symv 18, symv 19]⟩)]
theorem e12 : backObs head0 bks0 (at' 128 F13 C13 (stopCode at0) (headSt head0 bks0)) = some [(symv 0, symv 0), (symv 1, symv 1), (symv 20, symv 5)] := by kernel_rfl
def F14 : List (FOp × Value) := [(.len #[22] 3 (symv 0), symv 6),
    (.bin .lss 3 (symv 5) (symv 6), .bool true),
    (.ixa 22 (symv 0) (symv 5), symv 7),
    (.fa 35 (symv 7) 0, symv 8),
    (.ld 9 (symv 8), symv 9),
    (.bin .neq 3 (symv 10) (symv 5), .bool false),
    (.un .not (symv 11), .bool true)]
def C14 : List (FuncId × List Value × Value) := [(17, [symv 0, symv 9], .tuple ⟨[symv 10, symv 11]⟩)]
theorem e13 : endVal Tryd.prog Tryd.f8 (leave' 128 F3 C3 (stopKs at0) (at' 128 F14 C14 (stopCode at0) (headSt head0 bks0))) = some (.bool false) := by kernel_rfl
def F15 : List (FOp × Value) := [(.len #[22] 3 (symv 0), symv 6),
    (.bin .lss 3 (symv 5) (symv 6), .bool true),
    (.ixa 22 (symv 0) (symv 5), symv 7),
    (.fa 35 (symv 7) 0, symv 8),
    (.ld 9 (symv 8), symv 9),
    (.bin .neq 3 (symv 10) (symv 5), .bool true)]
def C15 : List (FuncId × List Value × Value) := [(17, [symv 0, symv 9], .tuple ⟨[symv 10, symv 11]⟩)]
theorem e14 : endVal Tryd.prog Tryd.f8 (leave' 128 F3 C3 (stopKs at0) (at' 128 F15 C15 (stopCode at0) (headSt head0 bks0))) = some (.bool false) := by kernel_rfl
def F16 : List (FOp × Value) := [(.len #[22] 3 (symv 0), symv 6),
    (.bin .lss 3 (symv 5) (symv 6), .bool false)]
def C16 : List (FuncId × List Value × Value) := []
def F17 : List (FOp × Value) := [(.len #[22] 3 (symv 0), symv 6),
    (.bin .gtr 3 (symv 6) (.int .i64 0), .bool true)]
def C17 : List (FuncId × List Value × Value) := [(17, [symv 0, symv 1], .tuple ⟨[symv 21, symv 22]⟩),
    (22, [symv 0, .int .i64 0], .bool true)]
theorem e15 : endVal Tryd.prog Tryd.f8 (leave' 128 F17 C17 (stopKs at0) (at' 128 F16 C16 (stopCode at0) (headSt head0 bks0))) = some (.bool false) := by kernel_rfl
def F18 : List (FOp × Value) := [(.len #[22] 3 (symv 0), symv 6),
    (.bin .gtr 3 (symv 6) (.int .i64 0), .bool true)]
def C18 : List (FuncId × List Value × Value) := [(17, [symv 0, symv 1], .tuple ⟨[symv 21, symv 22]⟩),
    (22, [symv 0, .int .i64 0], .bool false),
    (23, [symv 0, .int .i64 0], .bool true)]
theorem e16 : endVal Tryd.prog Tryd.f8 (leave' 128 F18 C18 (stopKs at0) (at' 128 F16 C16 (stopCode at0) (headSt head0 bks0))) = some (.bool false) := by kernel_rfl
def F19 : List (FOp × Value) := [(.len #[22] 3 (symv 0), symv 6),
    (.bin .gtr 3 (symv 6) (.int .i64 0), .bool true),
    (.un .not (symv 22), .bool false),
    (.bin .lss 3 (symv 21) (symv 6), .bool true),
    (.ixa 22 (symv 0) (symv 21), symv 23),
    (.fa 35 (symv 23) 0, symv 24),
    (.ld 9 (symv 24), symv 25),
    (.bin .eql 9 (symv 25) (symv 1), .bool true)]
def C19 : List (FuncId × List Value × Value) := [(17, [symv 0, symv 1], .tuple ⟨[symv 21, symv 22]⟩),
    (22, [symv 0, .int .i64 0], .bool false),
    (23, [symv 0, .int .i64 0], .bool false)]
theorem e17 : endVal Tryd.prog Tryd.f8 (leave' 128 F19 C19 (stopKs at0) (at' 128 F16 C16 (stopCode at0) (headSt head0 bks0))) = some (.bool true) := by kernel_rfl
def F20 : List (FOp × Value) := [(.len #[22] 3 (symv 0), symv 6),
    (.bin .gtr 3 (symv 6) (.int .i64 0), .bool true),
    (.un .not (symv 22), .bool false),
    (.bin .lss 3 (symv 21) (symv 6), .bool true),
    (.ixa 22 (symv 0) (symv 21), symv 23),
    (.fa 35 (symv 23) 0, symv 24),
    (.ld 9 (symv 24), symv 25),
    (.bin .eql 9 (symv 25) (symv 1), .bool false)]
def C20 : List (FuncId × List Value × Value) := [(17, [symv 0, symv 1], .tuple ⟨[symv 21, symv 22]⟩),
    (22, [symv 0, .int .i64 0], .bool false),
    (23, [symv 0, .int .i64 0], .bool false)]
theorem e18 : endVal Tryd.prog Tryd.f8 (leave' 128 F20 C20 (stopKs at0) (at' 128 F16 C16 (stopCode at0) (headSt head0 bks0))) = some (.bool false) := by kernel_rfl
def F21 : List (FOp × Value) := [(.len #[22] 3 (symv 0), symv 6),
    (.bin .gtr 3 (symv 6) (.int .i64 0), .bool true),
    (.un .not (symv 22), .bool false),
    (.bin .lss 3 (symv 21) (symv 6), .bool false)]
def C21 : List (FuncId × List Value × Value) := [(17, [symv 0, symv 1], .tuple ⟨[symv 21, symv 22]⟩),
    (22, [symv 0, .int .i64 0], .bool false),
    (23, [symv 0, .int .i64 0], .bool false)]
theorem e19 : endVal Tryd.prog Tryd.f8 (leave' 128 F21 C21 (stopKs at0) (at' 128 F16 C16 (stopCode at0) (headSt head0 bks0))) = some (.bool false) := by kernel_rfl
def F22 : List (FOp × Value) := [(.len #[22] 3 (symv 0), symv 6),
    (.bin .gtr 3 (symv 6) (.int .i64 0), .bool true),
    (.un .not (symv 22), .bool true)]
def C22 : List (FuncId × List Value × Value) := [(17, [symv 0, symv 1], .tuple ⟨[symv 21, symv 22]⟩),
    (22, [symv 0, .int .i64 0], .bool false),
    (23, [symv 0, .int .i64 0], .bool false)]
theorem e20 : endVal Tryd.prog Tryd.f8 (leave' 128 F22 C22 (stopKs at0) (at' 128 F16 C16 (stopCode at0) (headSt head0 bks0))) = some (.bool true) := by kernel_rfl
def F23 : List (FOp × Value) := [(.len #[22] 3 (symv 0), symv 6),
    (.bin .gtr 3 (symv 6) (.int .i64 0), .bool false)]
def C23 : List (FuncId × List Value × Value) := [(17, [symv 0, symv 1], .tuple ⟨[symv 21, symv 22]⟩)]
theorem e21 : endVal Tryd.prog Tryd.f8 (leave' 128 F23 C23 (stopKs at0) (at' 128 F16 C16 (stopCode at0) (headSt head0 bks0))) = some (.bool false) := by kernel_rfl
def F24 : List (FOp × Value) := [(.len #[9] 3 (symv 1), symv 2),
    (.bin .gtr 3 (symv 2) (.int .i64 100), .bool false),
    (.bin .neq 25 (symv 4) (.int .i64 0), .bool true)]
def C24 : List (FuncId × List Value × Value) := [(9, [], .bool true),
    (10, [symv 0], .bool true),
    (11, [symv 0], .tuple ⟨[symv 3, symv 4]⟩)]
theorem e22 : endVal Tryd.prog Tryd.f8 (at' 128 F24 C24 body s0) = some (.bool true) := by kernel_rfl
def F25 : List (FOp × Value) := []
def C25 : List (FuncId × List Value × Value) := [(9, [], .bool true),
    (10, [symv 0], .bool false)]
theorem e23 : endVal Tryd.prog Tryd.f8 (at' 128 F25 C25 body s0) = some (.bool true) := by kernel_rfl
@[reducible] noncomputable def vL (l : List Mt) (a_l : Option Addr) (c_l : Nat) (name : Bs) (i : Nat) : List Value := [.slice a_l l.length c_l, strV name, .int .i64 ((name.length : Nat) : Int), .int .i64 (chkM l).1, .int .i64 (chkM l).2, .int .i64 ((i : Nat) : Int), .int .i64 ((l.length : Nat) : Int), cellPtr (.slice a_l l.length c_l) (i * 8), cellPtr (.slice a_l l.length c_l) (i * 8 + 0), strV (l.getD (i) default).1, .int .i64 (max 0 (idxN l (l.getD (i) default).1)), .bool (decide (0 ≤ idxN l (l.getD (i) default).1)), strV (atM l ((i : Nat) : Int)).1, .bool (atM l ((i : Nat) : Int)).2.1, .bool (atM l ((i : Nat) : Int)).2.2.1, .bool (atM l ((i : Nat) : Int)).2.2.2.1, .int .i64 (atM l ((i : Nat) : Int)).2.2.2.2.1, .int .i64 (atM l ((i : Nat) : Int)).2.2.2.2.2.1, .int .i64 (atM l ((i : Nat) : Int)).2.2.2.2.2.2.1, .int .i64 (atM l ((i : Nat) : Int)).2.2.2.2.2.2.2, .int .i64 ((i + 1 : Nat) : Int), .int .i64 (max 0 (idxN l name)), .bool (decide (0 ≤ idxN l name)), cellPtr (.slice a_l l.length c_l) (((max 0 (idxN l name))).toNat * 8), cellPtr (.slice a_l l.length c_l) (((max 0 (idxN l name))).toNat * 8 + 0), strV (l.getD (((max 0 (idxN l name))).toNat) default).1]
@[reducible] noncomputable def sg (M : Mem) (l : List Mt) (a_l : Option Addr) (c_l : Nat) (name : Bs) (i : Nat) : Sig := sgL M (vL l a_l c_l name i)
set_option maxHeartbeats 4000000 in
theorem any (W : World) {v_l : Value} {l : List Mt} (hl : Arr (heapOf W) 8 encM v_l l) (name : Bs) (hK : KindsM (heapOf W)) : Calls Tryd.prog 8 #[v_l, strV name] W fun e w' => e = .returned (.bool true) ∧ Low W.heap.size W w' := by
  obtain ⟨a_l, c_l, rfl⟩ := hl.slice
  refine @walk_enter (sg (heapOf W) l a_l c_l name 0) Tryd.prog 8 Tryd.f8 body [symv 0, symv 1] (slots [(1, symv 1), (0, symv 0)]) N W _ Tryd.func8 (by kernel_rfl) (by kernel_rfl) (by kernel_rfl) (by kernel_rfl) (immW_sgL W _) fun a hh => ?_
  letI := (sg (heapOf W) l a_l c_l name 0)
  have hb := idxN_bound l name
  by_cases h0 : fewM l
  · by_cases h1 : 100 < ((name.length : Nat) : Int)
    · refine walk_to (F := F0) (T := C0) (fuel := 1000) (d := 10) mixed (allF_cons (FactOk.strLen rfl rfl underStr rfl rfl) (allF_cons (FactOk.bi rfl rfl rfl rfl rfl rfl (boolT (by omega))) allF_nil)) (allC_cons (callSanity hK) (allC_cons (callFewT rfl rfl hl h0) allC_nil)) ?_ hh
      exact ostop_end e0 fun w2 hLow hIn => ⟨(by first | rfl | (exfalso; have hz : (chkM l).2 = 0 := h2; first | exact uqIdx (i := i) hz (by omega) (by assumption) | exact uqIs (i := i) hz (by omega) (by assumption) | exact uqSL (i := i) hz (by omega) (by assumption) (by assumption) | exact uqFS (i := i) hz (by omega) (by assumption) (by assumption) | exact uqF1 (i := i) hz (by omega) (by assumption) | exact uqF2 (i := i) hz (by omega) (by assumption) | exact uqLen hz (by assumption) | exact uq0S hz (by assumption) | exact uq0L hz (by assumption) | exact uqName (by assumption) (by assumption) | exact uqLt (by assumption) (by assumption))), hLow⟩   -- returns .bool true
    · by_cases h2 : (chkM l).2 = 0
      · refine walk_to (F := F1) (T := C1) (fuel := 1000) (d := 10) mixed (allF_cons (FactOk.strLen rfl rfl underStr rfl rfl) (allF_cons (FactOk.bi rfl rfl rfl rfl rfl rfl (boolF (by omega))) (allF_cons (FactOk.bi rfl rfl rfl rfl rfl rfl (nboolF (by omega))) allF_nil))) (allC_cons (callSanity hK) (allC_cons (callFewT rfl rfl hl h0) (allC_cons (callChk rfl rfl rfl rfl hl hK) allC_nil))) ?_ hh
        -- LOOP 0: slot 4 = .bool false is written in the loop: left out
        refine ostop_loop (sg := (fun i => sg (heapOf W) l a_l c_l name i)) (fun i => i ≤ l.length) (fun i => l.length - i) 0 e1 (meet_cons (by first | exact meetV (.slice a_l l.length c_l) rfl rfl | exact meetI rfl rfl (by omega)) (meet_cons (by exact meetV (strV name) rfl rfl) (meet_cons (by first | rfl | exact meetInt (by omega)) meet_nil))) (fun _ _ h => h) (by exact Nat.zero_le _) ?_
        intro i hI aC w hh
        letI := (sg (heapOf W) l a_l c_l name i)
        have hlen := fewM_len h0
        by_cases p0 : ((i : Nat) : Int) < ((l.length : Nat) : Int)
        · by_cases p1 : (max 0 (idxN l (l.getD (i) default).1)) = ((i : Nat) : Int)
          · by_cases p2 : (decide (0 ≤ idxN l (l.getD (i) default).1)) = true
            · by_cases p3 : (atM l ((i : Nat) : Int)).2.1 = true
              · by_cases p4 : (atM l ((i : Nat) : Int)).2.2.1 = true
                · refine walk_to (F := F2) (T := C2) (fuel := 1000) (d := 10) mixed (allF_cons (FactOk.arrLen hl rfl rfl underMl rfl rfl) (allF_cons (FactOk.bi rfl rfl rfl rfl rfl rfl (boolT (by omega))) (allF_cons (FactOk.arrIxa hl (show i < l.length by omega) rfl rfl rfl underMl sizeM rfl rfl rfl) (allF_cons (arrFaM0 hl (show i < l.length by omega) rfl rfl rfl rfl) (allF_cons (FactOk.arrLd1 (j := 0) hl (getSome (show i < l.length by omega)) rfl rfl aggStr rfl rfl rfl rfl) (allF_cons (FactOk.bi rfl rfl rfl rfl rfl rfl (nboolF (by omega))) (allF_cons (notT rfl rfl p2) allF_nil))))))) (allC_cons (callFind rfl rfl rfl rfl hl (fewM_len ‹_›)) (allC_cons (callSolidT rfl rfl hl p3) (allC_cons (callLiquidT rfl rfl hl p4) allC_nil))) ?_ hh
                  refine walk_leave (F := F3) (T := C3) (fuel := 1000) (d := 10) mixed allF_nil allC_nil ?_
                  exact ostop_end e2 fun w2 hLow hIn => ⟨(by first | rfl | (exfalso; have hz : (chkM l).2 = 0 := h2; first | exact uqIdx (i := i) hz (by omega) (by assumption) | exact uqIs (i := i) hz (by omega) (by assumption) | exact uqSL (i := i) hz (by omega) (by assumption) (by assumption) | exact uqFS (i := i) hz (by omega) (by assumption) (by assumption) | exact uqF1 (i := i) hz (by omega) (by assumption) | exact uqF2 (i := i) hz (by omega) (by assumption) | exact uqLen hz (by assumption) | exact uq0S hz (by assumption) | exact uq0L hz (by assumption) | exact uqName (by assumption) (by assumption) | exact uqLt (by assumption) (by assumption))), hLow⟩   -- returns .bool false
                · by_cases p5 : (atM l ((i : Nat) : Int)).2.2.2.1 = true
                  · by_cases p6 : (atM l ((i : Nat) : Int)).2.2.2.2.1 < 1
                    · refine walk_to (F := F4) (T := C4) (fuel := 1000) (d := 10) mixed (allF_cons (FactOk.arrLen hl rfl rfl underMl rfl rfl) (allF_cons (FactOk.bi rfl rfl rfl rfl rfl rfl (boolT (by omega))) (allF_cons (FactOk.arrIxa hl (show i < l.length by omega) rfl rfl rfl underMl sizeM rfl rfl rfl) (allF_cons (arrFaM0 hl (show i < l.length by omega) rfl rfl rfl rfl) (allF_cons (FactOk.arrLd1 (j := 0) hl (getSome (show i < l.length by omega)) rfl rfl aggStr rfl rfl rfl rfl) (allF_cons (FactOk.bi rfl rfl rfl rfl rfl rfl (nboolF (by omega))) (allF_cons (notT rfl rfl p2) (allF_cons (FactOk.bi rfl rfl rfl rfl rfl rfl (boolT (by omega))) allF_nil)))))))) (allC_cons (callFind rfl rfl rfl rfl hl (fewM_len ‹_›)) (allC_cons (callSolidT rfl rfl hl p3) (allC_cons (callLiquidF rfl rfl hl p4) (allC_cons (callFallingT rfl rfl hl p5) (allC_cons (callMAt rfl rfl rfl rfl hl) allC_nil))))) ?_ hh
                      refine walk_leave (F := F3) (T := C3) (fuel := 1000) (d := 10) mixed allF_nil allC_nil ?_
                      exact ostop_end e3 fun w2 hLow hIn => ⟨(by first | rfl | (exfalso; have hz : (chkM l).2 = 0 := h2; first | exact uqIdx (i := i) hz (by omega) (by assumption) | exact uqIs (i := i) hz (by omega) (by assumption) | exact uqSL (i := i) hz (by omega) (by assumption) (by assumption) | exact uqFS (i := i) hz (by omega) (by assumption) (by assumption) | exact uqF1 (i := i) hz (by omega) (by assumption) | exact uqF2 (i := i) hz (by omega) (by assumption) | exact uqLen hz (by assumption) | exact uq0S hz (by assumption) | exact uq0L hz (by assumption) | exact uqName (by assumption) (by assumption) | exact uqLt (by assumption) (by assumption))), hLow⟩   -- returns .bool false
                    · by_cases p7 : 16 < (atM l ((i : Nat) : Int)).2.2.2.2.1
                      · refine walk_to (F := F5) (T := C5) (fuel := 1000) (d := 10) mixed (allF_cons (FactOk.arrLen hl rfl rfl underMl rfl rfl) (allF_cons (FactOk.bi rfl rfl rfl rfl rfl rfl (boolT (by omega))) (allF_cons (FactOk.arrIxa hl (show i < l.length by omega) rfl rfl rfl underMl sizeM rfl rfl rfl) (allF_cons (arrFaM0 hl (show i < l.length by omega) rfl rfl rfl rfl) (allF_cons (FactOk.arrLd1 (j := 0) hl (getSome (show i < l.length by omega)) rfl rfl aggStr rfl rfl rfl rfl) (allF_cons (FactOk.bi rfl rfl rfl rfl rfl rfl (nboolF (by omega))) (allF_cons (notT rfl rfl p2) (allF_cons (FactOk.bi rfl rfl rfl rfl rfl rfl (boolF (by omega))) (allF_cons (FactOk.bi rfl rfl rfl rfl rfl rfl (boolT (by omega))) allF_nil))))))))) (allC_cons (callFind rfl rfl rfl rfl hl (fewM_len ‹_›)) (allC_cons (callSolidT rfl rfl hl p3) (allC_cons (callLiquidF rfl rfl hl p4) (allC_cons (callFallingT rfl rfl hl p5) (allC_cons (callMAt rfl rfl rfl rfl hl) allC_nil))))) ?_ hh
                        refine walk_leave (F := F3) (T := C3) (fuel := 1000) (d := 10) mixed allF_nil allC_nil ?_
                        exact ostop_end e4 fun w2 hLow hIn => ⟨(by first | rfl | (exfalso; have hz : (chkM l).2 = 0 := h2; first | exact uqIdx (i := i) hz (by omega) (by assumption) | exact uqIs (i := i) hz (by omega) (by assumption) | exact uqSL (i := i) hz (by omega) (by assumption) (by assumption) | exact uqFS (i := i) hz (by omega) (by assumption) (by assumption) | exact uqF1 (i := i) hz (by omega) (by assumption) | exact uqF2 (i := i) hz (by omega) (by assumption) | exact uqLen hz (by assumption) | exact uq0S hz (by assumption) | exact uq0L hz (by assumption) | exact uqName (by assumption) (by assumption) | exact uqLt (by assumption) (by assumption))), hLow⟩   -- returns .bool false
                      · refine walk_to (F := F6) (T := C6) (fuel := 1000) (d := 10) mixed (allF_cons (FactOk.arrLen hl rfl rfl underMl rfl rfl) (allF_cons (FactOk.bi rfl rfl rfl rfl rfl rfl (boolT (by omega))) (allF_cons (FactOk.arrIxa hl (show i < l.length by omega) rfl rfl rfl underMl sizeM rfl rfl rfl) (allF_cons (arrFaM0 hl (show i < l.length by omega) rfl rfl rfl rfl) (allF_cons (FactOk.arrLd1 (j := 0) hl (getSome (show i < l.length by omega)) rfl rfl aggStr rfl rfl rfl rfl) (allF_cons (FactOk.bi rfl rfl rfl rfl rfl rfl (nboolF (by omega))) (allF_cons (notT rfl rfl p2) (allF_cons (FactOk.bi rfl rfl rfl rfl rfl rfl (boolF (by omega))) (allF_cons (FactOk.bi rfl rfl rfl rfl rfl rfl (boolF (by omega))) (allF_cons (FactOk.bi rfl rfl rfl rfl rfl rfl (intI (by omega) (by omega) (by omega))) allF_nil)))))))))) (allC_cons (callFind rfl rfl rfl rfl hl (fewM_len ‹_›)) (allC_cons (callSolidT rfl rfl hl p3) (allC_cons (callLiquidF rfl rfl hl p4) (allC_cons (callFallingT rfl rfl hl p5) (allC_cons (callMAt rfl rfl rfl rfl hl) allC_nil))))) ?_ hh
                        exact ostop_backM (s1 := (sg (heapOf W) l a_l c_l name i)) (sg := (fun i => sg (heapOf W) l a_l c_l name i)) (I := fun i => i ≤ l.length) (μ := fun i => l.length - i) (x := i) (i + 1) e5 (meet_cons (by first | exact meetV (.slice a_l l.length c_l) rfl rfl | exact meetI rfl rfl (by omega)) (meet_cons (by exact meetV (strV name) rfl rfl) (meet_cons (by first | exact meetV (.int .i64 ((i + 1 : Nat) : Int)) rfl rfl | exact meetI rfl rfl (by omega)) meet_nil))) (fun _ _ h => h) (by omega) (by (try dsimp only); omega)
                  · by_cases p6 : (atM l ((i : Nat) : Int)).2.2.2.2.1 < 1
                    · refine walk_to (F := F7) (T := C7) (fuel := 1000) (d := 10) mixed (allF_cons (FactOk.arrLen hl rfl rfl underMl rfl rfl) (allF_cons (FactOk.bi rfl rfl rfl rfl rfl rfl (boolT (by omega))) (allF_cons (FactOk.arrIxa hl (show i < l.length by omega) rfl rfl rfl underMl sizeM rfl rfl rfl) (allF_cons (arrFaM0 hl (show i < l.length by omega) rfl rfl rfl rfl) (allF_cons (FactOk.arrLd1 (j := 0) hl (getSome (show i < l.length by omega)) rfl rfl aggStr rfl rfl rfl rfl) (allF_cons (FactOk.bi rfl rfl rfl rfl rfl rfl (nboolF (by omega))) (allF_cons (notT rfl rfl p2) (allF_cons (FactOk.bi rfl rfl rfl rfl rfl rfl (boolT (by omega))) allF_nil)))))))) (allC_cons (callFind rfl rfl rfl rfl hl (fewM_len ‹_›)) (allC_cons (callSolidT rfl rfl hl p3) (allC_cons (callLiquidF rfl rfl hl p4) (allC_cons (callFallingF rfl rfl hl p5) (allC_cons (callMAt rfl rfl rfl rfl hl) allC_nil))))) ?_ hh
                      refine walk_leave (F := F3) (T := C3) (fuel := 1000) (d := 10) mixed allF_nil allC_nil ?_
                      exact ostop_end e6 fun w2 hLow hIn => ⟨(by first | rfl | (exfalso; have hz : (chkM l).2 = 0 := h2; first | exact uqIdx (i := i) hz (by omega) (by assumption) | exact uqIs (i := i) hz (by omega) (by assumption) | exact uqSL (i := i) hz (by omega) (by assumption) (by assumption) | exact uqFS (i := i) hz (by omega) (by assumption) (by assumption) | exact uqF1 (i := i) hz (by omega) (by assumption) | exact uqF2 (i := i) hz (by omega) (by assumption) | exact uqLen hz (by assumption) | exact uq0S hz (by assumption) | exact uq0L hz (by assumption) | exact uqName (by assumption) (by assumption) | exact uqLt (by assumption) (by assumption))), hLow⟩   -- returns .bool false
                    · by_cases p7 : 16 < (atM l ((i : Nat) : Int)).2.2.2.2.1
                      · refine walk_to (F := F8) (T := C8) (fuel := 1000) (d := 10) mixed (allF_cons (FactOk.arrLen hl rfl rfl underMl rfl rfl) (allF_cons (FactOk.bi rfl rfl rfl rfl rfl rfl (boolT (by omega))) (allF_cons (FactOk.arrIxa hl (show i < l.length by omega) rfl rfl rfl underMl sizeM rfl rfl rfl) (allF_cons (arrFaM0 hl (show i < l.length by omega) rfl rfl rfl rfl) (allF_cons (FactOk.arrLd1 (j := 0) hl (getSome (show i < l.length by omega)) rfl rfl aggStr rfl rfl rfl rfl) (allF_cons (FactOk.bi rfl rfl rfl rfl rfl rfl (nboolF (by omega))) (allF_cons (notT rfl rfl p2) (allF_cons (FactOk.bi rfl rfl rfl rfl rfl rfl (boolF (by omega))) (allF_cons (FactOk.bi rfl rfl rfl rfl rfl rfl (boolT (by omega))) allF_nil))))))))) (allC_cons (callFind rfl rfl rfl rfl hl (fewM_len ‹_›)) (allC_cons (callSolidT rfl rfl hl p3) (allC_cons (callLiquidF rfl rfl hl p4) (allC_cons (callFallingF rfl rfl hl p5) (allC_cons (callMAt rfl rfl rfl rfl hl) allC_nil))))) ?_ hh
                        refine walk_leave (F := F3) (T := C3) (fuel := 1000) (d := 10) mixed allF_nil allC_nil ?_
                        exact ostop_end e7 fun w2 hLow hIn => ⟨(by first | rfl | (exfalso; have hz : (chkM l).2 = 0 := h2; first | exact uqIdx (i := i) hz (by omega) (by assumption) | exact uqIs (i := i) hz (by omega) (by assumption) | exact uqSL (i := i) hz (by omega) (by assumption) (by assumption) | exact uqFS (i := i) hz (by omega) (by assumption) (by assumption) | exact uqF1 (i := i) hz (by omega) (by assumption) | exact uqF2 (i := i) hz (by omega) (by assumption) | exact uqLen hz (by assumption) | exact uq0S hz (by assumption) | exact uq0L hz (by assumption) | exact uqName (by assumption) (by assumption) | exact uqLt (by assumption) (by assumption))), hLow⟩   -- returns .bool false
                      · refine walk_to (F := F9) (T := C9) (fuel := 1000) (d := 10) mixed (allF_cons (FactOk.arrLen hl rfl rfl underMl rfl rfl) (allF_cons (FactOk.bi rfl rfl rfl rfl rfl rfl (boolT (by omega))) (allF_cons (FactOk.arrIxa hl (show i < l.length by omega) rfl rfl rfl underMl sizeM rfl rfl rfl) (allF_cons (arrFaM0 hl (show i < l.length by omega) rfl rfl rfl rfl) (allF_cons (FactOk.arrLd1 (j := 0) hl (getSome (show i < l.length by omega)) rfl rfl aggStr rfl rfl rfl rfl) (allF_cons (FactOk.bi rfl rfl rfl rfl rfl rfl (nboolF (by omega))) (allF_cons (notT rfl rfl p2) (allF_cons (FactOk.bi rfl rfl rfl rfl rfl rfl (boolF (by omega))) (allF_cons (FactOk.bi rfl rfl rfl rfl rfl rfl (boolF (by omega))) (allF_cons (FactOk.bi rfl rfl rfl rfl rfl rfl (intI (by omega) (by omega) (by omega))) allF_nil)))))))))) (allC_cons (callFind rfl rfl rfl rfl hl (fewM_len ‹_›)) (allC_cons (callSolidT rfl rfl hl p3) (allC_cons (callLiquidF rfl rfl hl p4) (allC_cons (callFallingF rfl rfl hl p5) (allC_cons (callMAt rfl rfl rfl rfl hl) allC_nil))))) ?_ hh
                        exact ostop_backM (s1 := (sg (heapOf W) l a_l c_l name i)) (sg := (fun i => sg (heapOf W) l a_l c_l name i)) (I := fun i => i ≤ l.length) (μ := fun i => l.length - i) (x := i) (i + 1) e8 (meet_cons (by first | exact meetV (.slice a_l l.length c_l) rfl rfl | exact meetI rfl rfl (by omega)) (meet_cons (by exact meetV (strV name) rfl rfl) (meet_cons (by first | exact meetV (.int .i64 ((i + 1 : Nat) : Int)) rfl rfl | exact meetI rfl rfl (by omega)) meet_nil))) (fun _ _ h => h) (by omega) (by (try dsimp only); omega)
              · by_cases p4 : (atM l ((i : Nat) : Int)).2.2.2.1 = true
                · refine walk_to (F := F10) (T := C10) (fuel := 1000) (d := 10) mixed (allF_cons (FactOk.arrLen hl rfl rfl underMl rfl rfl) (allF_cons (FactOk.bi rfl rfl rfl rfl rfl rfl (boolT (by omega))) (allF_cons (FactOk.arrIxa hl (show i < l.length by omega) rfl rfl rfl underMl sizeM rfl rfl rfl) (allF_cons (arrFaM0 hl (show i < l.length by omega) rfl rfl rfl rfl) (allF_cons (FactOk.arrLd1 (j := 0) hl (getSome (show i < l.length by omega)) rfl rfl aggStr rfl rfl rfl rfl) (allF_cons (FactOk.bi rfl rfl rfl rfl rfl rfl (nboolF (by omega))) (allF_cons (notT rfl rfl p2) allF_nil))))))) (allC_cons (callFind rfl rfl rfl rfl hl (fewM_len ‹_›)) (allC_cons (callSolidF rfl rfl hl p3) (allC_cons (callFallingT rfl rfl hl p4) allC_nil))) ?_ hh
                  refine walk_leave (F := F3) (T := C3) (fuel := 1000) (d := 10) mixed allF_nil allC_nil ?_
                  exact ostop_end e9 fun w2 hLow hIn => ⟨(by first | rfl | (exfalso; have hz : (chkM l).2 = 0 := h2; first | exact uqIdx (i := i) hz (by omega) (by assumption) | exact uqIs (i := i) hz (by omega) (by assumption) | exact uqSL (i := i) hz (by omega) (by assumption) (by assumption) | exact uqFS (i := i) hz (by omega) (by assumption) (by assumption) | exact uqF1 (i := i) hz (by omega) (by assumption) | exact uqF2 (i := i) hz (by omega) (by assumption) | exact uqLen hz (by assumption) | exact uq0S hz (by assumption) | exact uq0L hz (by assumption) | exact uqName (by assumption) (by assumption) | exact uqLt (by assumption) (by assumption))), hLow⟩   -- returns .bool false
                · by_cases p5 : (atM l ((i : Nat) : Int)).2.2.2.2.1 < 1
                  · refine walk_to (F := F11) (T := C11) (fuel := 1000) (d := 10) mixed (allF_cons (FactOk.arrLen hl rfl rfl underMl rfl rfl) (allF_cons (FactOk.bi rfl rfl rfl rfl rfl rfl (boolT (by omega))) (allF_cons (FactOk.arrIxa hl (show i < l.length by omega) rfl rfl rfl underMl sizeM rfl rfl rfl) (allF_cons (arrFaM0 hl (show i < l.length by omega) rfl rfl rfl rfl) (allF_cons (FactOk.arrLd1 (j := 0) hl (getSome (show i < l.length by omega)) rfl rfl aggStr rfl rfl rfl rfl) (allF_cons (FactOk.bi rfl rfl rfl rfl rfl rfl (nboolF (by omega))) (allF_cons (notT rfl rfl p2) (allF_cons (FactOk.bi rfl rfl rfl rfl rfl rfl (boolT (by omega))) allF_nil)))))))) (allC_cons (callFind rfl rfl rfl rfl hl (fewM_len ‹_›)) (allC_cons (callSolidF rfl rfl hl p3) (allC_cons (callFallingF rfl rfl hl p4) (allC_cons (callMAt rfl rfl rfl rfl hl) allC_nil)))) ?_ hh
                    refine walk_leave (F := F3) (T := C3) (fuel := 1000) (d := 10) mixed allF_nil allC_nil ?_
                    exact ostop_end e10 fun w2 hLow hIn => ⟨(by first | rfl | (exfalso; have hz : (chkM l).2 = 0 := h2; first | exact uqIdx (i := i) hz (by omega) (by assumption) | exact uqIs (i := i) hz (by omega) (by assumption) | exact uqSL (i := i) hz (by omega) (by assumption) (by assumption) | exact uqFS (i := i) hz (by omega) (by assumption) (by assumption) | exact uqF1 (i := i) hz (by omega) (by assumption) | exact uqF2 (i := i) hz (by omega) (by assumption) | exact uqLen hz (by assumption) | exact uq0S hz (by assumption) | exact uq0L hz (by assumption) | exact uqName (by assumption) (by assumption) | exact uqLt (by assumption) (by assumption))), hLow⟩   -- returns .bool false
                  · by_cases p6 : 16 < (atM l ((i : Nat) : Int)).2.2.2.2.1
                    · refine walk_to (F := F12) (T := C12) (fuel := 1000) (d := 10) mixed (allF_cons (FactOk.arrLen hl rfl rfl underMl rfl rfl) (allF_cons (FactOk.bi rfl rfl rfl rfl rfl rfl (boolT (by omega))) (allF_cons (FactOk.arrIxa hl (show i < l.length by omega) rfl rfl rfl underMl sizeM rfl rfl rfl) (allF_cons (arrFaM0 hl (show i < l.length by omega) rfl rfl rfl rfl) (allF_cons (FactOk.arrLd1 (j := 0) hl (getSome (show i < l.length by omega)) rfl rfl aggStr rfl rfl rfl rfl) (allF_cons (FactOk.bi rfl rfl rfl rfl rfl rfl (nboolF (by omega))) (allF_cons (notT rfl rfl p2) (allF_cons (FactOk.bi rfl rfl rfl rfl rfl rfl (boolF (by omega))) (allF_cons (FactOk.bi rfl rfl rfl rfl rfl rfl (boolT (by omega))) allF_nil))))))))) (allC_cons (callFind rfl rfl rfl rfl hl (fewM_len ‹_›)) (allC_cons (callSolidF rfl rfl hl p3) (allC_cons (callFallingF rfl rfl hl p4) (allC_cons (callMAt rfl rfl rfl rfl hl) allC_nil)))) ?_ hh
                      refine walk_leave (F := F3) (T := C3) (fuel := 1000) (d := 10) mixed allF_nil allC_nil ?_
                      exact ostop_end e11 fun w2 hLow hIn => ⟨(by first | rfl | (exfalso; have hz : (chkM l).2 = 0 := h2; first | exact uqIdx (i := i) hz (by omega) (by assumption) | exact uqIs (i := i) hz (by omega) (by assumption) | exact uqSL (i := i) hz (by omega) (by assumption) (by assumption) | exact uqFS (i := i) hz (by omega) (by assumption) (by assumption) | exact uqF1 (i := i) hz (by omega) (by assumption) | exact uqF2 (i := i) hz (by omega) (by assumption) | exact uqLen hz (by assumption) | exact uq0S hz (by assumption) | exact uq0L hz (by assumption) | exact uqName (by assumption) (by assumption) | exact uqLt (by assumption) (by assumption))), hLow⟩   -- returns .bool false
                    · refine walk_to (F := F13) (T := C13) (fuel := 1000) (d := 10) mixed (allF_cons (FactOk.arrLen hl rfl rfl underMl rfl rfl) (allF_cons (FactOk.bi rfl rfl rfl rfl rfl rfl (boolT (by omega))) (allF_cons (FactOk.arrIxa hl (show i < l.length by omega) rfl rfl rfl underMl sizeM rfl rfl rfl) (allF_cons (arrFaM0 hl (show i < l.length by omega) rfl rfl rfl rfl) (allF_cons (FactOk.arrLd1 (j := 0) hl (getSome (show i < l.length by omega)) rfl rfl aggStr rfl rfl rfl rfl) (allF_cons (FactOk.bi rfl rfl rfl rfl rfl rfl (nboolF (by omega))) (allF_cons (notT rfl rfl p2) (allF_cons (FactOk.bi rfl rfl rfl rfl rfl rfl (boolF (by omega))) (allF_cons (FactOk.bi rfl rfl rfl rfl rfl rfl (boolF (by omega))) (allF_cons (FactOk.bi rfl rfl rfl rfl rfl rfl (intI (by omega) (by omega) (by omega))) allF_nil)))))))))) (allC_cons (callFind rfl rfl rfl rfl hl (fewM_len ‹_›)) (allC_cons (callSolidF rfl rfl hl p3) (allC_cons (callFallingF rfl rfl hl p4) (allC_cons (callMAt rfl rfl rfl rfl hl) allC_nil)))) ?_ hh
                      exact ostop_backM (s1 := (sg (heapOf W) l a_l c_l name i)) (sg := (fun i => sg (heapOf W) l a_l c_l name i)) (I := fun i => i ≤ l.length) (μ := fun i => l.length - i) (x := i) (i + 1) e12 (meet_cons (by first | exact meetV (.slice a_l l.length c_l) rfl rfl | exact meetI rfl rfl (by omega)) (meet_cons (by exact meetV (strV name) rfl rfl) (meet_cons (by first | exact meetV (.int .i64 ((i + 1 : Nat) : Int)) rfl rfl | exact meetI rfl rfl (by omega)) meet_nil))) (fun _ _ h => h) (by omega) (by (try dsimp only); omega)
            · refine walk_to (F := F14) (T := C14) (fuel := 1000) (d := 10) mixed (allF_cons (FactOk.arrLen hl rfl rfl underMl rfl rfl) (allF_cons (FactOk.bi rfl rfl rfl rfl rfl rfl (boolT (by omega))) (allF_cons (FactOk.arrIxa hl (show i < l.length by omega) rfl rfl rfl underMl sizeM rfl rfl rfl) (allF_cons (arrFaM0 hl (show i < l.length by omega) rfl rfl rfl rfl) (allF_cons (FactOk.arrLd1 (j := 0) hl (getSome (show i < l.length by omega)) rfl rfl aggStr rfl rfl rfl rfl) (allF_cons (FactOk.bi rfl rfl rfl rfl rfl rfl (nboolF (by omega))) (allF_cons (notF rfl rfl p2) allF_nil))))))) (allC_cons (callFind rfl rfl rfl rfl hl (fewM_len ‹_›)) allC_nil) ?_ hh
              refine walk_leave (F := F3) (T := C3) (fuel := 1000) (d := 10) mixed allF_nil allC_nil ?_
              exact ostop_end e13 fun w2 hLow hIn => ⟨(by first | rfl | (exfalso; have hz : (chkM l).2 = 0 := h2; first | exact uqIdx (i := i) hz (by omega) (by assumption) | exact uqIs (i := i) hz (by omega) (by assumption) | exact uqSL (i := i) hz (by omega) (by assumption) (by assumption) | exact uqFS (i := i) hz (by omega) (by assumption) (by assumption) | exact uqF1 (i := i) hz (by omega) (by assumption) | exact uqF2 (i := i) hz (by omega) (by assumption) | exact uqLen hz (by assumption) | exact uq0S hz (by assumption) | exact uq0L hz (by assumption) | exact uqName (by assumption) (by assumption) | exact uqLt (by assumption) (by assumption))), hLow⟩   -- returns .bool false
          · refine walk_to (F := F15) (T := C15) (fuel := 1000) (d := 10) mixed (allF_cons (FactOk.arrLen hl rfl rfl underMl rfl rfl) (allF_cons (FactOk.bi rfl rfl rfl rfl rfl rfl (boolT (by omega))) (allF_cons (FactOk.arrIxa hl (show i < l.length by omega) rfl rfl rfl underMl sizeM rfl rfl rfl) (allF_cons (arrFaM0 hl (show i < l.length by omega) rfl rfl rfl rfl) (allF_cons (FactOk.arrLd1 (j := 0) hl (getSome (show i < l.length by omega)) rfl rfl aggStr rfl rfl rfl rfl) (allF_cons (FactOk.bi rfl rfl rfl rfl rfl rfl (nboolT (by omega))) allF_nil)))))) (allC_cons (callFind rfl rfl rfl rfl hl (fewM_len ‹_›)) allC_nil) ?_ hh
            refine walk_leave (F := F3) (T := C3) (fuel := 1000) (d := 10) mixed allF_nil allC_nil ?_
            exact ostop_end e14 fun w2 hLow hIn => ⟨(by first | rfl | (exfalso; have hz : (chkM l).2 = 0 := h2; first | exact uqIdx (i := i) hz (by omega) (by assumption) | exact uqIs (i := i) hz (by omega) (by assumption) | exact uqSL (i := i) hz (by omega) (by assumption) (by assumption) | exact uqFS (i := i) hz (by omega) (by assumption) (by assumption) | exact uqF1 (i := i) hz (by omega) (by assumption) | exact uqF2 (i := i) hz (by omega) (by assumption) | exact uqLen hz (by assumption) | exact uq0S hz (by assumption) | exact uq0L hz (by assumption) | exact uqName (by assumption) (by assumption) | exact uqLt (by assumption) (by assumption))), hLow⟩   -- returns .bool false
        · refine walk_to (F := F16) (T := C16) (fuel := 1000) (d := 10) mixed (allF_cons (FactOk.arrLen hl rfl rfl underMl rfl rfl) (allF_cons (FactOk.bi rfl rfl rfl rfl rfl rfl (boolF (by omega))) allF_nil)) allC_nil ?_ hh
          by_cases q0 : 0 < ((l.length : Nat) : Int)
          · by_cases q1 : (atM l 0).2.1 = true
            · refine walk_leave (F := F17) (T := C17) (fuel := 1000) (d := 10) mixed (allF_cons (FactOk.arrLen hl rfl rfl underMl rfl rfl) (allF_cons (FactOk.bi rfl rfl rfl rfl rfl rfl (boolT (by omega))) allF_nil)) (allC_cons (callFind rfl rfl rfl rfl hl (fewM_len ‹_›)) (allC_cons (callSolidT rfl rfl hl q1) allC_nil)) ?_
              exact ostop_end e15 fun w2 hLow hIn => ⟨(by first | rfl | (exfalso; have hz : (chkM l).2 = 0 := h2; first | exact uqIdx (i := i) hz (by omega) (by assumption) | exact uqIs (i := i) hz (by omega) (by assumption) | exact uqSL (i := i) hz (by omega) (by assumption) (by assumption) | exact uqFS (i := i) hz (by omega) (by assumption) (by assumption) | exact uqF1 (i := i) hz (by omega) (by assumption) | exact uqF2 (i := i) hz (by omega) (by assumption) | exact uqLen hz (by assumption) | exact uq0S hz (by assumption) | exact uq0L hz (by assumption) | exact uqName (by assumption) (by assumption) | exact uqLt (by assumption) (by assumption))), hLow⟩   -- returns .bool false
            · by_cases q2 : (atM l 0).2.2.1 = true
              · refine walk_leave (F := F18) (T := C18) (fuel := 1000) (d := 10) mixed (allF_cons (FactOk.arrLen hl rfl rfl underMl rfl rfl) (allF_cons (FactOk.bi rfl rfl rfl rfl rfl rfl (boolT (by omega))) allF_nil)) (allC_cons (callFind rfl rfl rfl rfl hl (fewM_len ‹_›)) (allC_cons (callSolidF rfl rfl hl q1) (allC_cons (callLiquidT rfl rfl hl q2) allC_nil))) ?_
                exact ostop_end e16 fun w2 hLow hIn => ⟨(by first | rfl | (exfalso; have hz : (chkM l).2 = 0 := h2; first | exact uqIdx (i := i) hz (by omega) (by assumption) | exact uqIs (i := i) hz (by omega) (by assumption) | exact uqSL (i := i) hz (by omega) (by assumption) (by assumption) | exact uqFS (i := i) hz (by omega) (by assumption) (by assumption) | exact uqF1 (i := i) hz (by omega) (by assumption) | exact uqF2 (i := i) hz (by omega) (by assumption) | exact uqLen hz (by assumption) | exact uq0S hz (by assumption) | exact uq0L hz (by assumption) | exact uqName (by assumption) (by assumption) | exact uqLt (by assumption) (by assumption))), hLow⟩   -- returns .bool false
              · by_cases q3 : (decide (0 ≤ idxN l name)) = true
                · by_cases q4 : (max 0 (idxN l name)) < ((l.length : Nat) : Int)
                  · by_cases q5 : (l.getD (((max 0 (idxN l name))).toNat) default).1 = name
                    · refine walk_leave (F := F19) (T := C19) (fuel := 1000) (d := 10) mixed (allF_cons (FactOk.arrLen hl rfl rfl underMl rfl rfl) (allF_cons (FactOk.bi rfl rfl rfl rfl rfl rfl (boolT (by omega))) (allF_cons (notT rfl rfl q3) (allF_cons (FactOk.bi rfl rfl rfl rfl rfl rfl (boolT (by omega))) (allF_cons (FactOk.arrIxa hl (show ((max 0 (idxN l name))).toNat < l.length by omega) rfl rfl rfl underMl sizeM rfl (natI (by omega)) rfl) (allF_cons (arrFaM0 hl (show ((max 0 (idxN l name))).toNat < l.length by omega) rfl rfl rfl rfl) (allF_cons (FactOk.arrLd1 (j := 0) hl (getSome (show ((max 0 (idxN l name))).toNat < l.length by omega)) rfl rfl aggStr rfl rfl rfl rfl) (allF_cons (FactOk.strEqT rfl rfl rfl rfl q5) allF_nil)))))))) (allC_cons (callFind rfl rfl rfl rfl hl (fewM_len ‹_›)) (allC_cons (callSolidF rfl rfl hl q1) (allC_cons (callLiquidF rfl rfl hl q2) allC_nil))) ?_
                      exact ostop_end e17 fun w2 hLow hIn => ⟨(by first | rfl | (exfalso; have hz : (chkM l).2 = 0 := h2; first | exact uqIdx (i := i) hz (by omega) (by assumption) | exact uqIs (i := i) hz (by omega) (by assumption) | exact uqSL (i := i) hz (by omega) (by assumption) (by assumption) | exact uqFS (i := i) hz (by omega) (by assumption) (by assumption) | exact uqF1 (i := i) hz (by omega) (by assumption) | exact uqF2 (i := i) hz (by omega) (by assumption) | exact uqLen hz (by assumption) | exact uq0S hz (by assumption) | exact uq0L hz (by assumption) | exact uqName (by assumption) (by assumption) | exact uqLt (by assumption) (by assumption))), hLow⟩   -- returns .bool true
                    · refine walk_leave (F := F20) (T := C20) (fuel := 1000) (d := 10) mixed (allF_cons (FactOk.arrLen hl rfl rfl underMl rfl rfl) (allF_cons (FactOk.bi rfl rfl rfl rfl rfl rfl (boolT (by omega))) (allF_cons (notT rfl rfl q3) (allF_cons (FactOk.bi rfl rfl rfl rfl rfl rfl (boolT (by omega))) (allF_cons (FactOk.arrIxa hl (show ((max 0 (idxN l name))).toNat < l.length by omega) rfl rfl rfl underMl sizeM rfl (natI (by omega)) rfl) (allF_cons (arrFaM0 hl (show ((max 0 (idxN l name))).toNat < l.length by omega) rfl rfl rfl rfl) (allF_cons (FactOk.arrLd1 (j := 0) hl (getSome (show ((max 0 (idxN l name))).toNat < l.length by omega)) rfl rfl aggStr rfl rfl rfl rfl) (allF_cons (FactOk.strEqF rfl rfl rfl rfl q5) allF_nil)))))))) (allC_cons (callFind rfl rfl rfl rfl hl (fewM_len ‹_›)) (allC_cons (callSolidF rfl rfl hl q1) (allC_cons (callLiquidF rfl rfl hl q2) allC_nil))) ?_
                      exact ostop_end e18 fun w2 hLow hIn => ⟨(by first | rfl | (exfalso; have hz : (chkM l).2 = 0 := h2; first | exact uqIdx (i := i) hz (by omega) (by assumption) | exact uqIs (i := i) hz (by omega) (by assumption) | exact uqSL (i := i) hz (by omega) (by assumption) (by assumption) | exact uqFS (i := i) hz (by omega) (by assumption) (by assumption) | exact uqF1 (i := i) hz (by omega) (by assumption) | exact uqF2 (i := i) hz (by omega) (by assumption) | exact uqLen hz (by assumption) | exact uq0S hz (by assumption) | exact uq0L hz (by assumption) | exact uqName (by assumption) (by assumption) | exact uqLt (by assumption) (by assumption))), hLow⟩   -- returns .bool false
                  · refine walk_leave (F := F21) (T := C21) (fuel := 1000) (d := 10) mixed (allF_cons (FactOk.arrLen hl rfl rfl underMl rfl rfl) (allF_cons (FactOk.bi rfl rfl rfl rfl rfl rfl (boolT (by omega))) (allF_cons (notT rfl rfl q3) (allF_cons (FactOk.bi rfl rfl rfl rfl rfl rfl (boolF (by omega))) allF_nil)))) (allC_cons (callFind rfl rfl rfl rfl hl (fewM_len ‹_›)) (allC_cons (callSolidF rfl rfl hl q1) (allC_cons (callLiquidF rfl rfl hl q2) allC_nil))) ?_
                    exact ostop_end e19 fun w2 hLow hIn => ⟨(by first | rfl | (exfalso; have hz : (chkM l).2 = 0 := h2; first | exact uqIdx (i := i) hz (by omega) (by assumption) | exact uqIs (i := i) hz (by omega) (by assumption) | exact uqSL (i := i) hz (by omega) (by assumption) (by assumption) | exact uqFS (i := i) hz (by omega) (by assumption) (by assumption) | exact uqF1 (i := i) hz (by omega) (by assumption) | exact uqF2 (i := i) hz (by omega) (by assumption) | exact uqLen hz (by assumption) | exact uq0S hz (by assumption) | exact uq0L hz (by assumption) | exact uqName (by assumption) (by assumption) | exact uqLt (by assumption) (by assumption))), hLow⟩   -- returns .bool false
                · refine walk_leave (F := F22) (T := C22) (fuel := 1000) (d := 10) mixed (allF_cons (FactOk.arrLen hl rfl rfl underMl rfl rfl) (allF_cons (FactOk.bi rfl rfl rfl rfl rfl rfl (boolT (by omega))) (allF_cons (notF rfl rfl q3) allF_nil))) (allC_cons (callFind rfl rfl rfl rfl hl (fewM_len ‹_›)) (allC_cons (callSolidF rfl rfl hl q1) (allC_cons (callLiquidF rfl rfl hl q2) allC_nil))) ?_
                  exact ostop_end e20 fun w2 hLow hIn => ⟨(by first | rfl | (exfalso; have hz : (chkM l).2 = 0 := h2; first | exact uqIdx (i := i) hz (by omega) (by assumption) | exact uqIs (i := i) hz (by omega) (by assumption) | exact uqSL (i := i) hz (by omega) (by assumption) (by assumption) | exact uqFS (i := i) hz (by omega) (by assumption) (by assumption) | exact uqF1 (i := i) hz (by omega) (by assumption) | exact uqF2 (i := i) hz (by omega) (by assumption) | exact uqLen hz (by assumption) | exact uq0S hz (by assumption) | exact uq0L hz (by assumption) | exact uqName (by assumption) (by assumption) | exact uqLt (by assumption) (by assumption))), hLow⟩   -- returns .bool true
          · refine walk_leave (F := F23) (T := C23) (fuel := 1000) (d := 10) mixed (allF_cons (FactOk.arrLen hl rfl rfl underMl rfl rfl) (allF_cons (FactOk.bi rfl rfl rfl rfl rfl rfl (boolF (by omega))) allF_nil)) (allC_cons (callFind rfl rfl rfl rfl hl (fewM_len ‹_›)) allC_nil) ?_
            exact ostop_end e21 fun w2 hLow hIn => ⟨(by first | rfl | (exfalso; have hz : (chkM l).2 = 0 := h2; first | exact uqIdx (i := i) hz (by omega) (by assumption) | exact uqIs (i := i) hz (by omega) (by assumption) | exact uqSL (i := i) hz (by omega) (by assumption) (by assumption) | exact uqFS (i := i) hz (by omega) (by assumption) (by assumption) | exact uqF1 (i := i) hz (by omega) (by assumption) | exact uqF2 (i := i) hz (by omega) (by assumption) | exact uqLen hz (by assumption) | exact uq0S hz (by assumption) | exact uq0L hz (by assumption) | exact uqName (by assumption) (by assumption) | exact uqLt (by assumption) (by assumption))), hLow⟩   -- returns .bool false
      · refine walk_to (F := F24) (T := C24) (fuel := 1000) (d := 10) mixed (allF_cons (FactOk.strLen rfl rfl underStr rfl rfl) (allF_cons (FactOk.bi rfl rfl rfl rfl rfl rfl (boolF (by omega))) (allF_cons (FactOk.bi rfl rfl rfl rfl rfl rfl (nboolT (by omega))) allF_nil))) (allC_cons (callSanity hK) (allC_cons (callFewT rfl rfl hl h0) (allC_cons (callChk rfl rfl rfl rfl hl hK) allC_nil))) ?_ hh
        exact ostop_end e22 fun w2 hLow hIn => ⟨(by first | rfl | (exfalso; have hz : (chkM l).2 = 0 := h2; first | exact uqIdx (i := i) hz (by omega) (by assumption) | exact uqIs (i := i) hz (by omega) (by assumption) | exact uqSL (i := i) hz (by omega) (by assumption) (by assumption) | exact uqFS (i := i) hz (by omega) (by assumption) (by assumption) | exact uqF1 (i := i) hz (by omega) (by assumption) | exact uqF2 (i := i) hz (by omega) (by assumption) | exact uqLen hz (by assumption) | exact uq0S hz (by assumption) | exact uq0L hz (by assumption) | exact uqName (by assumption) (by assumption) | exact uqLt (by assumption) (by assumption))), hLow⟩   -- returns .bool true
  · refine walk_to (F := F25) (T := C25) (fuel := 1000) (d := 10) mixed allF_nil (allC_cons (callSanity hK) (allC_cons (callFewF rfl rfl hl h0) allC_nil)) ?_ hh
    exact ostop_end e23 fun w2 hLow hIn => ⟨(by first | rfl | (exfalso; have hz : (chkM l).2 = 0 := h2; first | exact uqIdx (i := i) hz (by omega) (by assumption) | exact uqIs (i := i) hz (by omega) (by assumption) | exact uqSL (i := i) hz (by omega) (by assumption) (by assumption) | exact uqFS (i := i) hz (by omega) (by assumption) (by assumption) | exact uqF1 (i := i) hz (by omega) (by assumption) | exact uqF2 (i := i) hz (by omega) (by assumption) | exact uqLen hz (by assumption) | exact uq0S hz (by assumption) | exact uq0L hz (by assumption) | exact uqName (by assumption) (by assumption) | exact uqLt (by assumption) (by assumption))), hLow⟩   -- returns .bool true
end UniqG
end AE
end Go.Proofs.YtblhndlmgibljaaDoor

namespace Go.Proofs.YtblhndlmgibljaaDoor
open Go Go.ChangeShapes Go.WideShapes Go.ChangeAt Go.RowKit
set_option maxRecDepth 100000

theorem materialNamesAreUnique_laid (os : Os) (args : Array Value) : laidMetH Tryd.prog Rows.materialNamesAreUniqueRow.laid ((World.laidAll Tryd.prog os Rows.materialNamesAreUniqueRow.laid).forCall (fun _ _ => 0) ⟨#[], args, []⟩).memory := by
  rw [MakeChecks.laidMetH_plain _ _ _ (by kernel_rfl)]
  exact laidMet_laidAll _ (by kernel_rfl) (by kernel_rfl)

theorem materialNamesAreUnique_lifted (os : Os) (started : os.Started) (H : Type) (enc : TypeId × Value → H) :
    ReturnsInHanded {} Tryd.checked os 8 .any (fun w args => (Rows.materialNamesAreUniqueSpec.pre enc Tryd.prog Tryd.f8 [] false w args ∧ laidMetH Tryd.prog Rows.materialNamesAreUniqueRow.laid w) ∧ sizedMet enc Tryd.prog Tryd.f8 (OpenSpec.ofChange Rows.materialNamesAreUniqueSpec) false w args)
      (Rows.materialNamesAreUniqueSpec.post enc Tryd.prog Tryd.f8 false true false false) := by
  refine returnsInHanded_of_change_and (C := Tryd.checked) (X := fun w _ => laidMetH Tryd.prog Rows.materialNamesAreUniqueRow.laid w) (fun _ _ _ hh h => h.of_heap hh) own started (by kernel_rfl) Tryd.func8
    (ChangeSpec.witness_shaped (enc := enc) (C := Tryd.checked) (os := os) (X := fun w _ => laidMetH Tryd.prog Rows.materialNamesAreUniqueRow.laid w) false (World.laidAll Tryd.prog os Rows.materialNamesAreUniqueRow.laid) #[.slice none 0 0, .string ⟨#[]⟩] 8 (World.laidAll_os _ _ _)
      (World.shaped_of_ZipB (by kernel_rfl) (by kernel_rfl)) (by kernel_rfl) (by kernel_rfl) (by kernel_rfl) (materialNamesAreUnique_laid os _)) ?_
  intro W base args ds gs before hval0 hW _ _ hL _
  have hval : ∀ (j : Nat) t v, Tryd.f8.params[j]? = some t → args[j]? = some v → Value.okWide Tryd.prog W .any base t v := hval0
  have hW' := hW
  obtain ⟨p, q, hA0, hV, rfl, _, _⟩ := hW
  have hA : DataW.TrodAll enc Tryd.prog W 0 (fun _ => true) true Tryd.f8.params.toList args.toList ds p := hA0
  rw [Tryd.params8] at hA hval
  have hAk := hA
  obtain ⟨v0, v1, d0, d1, p0, p1, rfl, rfl, rfl, h0, h1⟩ := trodAll_two hA
  obtain ⟨rfl, rfl⟩ := trodVars_none hV
  obtain ⟨l0, hl0⟩ := open_mats (hval 0 22 v0 rfl rfl) h0
  obtain ⟨s1, rfl⟩ := open_str (hval 1 9 v1 rfl rfl) h1
  simp only [List.append_nil] at hW'
  have hlt : ∀ x ∈ p0 ++ p1, x.block < W.heap.size := fun x hx => by simpa using hW'.lt x hx
  refine (AE.UniqG.any W hl0 s1 (kinds_of_laid hL rfl)).mono fun e W' ⟨he, hb⟩ => ?_
  subst he
  exact ⟨_, rfl, _, _, _, [], p0 ++ p1, [], hW', trodAll_mk1 (shut_bool Tryd.underlying4 _), trodAll_below laidOut hb.below _ _ _ _ (by kernel_rfl) hAk hlt, rfl, hb.below.frame _, fun h => by cases h⟩

theorem materialNamesAreUnique_row : Rows.MaterialNamesAreUniqueSaid :=
  OpenClaim.holds_of_wide 8 Tryd.f8 rfl rfl rfl rfl rfl rfl rfl ⟨rfl, rfl, rfl, rfl, rfl⟩ rfl rfl rfl rfl rfl (by kernel_rfl) Tryd.func8 (by kernel_rfl)
    (of_decide_eq_true (by kernel_rfl)) (by unfold Func.isWrapper; first | (rw [if_pos (by decide +kernel)]; kernel_rfl) | (rw [if_neg (by decide +kernel)]; exact ⟨rfl, rfl⟩))
    (fun os started H enc _ => materialNamesAreUnique_lifted os started H enc)

theorem materialNamesAreUnique_card : Rows.MaterialNamesAreUniqueCardSaid :=
  Claim7.holds_tied_plain_at .later [] [.data, .data, .data, .data, .sentinel, .sentinel, .widerDeep, .pinned] true (true, "5b99cfd04ffd96155c5f917b94db44dc153867f375f91dbfcdfa1d858789f768") true materialNamesAreUnique_row (fun _ h => by cases h) (by kernel_rfl) (fun _ h => by cases h) materialNamesAreUnique_row_tie rfl ⟨rfl, rfl⟩ (by kernel_rfl) rfl
    (fun f fn hf hfn => by
      obtain rfl : f = 8 := Option.some.inj ((show Tryd.prog.funcNamed "voxel/voxellaw06.MaterialNamesAreUnique" = some 8 by kernel_rfl).symm.trans hf) |>.symm
      obtain rfl : fn = Tryd.f8 := (Option.some.inj (Tryd.func8.symm.trans hfn)).symm
      exact ⟨by kernel_rfl, fun j t ht => by
        rw [Tryd.params8] at ht
        have hm := Array.mem_of_getElem? ht
        have hall : (Tryd.f8.params.toList.all fun u => !Tryd.prog.wantsStandIn u) = true := by kernel_rfl
        rw [Tryd.params8] at hall
        have hw := List.all_eq_true.1 hall t (by simpa using hm)
        exact (show Tryd.prog.wantsStandIn t = false by simpa using hw)⟩)
    (by kernel_rfl)
#print axioms materialNamesAreUnique_card

end Go.Proofs.YtblhndlmgibljaaDoor

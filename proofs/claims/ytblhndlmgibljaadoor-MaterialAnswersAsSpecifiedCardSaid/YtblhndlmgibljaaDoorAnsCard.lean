/- Proved: the tied card of MaterialAnswersAsSpecified: for all tables, names and cells the law returns true, and its arguments read as they did. No condition beyond the own cells of the row. -/
import Derived.Test.YtblhndlmgibljaaDoorAnsCard3
import Derived.Test.YtblhndlmgibljaaDoorTie
import Derived.Test.YtblhndlmgibljaaDoorCards

/- the walks of the answers -/
namespace Go.Proofs.YtblhndlmgibljaaDoor
open Go Go.Proofs Go.RowKit
set_option maxRecDepth 100000
namespace AE
namespace AtG
noncomputable def body : Code := (Tryd.f41.body).getD .skip
def N : Nat := 18
noncomputable abbrev at' (N : Nat) (F : List (FOp × Value)) (C : List (FuncId × List Value × Value)) (c : Code) (s : ASt) : Option Stop := evalTo Tryd.prog F C N 1000 10 c s
noncomputable abbrev leave' (N : Nat) (F : List (FOp × Value)) (C : List (FuncId × List Value × Value)) (ks : List KI) (o : Option Stop) : Option Stop := evalLeave Tryd.prog F C N 1000 10 ks o
noncomputable abbrev unr' (N : Nat) (F : List (FOp × Value)) (C : List (FuncId × List Value × Value)) (m : Nat) (o : Option Stop) : Option Stop := evalUnroll Tryd.prog F C N 1000 10 m o
noncomputable abbrev res' (N : Nat) (F : List (FOp × Value)) (C : List (FuncId × List Value × Value)) (ks : List KI) (x : AX) (s : ASt) : Option Stop := evalRes Tryd.prog F C N 1000 10 ks x s
noncomputable abbrev ops' (N : Nat) (F : List (FOp × Value)) (C : List (FuncId × List Value × Value)) (r : List Oper) (ops : Array Oper) (ks : List KI) (s : ASt) : Option Stop := evalOps Tryd.prog F C N 1000 10 r ops ks s
def s0 : ASt := { sl := slots [(1, symv 1), (0, symv 0)], ms := [], A := start }
def F0 : List (FOp × Value) := [(.bin .lss 3 (symv 1) (.int .i64 0), .bool true)]
def C0 : List (FuncId × List Value × Value) := []
theorem e0 : endVal Tryd.prog Tryd.f41 (at' 18 F0 C0 body s0) = some (.agg ⟨[strV [], .bool false, .bool false, .bool false, .int .i64 16, .int .i64 0, .int .i64 0, .int .i64 0]⟩) := by kernel_rfl
def F1 : List (FOp × Value) := [(.bin .lss 3 (symv 1) (.int .i64 0), .bool false),
    (.len #[22] 3 (symv 0), symv 2),
    (.bin .geq 3 (symv 1) (symv 2), .bool true)]
def C1 : List (FuncId × List Value × Value) := []
theorem e1 : endVal Tryd.prog Tryd.f41 (at' 18 F1 C1 body s0) = some (.agg ⟨[strV [], .bool false, .bool false, .bool false, .int .i64 16, .int .i64 0, .int .i64 0, .int .i64 0]⟩) := by kernel_rfl
def F2 : List (FOp × Value) := [(.bin .lss 3 (symv 1) (.int .i64 0), .bool false),
    (.len #[22] 3 (symv 0), symv 2),
    (.bin .geq 3 (symv 1) (symv 2), .bool false),
    (.ixa 22 (symv 0) (symv 1), symv 3),
    (.ld 35 (symv 3), .agg ⟨[symv 4, symv 5, symv 6, symv 7, symv 8, symv 9, symv 10, symv 11]⟩)]
def C2 : List (FuncId × List Value × Value) := []
theorem e2 : endVal Tryd.prog Tryd.f41 (at' 18 F2 C2 body s0) = some (.agg ⟨[symv 4, symv 5, symv 6, symv 7, symv 8, symv 9, symv 10, symv 11]⟩) := by kernel_rfl
@[reducible] noncomputable def vL (l : List Mt) (a_l : Option Addr) (c_l : Nat) (cell : Int) : List Value := [.slice a_l l.length c_l, .int .i64 cell, .int .i64 ((l.length : Nat) : Int), cellPtr (.slice a_l l.length c_l) ((cell).toNat * 8), strV (l.getD ((cell).toNat) default).1, .bool (l.getD ((cell).toNat) default).2.1, .bool (l.getD ((cell).toNat) default).2.2.1, .bool (l.getD ((cell).toNat) default).2.2.2.1, .int .i64 (l.getD ((cell).toNat) default).2.2.2.2.1, .int .i64 (l.getD ((cell).toNat) default).2.2.2.2.2.1, .int .i64 (l.getD ((cell).toNat) default).2.2.2.2.2.2.1, .int .i64 (l.getD ((cell).toNat) default).2.2.2.2.2.2.2]
@[reducible] noncomputable def sg (M : Mem) (l : List Mt) (a_l : Option Addr) (c_l : Nat) (cell : Int) : Sig := sgL M (vL l a_l c_l cell)
set_option maxHeartbeats 4000000 in
theorem any (W : World) {v_l : Value} {l : List Mt} (hl : Arr (heapOf W) 8 encM v_l l) (cell : Int)  : Calls Tryd.prog 41 #[v_l, .int .i64 cell] W fun e w' => e = .returned (M.val (atM l cell)) ∧ Low W.heap.size W w' := by
  obtain ⟨a_l, c_l, rfl⟩ := hl.slice
  refine @walk_enter (sg (heapOf W) l a_l c_l cell ) Tryd.prog 41 Tryd.f41 body [symv 0, symv 1] (slots [(1, symv 1), (0, symv 0)]) N W _ Tryd.func41 (by kernel_rfl) (by kernel_rfl) (by kernel_rfl) (by kernel_rfl) (immW_sgL W _) fun a hh => ?_
  letI := (sg (heapOf W) l a_l c_l cell )
  by_cases h0 : cell < 0
  · refine walk_to (F := F0) (T := C0) (fuel := 1000) (d := 10) mixed (allF_cons (FactOk.bi rfl rfl rfl rfl rfl rfl (boolT (by omega))) allF_nil) allC_nil ?_ hh
    exact ostop_end e0 fun w2 hLow hIn => ⟨(by first | (rw [atM_in (by omega) (by omega)]; rfl) | (rw [atM_out (by omega)]; rfl)), hLow⟩   -- returns .agg ⟨[strV [], .bool false, .bool false, .bool false, .int .i64 16, .int .i64 0, .int .i64 0, .int .i64 0]⟩
  · by_cases h1 : ((l.length : Nat) : Int) ≤ cell
    · refine walk_to (F := F1) (T := C1) (fuel := 1000) (d := 10) mixed (allF_cons (FactOk.bi rfl rfl rfl rfl rfl rfl (boolF (by omega))) (allF_cons (FactOk.arrLen hl rfl rfl underMl rfl rfl) (allF_cons (FactOk.bi rfl rfl rfl rfl rfl rfl (boolT (by omega))) allF_nil))) allC_nil ?_ hh
      exact ostop_end e1 fun w2 hLow hIn => ⟨(by first | (rw [atM_in (by omega) (by omega)]; rfl) | (rw [atM_out (by omega)]; rfl)), hLow⟩   -- returns .agg ⟨[strV [], .bool false, .bool false, .bool false, .int .i64 16, .int .i64 0, .int .i64 0, .int .i64 0]⟩
    · refine walk_to (F := F2) (T := C2) (fuel := 1000) (d := 10) mixed (allF_cons (FactOk.bi rfl rfl rfl rfl rfl rfl (boolF (by omega))) (allF_cons (FactOk.arrLen hl rfl rfl underMl rfl rfl) (allF_cons (FactOk.bi rfl rfl rfl rfl rfl rfl (boolF (by omega))) (allF_cons (FactOk.arrIxa hl (show (cell).toNat < l.length by omega) rfl rfl rfl underMl sizeM rfl (natI (by omega)) rfl) (allF_cons (FactOk.arrLd hl (getSome (show (cell).toNat < l.length by omega)) rfl rfl aggM sizeM rfl rfl rfl) allF_nil))))) allC_nil ?_ hh
      exact ostop_end e2 fun w2 hLow hIn => ⟨(by first | (rw [atM_in (by omega) (by omega)]; rfl) | (rw [atM_out (by omega)]; rfl)), hLow⟩   -- returns .agg ⟨[symv 4, symv 5, symv 6, symv 7, symv 8, symv 9, symv 10, symv 11]⟩
end AtG
namespace RAtG
noncomputable def body : Code := (Tryd.f19.body).getD .skip
def N : Nat := 18
noncomputable abbrev at' (N : Nat) (F : List (FOp × Value)) (C : List (FuncId × List Value × Value)) (c : Code) (s : ASt) : Option Stop := evalTo Tryd.prog F C N 1000 10 c s
noncomputable abbrev leave' (N : Nat) (F : List (FOp × Value)) (C : List (FuncId × List Value × Value)) (ks : List KI) (o : Option Stop) : Option Stop := evalLeave Tryd.prog F C N 1000 10 ks o
noncomputable abbrev unr' (N : Nat) (F : List (FOp × Value)) (C : List (FuncId × List Value × Value)) (m : Nat) (o : Option Stop) : Option Stop := evalUnroll Tryd.prog F C N 1000 10 m o
noncomputable abbrev res' (N : Nat) (F : List (FOp × Value)) (C : List (FuncId × List Value × Value)) (ks : List KI) (x : AX) (s : ASt) : Option Stop := evalRes Tryd.prog F C N 1000 10 ks x s
noncomputable abbrev ops' (N : Nat) (F : List (FOp × Value)) (C : List (FuncId × List Value × Value)) (r : List Oper) (ops : Array Oper) (ks : List KI) (s : ASt) : Option Stop := evalOps Tryd.prog F C N 1000 10 r ops ks s
def s0 : ASt := { sl := slots [(1, symv 1), (0, symv 0)], ms := [], A := start }
def F0 : List (FOp × Value) := [(.bin .lss 3 (symv 1) (.int .i64 0), .bool true)]
def C0 : List (FuncId × List Value × Value) := []
theorem e0 : endVal Tryd.prog Tryd.f19 (at' 18 F0 C0 body s0) = some (.agg ⟨[strV [], .bool false, .bool false, .bool false, .int .i64 16, .int .i64 0, .int .i64 0, .int .i64 0]⟩) := by kernel_rfl
def F1 : List (FOp × Value) := [(.bin .lss 3 (symv 1) (.int .i64 0), .bool false),
    (.len #[22] 3 (symv 0), symv 2),
    (.bin .geq 3 (symv 1) (symv 2), .bool true)]
def C1 : List (FuncId × List Value × Value) := []
theorem e1 : endVal Tryd.prog Tryd.f19 (at' 18 F1 C1 body s0) = some (.agg ⟨[strV [], .bool false, .bool false, .bool false, .int .i64 16, .int .i64 0, .int .i64 0, .int .i64 0]⟩) := by kernel_rfl
def F2 : List (FOp × Value) := [(.bin .lss 3 (symv 1) (.int .i64 0), .bool false),
    (.len #[22] 3 (symv 0), symv 2),
    (.bin .geq 3 (symv 1) (symv 2), .bool false),
    (.ixa 22 (symv 0) (symv 1), symv 3),
    (.ld 35 (symv 3), .agg ⟨[symv 4, symv 5, symv 6, symv 7, symv 8, symv 9, symv 10, symv 11]⟩)]
def C2 : List (FuncId × List Value × Value) := []
theorem e2 : endVal Tryd.prog Tryd.f19 (at' 18 F2 C2 body s0) = some (.agg ⟨[symv 4, symv 5, symv 6, symv 7, symv 8, symv 9, symv 10, symv 11]⟩) := by kernel_rfl
@[reducible] noncomputable def vL (l : List Mt) (a_l : Option Addr) (c_l : Nat) (cell : Int) : List Value := [.slice a_l l.length c_l, .int .i64 cell, .int .i64 ((l.length : Nat) : Int), cellPtr (.slice a_l l.length c_l) ((cell).toNat * 8), strV (l.getD ((cell).toNat) default).1, .bool (l.getD ((cell).toNat) default).2.1, .bool (l.getD ((cell).toNat) default).2.2.1, .bool (l.getD ((cell).toNat) default).2.2.2.1, .int .i64 (l.getD ((cell).toNat) default).2.2.2.2.1, .int .i64 (l.getD ((cell).toNat) default).2.2.2.2.2.1, .int .i64 (l.getD ((cell).toNat) default).2.2.2.2.2.2.1, .int .i64 (l.getD ((cell).toNat) default).2.2.2.2.2.2.2]
@[reducible] noncomputable def sg (M : Mem) (l : List Mt) (a_l : Option Addr) (c_l : Nat) (cell : Int) : Sig := sgL M (vL l a_l c_l cell)
set_option maxHeartbeats 4000000 in
theorem any (W : World) {v_l : Value} {l : List Mt} (hl : Arr (heapOf W) 8 encM v_l l) (cell : Int)  : Calls Tryd.prog 19 #[v_l, .int .i64 cell] W fun e w' => e = .returned (M.val (atM l cell)) ∧ Low W.heap.size W w' := by
  obtain ⟨a_l, c_l, rfl⟩ := hl.slice
  refine @walk_enter (sg (heapOf W) l a_l c_l cell ) Tryd.prog 19 Tryd.f19 body [symv 0, symv 1] (slots [(1, symv 1), (0, symv 0)]) N W _ Tryd.func19 (by kernel_rfl) (by kernel_rfl) (by kernel_rfl) (by kernel_rfl) (immW_sgL W _) fun a hh => ?_
  letI := (sg (heapOf W) l a_l c_l cell )
  by_cases h0 : cell < 0
  · refine walk_to (F := F0) (T := C0) (fuel := 1000) (d := 10) mixed (allF_cons (FactOk.bi rfl rfl rfl rfl rfl rfl (boolT (by omega))) allF_nil) allC_nil ?_ hh
    exact ostop_end e0 fun w2 hLow hIn => ⟨(by first | (rw [atM_in (by omega) (by omega)]; rfl) | (rw [atM_out (by omega)]; rfl)), hLow⟩   -- returns .agg ⟨[strV [], .bool false, .bool false, .bool false, .int .i64 16, .int .i64 0, .int .i64 0, .int .i64 0]⟩
  · by_cases h1 : ((l.length : Nat) : Int) ≤ cell
    · refine walk_to (F := F1) (T := C1) (fuel := 1000) (d := 10) mixed (allF_cons (FactOk.bi rfl rfl rfl rfl rfl rfl (boolF (by omega))) (allF_cons (FactOk.arrLen hl rfl rfl underMl rfl rfl) (allF_cons (FactOk.bi rfl rfl rfl rfl rfl rfl (boolT (by omega))) allF_nil))) allC_nil ?_ hh
      exact ostop_end e1 fun w2 hLow hIn => ⟨(by first | (rw [atM_in (by omega) (by omega)]; rfl) | (rw [atM_out (by omega)]; rfl)), hLow⟩   -- returns .agg ⟨[strV [], .bool false, .bool false, .bool false, .int .i64 16, .int .i64 0, .int .i64 0, .int .i64 0]⟩
    · refine walk_to (F := F2) (T := C2) (fuel := 1000) (d := 10) mixed (allF_cons (FactOk.bi rfl rfl rfl rfl rfl rfl (boolF (by omega))) (allF_cons (FactOk.arrLen hl rfl rfl underMl rfl rfl) (allF_cons (FactOk.bi rfl rfl rfl rfl rfl rfl (boolF (by omega))) (allF_cons (FactOk.arrIxa hl (show (cell).toNat < l.length by omega) rfl rfl rfl underMl sizeM rfl (natI (by omega)) rfl) (allF_cons (FactOk.arrLd hl (getSome (show (cell).toNat < l.length by omega)) rfl rfl aggM sizeM rfl rfl rfl) allF_nil))))) allC_nil ?_ hh
      exact ostop_end e2 fun w2 hLow hIn => ⟨(by first | (rw [atM_in (by omega) (by omega)]; rfl) | (rw [atM_out (by omega)]; rfl)), hLow⟩   -- returns .agg ⟨[symv 4, symv 5, symv 6, symv 7, symv 8, symv 9, symv 10, symv 11]⟩
end RAtG
namespace FewG
noncomputable def body : Code := (Tryd.f10.body).getD .skip
def N : Nat := 20
noncomputable abbrev at' (N : Nat) (F : List (FOp × Value)) (C : List (FuncId × List Value × Value)) (c : Code) (s : ASt) : Option Stop := evalTo Tryd.prog F C N 1000 10 c s
noncomputable abbrev leave' (N : Nat) (F : List (FOp × Value)) (C : List (FuncId × List Value × Value)) (ks : List KI) (o : Option Stop) : Option Stop := evalLeave Tryd.prog F C N 1000 10 ks o
noncomputable abbrev unr' (N : Nat) (F : List (FOp × Value)) (C : List (FuncId × List Value × Value)) (m : Nat) (o : Option Stop) : Option Stop := evalUnroll Tryd.prog F C N 1000 10 m o
noncomputable abbrev res' (N : Nat) (F : List (FOp × Value)) (C : List (FuncId × List Value × Value)) (ks : List KI) (x : AX) (s : ASt) : Option Stop := evalRes Tryd.prog F C N 1000 10 ks x s
noncomputable abbrev ops' (N : Nat) (F : List (FOp × Value)) (C : List (FuncId × List Value × Value)) (r : List Oper) (ops : Array Oper) (ks : List KI) (s : ASt) : Option Stop := evalOps Tryd.prog F C N 1000 10 r ops ks s
def s0 : ASt := { sl := slots [(0, symv 0)], ms := [], A := start }
def F0 : List (FOp × Value) := [(.len #[22] 3 (symv 0), symv 1),
    (.bin .gtr 3 (symv 1) (.int .i64 300), .bool true)]
def C0 : List (FuncId × List Value × Value) := []
theorem e0 : endVal Tryd.prog Tryd.f10 (at' 20 F0 C0 body s0) = some (.bool false) := by kernel_rfl
def F1 : List (FOp × Value) := [(.len #[22] 3 (symv 0), symv 1),
    (.bin .gtr 3 (symv 1) (.int .i64 300), .bool false)]
def C1 : List (FuncId × List Value × Value) := []
noncomputable def bks0 : List Bk := []
def head0 : Sl := slots [(3, symv 2), (0, symv 0)]
noncomputable abbrev at0 := at' 20 F1 C1 body s0
theorem e1 : headObs head0 bks0 at0 = some [(symv 0, symv 0), (.int .i64 0, symv 2)] := by kernel_rfl
def F2 : List (FOp × Value) := [(.len #[22] 3 (symv 0), symv 1),
    (.bin .lss 3 (symv 2) (symv 1), .bool true),
    (.ixa 22 (symv 0) (symv 2), symv 3),
    (.fa 35 (symv 3) 0, symv 4),
    (.ld 9 (symv 4), symv 5),
    (.len #[9] 3 (symv 5), symv 6),
    (.bin .gtr 3 (symv 6) (.int .i64 60), .bool true)]
def C2 : List (FuncId × List Value × Value) := []
def F3 : List (FOp × Value) := []
def C3 : List (FuncId × List Value × Value) := []
theorem e2 : endVal Tryd.prog Tryd.f10 (leave' 20 F3 C3 (stopKs at0) (at' 20 F2 C2 (stopCode at0) (headSt head0 bks0))) = some (.bool false) := by kernel_rfl
def F4 : List (FOp × Value) := [(.len #[22] 3 (symv 0), symv 1),
    (.bin .lss 3 (symv 2) (symv 1), .bool true),
    (.ixa 22 (symv 0) (symv 2), symv 3),
    (.fa 35 (symv 3) 0, symv 4),
    (.ld 9 (symv 4), symv 5),
    (.len #[9] 3 (symv 5), symv 6),
    (.bin .gtr 3 (symv 6) (.int .i64 60), .bool false),
    (.bin .add 3 (symv 2) (.int .i64 1), symv 7)]
def C4 : List (FuncId × List Value × Value) := []
theorem e3 : backObs head0 bks0 (at' 20 F4 C4 (stopCode at0) (headSt head0 bks0)) = some [(symv 0, symv 0), (symv 7, symv 2)] := by kernel_rfl
def F5 : List (FOp × Value) := [(.len #[22] 3 (symv 0), symv 1),
    (.bin .lss 3 (symv 2) (symv 1), .bool false)]
def C5 : List (FuncId × List Value × Value) := []
theorem e4 : endVal Tryd.prog Tryd.f10 (leave' 20 F3 C3 (stopKs at0) (at' 20 F5 C5 (stopCode at0) (headSt head0 bks0))) = some (.bool true) := by kernel_rfl
@[reducible] noncomputable def vL (l : List Mt) (a_l : Option Addr) (c_l : Nat) (i : Nat) : List Value := [.slice a_l l.length c_l, .int .i64 ((l.length : Nat) : Int), .int .i64 ((i : Nat) : Int), cellPtr (.slice a_l l.length c_l) (i * 8), cellPtr (.slice a_l l.length c_l) (i * 8 + 0), strV (l.getD (i) default).1, .int .i64 (((l.getD (i) default).1.length : Nat) : Int), .int .i64 ((i + 1 : Nat) : Int)]
@[reducible] noncomputable def sg (M : Mem) (l : List Mt) (a_l : Option Addr) (c_l : Nat) (i : Nat) : Sig := sgL M (vL l a_l c_l i)
set_option maxHeartbeats 4000000 in
theorem any (W : World) {v_l : Value} {l : List Mt} (hl : Arr (heapOf W) 8 encM v_l l)  : Calls Tryd.prog 10 #[v_l] W fun e w' => e = .returned (.bool (decide (fewM l))) ∧ Low W.heap.size W w' := by
  obtain ⟨a_l, c_l, rfl⟩ := hl.slice
  refine @walk_enter (sg (heapOf W) l a_l c_l 0) Tryd.prog 10 Tryd.f10 body [symv 0] (slots [(0, symv 0)]) N W _ Tryd.func10 (by kernel_rfl) (by kernel_rfl) (by kernel_rfl) (by kernel_rfl) (immW_sgL W _) fun a hh => ?_
  letI := (sg (heapOf W) l a_l c_l 0)
  by_cases h0 : 300 < ((l.length : Nat) : Int)
  · refine walk_to (F := F0) (T := C0) (fuel := 1000) (d := 10) mixed (allF_cons (FactOk.arrLen hl rfl rfl underMl rfl rfl) (allF_cons (FactOk.bi rfl rfl rfl rfl rfl rfl (boolT (by omega))) allF_nil)) allC_nil ?_ hh
    exact ostop_end e0 fun w2 hLow hIn => ⟨(by first | (rw [decide_eq_false (fewM_long (by omega))]; rfl) | (rw [decide_eq_false (fewM_bad (i := i) (by omega) (by omega))]; rfl) | (rw [decide_eq_true (fewM_ok (by omega) (fun j h => hI.2 j (by omega)))]; rfl)), hLow⟩   -- returns .bool false
  · refine walk_to (F := F1) (T := C1) (fuel := 1000) (d := 10) mixed (allF_cons (FactOk.arrLen hl rfl rfl underMl rfl rfl) (allF_cons (FactOk.bi rfl rfl rfl rfl rfl rfl (boolF (by omega))) allF_nil)) allC_nil ?_ hh
    -- LOOP 0: slot 2 = .bool false is written in the loop: left out
    refine ostop_loop (sg := (fun i => sg (heapOf W) l a_l c_l i)) (fun i => i ≤ l.length ∧ ∀ j, j < i → (l.getD j default).1.length ≤ 60) (fun i => l.length - i) 0 e1 (meet_cons (by first | exact meetV (.slice a_l l.length c_l) rfl rfl | exact meetI rfl rfl (by omega)) (meet_cons (by first | rfl | exact meetInt (by omega)) meet_nil)) (fun _ _ h => h) (by exact ⟨Nat.zero_le _, fun j h => absurd h (Nat.not_lt_zero _)⟩) ?_
    intro i hI aC w hh
    letI := (sg (heapOf W) l a_l c_l i)
    by_cases p0 : ((i : Nat) : Int) < ((l.length : Nat) : Int)
    · by_cases p1 : 60 < (((l.getD (i) default).1.length : Nat) : Int)
      · refine walk_to (F := F2) (T := C2) (fuel := 1000) (d := 10) mixed (allF_cons (FactOk.arrLen hl rfl rfl underMl rfl rfl) (allF_cons (FactOk.bi rfl rfl rfl rfl rfl rfl (boolT (by omega))) (allF_cons (FactOk.arrIxa hl (show i < l.length by omega) rfl rfl rfl underMl sizeM rfl rfl rfl) (allF_cons (arrFaM0 hl (show i < l.length by omega) rfl rfl rfl rfl) (allF_cons (FactOk.arrLd1 (j := 0) hl (getSome (show i < l.length by omega)) rfl rfl aggStr rfl rfl rfl rfl) (allF_cons (FactOk.strLen rfl rfl underStr rfl rfl) (allF_cons (FactOk.bi rfl rfl rfl rfl rfl rfl (boolT (by omega))) allF_nil))))))) allC_nil ?_ hh
        refine walk_leave (F := F3) (T := C3) (fuel := 1000) (d := 10) mixed allF_nil allC_nil ?_
        exact ostop_end e2 fun w2 hLow hIn => ⟨(by first | (rw [decide_eq_false (fewM_long (by omega))]; rfl) | (rw [decide_eq_false (fewM_bad (i := i) (by omega) (by omega))]; rfl) | (rw [decide_eq_true (fewM_ok (by omega) (fun j h => hI.2 j (by omega)))]; rfl)), hLow⟩   -- returns .bool false
      · refine walk_to (F := F4) (T := C4) (fuel := 1000) (d := 10) mixed (allF_cons (FactOk.arrLen hl rfl rfl underMl rfl rfl) (allF_cons (FactOk.bi rfl rfl rfl rfl rfl rfl (boolT (by omega))) (allF_cons (FactOk.arrIxa hl (show i < l.length by omega) rfl rfl rfl underMl sizeM rfl rfl rfl) (allF_cons (arrFaM0 hl (show i < l.length by omega) rfl rfl rfl rfl) (allF_cons (FactOk.arrLd1 (j := 0) hl (getSome (show i < l.length by omega)) rfl rfl aggStr rfl rfl rfl rfl) (allF_cons (FactOk.strLen rfl rfl underStr rfl rfl) (allF_cons (FactOk.bi rfl rfl rfl rfl rfl rfl (boolF (by omega))) (allF_cons (FactOk.bi rfl rfl rfl rfl rfl rfl (intI (by omega) (by omega) (by omega))) allF_nil)))))))) allC_nil ?_ hh
        exact ostop_backM (s1 := (sg (heapOf W) l a_l c_l i)) (sg := (fun i => sg (heapOf W) l a_l c_l i)) (I := fun i => i ≤ l.length ∧ ∀ j, j < i → (l.getD j default).1.length ≤ 60) (μ := fun i => l.length - i) (x := i) (i + 1) e3 (meet_cons (by first | exact meetV (.slice a_l l.length c_l) rfl rfl | exact meetI rfl rfl (by omega)) (meet_cons (by first | exact meetV (.int .i64 ((i + 1 : Nat) : Int)) rfl rfl | exact meetI rfl rfl (by omega)) meet_nil)) (fun _ _ h => h) (by exact ⟨by omega, fun j h => by rcases Nat.lt_or_ge j i with h1 | h1; exact hI.2 j h1; rw [show j = i by omega]; omega⟩) (by (try dsimp only); omega)
    · refine walk_to (F := F5) (T := C5) (fuel := 1000) (d := 10) mixed (allF_cons (FactOk.arrLen hl rfl rfl underMl rfl rfl) (allF_cons (FactOk.bi rfl rfl rfl rfl rfl rfl (boolF (by omega))) allF_nil)) allC_nil ?_ hh
      refine walk_leave (F := F3) (T := C3) (fuel := 1000) (d := 10) mixed allF_nil allC_nil ?_
      exact ostop_end e4 fun w2 hLow hIn => ⟨(by first | (rw [decide_eq_false (fewM_long (by omega))]; rfl) | (rw [decide_eq_false (fewM_bad (i := i) (by omega) (by omega))]; rfl) | (rw [decide_eq_true (fewM_ok (by omega) (fun j h => hI.2 j (by omega)))]; rfl)), hLow⟩   -- returns .bool true
end FewG
namespace RFindG
noncomputable def body : Code := (Tryd.f18.body).getD .skip
def N : Nat := 21
noncomputable abbrev at' (N : Nat) (F : List (FOp × Value)) (C : List (FuncId × List Value × Value)) (c : Code) (s : ASt) : Option Stop := evalTo Tryd.prog F C N 1000 10 c s
noncomputable abbrev leave' (N : Nat) (F : List (FOp × Value)) (C : List (FuncId × List Value × Value)) (ks : List KI) (o : Option Stop) : Option Stop := evalLeave Tryd.prog F C N 1000 10 ks o
noncomputable abbrev unr' (N : Nat) (F : List (FOp × Value)) (C : List (FuncId × List Value × Value)) (m : Nat) (o : Option Stop) : Option Stop := evalUnroll Tryd.prog F C N 1000 10 m o
noncomputable abbrev res' (N : Nat) (F : List (FOp × Value)) (C : List (FuncId × List Value × Value)) (ks : List KI) (x : AX) (s : ASt) : Option Stop := evalRes Tryd.prog F C N 1000 10 ks x s
noncomputable abbrev ops' (N : Nat) (F : List (FOp × Value)) (C : List (FuncId × List Value × Value)) (r : List Oper) (ops : Array Oper) (ks : List KI) (s : ASt) : Option Stop := evalOps Tryd.prog F C N 1000 10 r ops ks s
def s0 : ASt := { sl := slots [(1, symv 1), (0, symv 0)], ms := [], A := start }
def F0 : List (FOp × Value) := []
def C0 : List (FuncId × List Value × Value) := []
noncomputable def bks0 : List Bk := []
def head0 : Sl := slots [(6, symv 2), (1, symv 1), (0, symv 0)]
noncomputable abbrev at0 := at' 21 F0 C0 body s0
theorem e0 : headObs head0 bks0 at0 = some [(symv 0, symv 0), (symv 1, symv 1), (.int .i64 0, symv 2)] := by kernel_rfl
def F1 : List (FOp × Value) := [(.len #[22] 3 (symv 0), symv 3),
    (.bin .lss 3 (symv 2) (symv 3), .bool true),
    (.ixa 22 (symv 0) (symv 2), symv 4),
    (.fa 35 (symv 4) 0, symv 5),
    (.ld 9 (symv 5), symv 6),
    (.bin .eql 9 (symv 6) (symv 1), .bool true)]
def C1 : List (FuncId × List Value × Value) := []
theorem e1 : endVal Tryd.prog Tryd.f18 (leave' 21 F0 C0 (stopKs at0) (at' 21 F1 C1 (stopCode at0) (headSt head0 bks0))) = some (.tuple ⟨[symv 2, .bool true]⟩) := by kernel_rfl
def F2 : List (FOp × Value) := [(.len #[22] 3 (symv 0), symv 3),
    (.bin .lss 3 (symv 2) (symv 3), .bool true),
    (.ixa 22 (symv 0) (symv 2), symv 4),
    (.fa 35 (symv 4) 0, symv 5),
    (.ld 9 (symv 5), symv 6),
    (.bin .eql 9 (symv 6) (symv 1), .bool false),
    (.bin .add 3 (symv 2) (.int .i64 1), symv 7)]
def C2 : List (FuncId × List Value × Value) := []
theorem e2 : backObs head0 bks0 (at' 21 F2 C2 (stopCode at0) (headSt head0 bks0)) = some [(symv 0, symv 0), (symv 1, symv 1), (symv 7, symv 2)] := by kernel_rfl
def F3 : List (FOp × Value) := [(.len #[22] 3 (symv 0), symv 3),
    (.bin .lss 3 (symv 2) (symv 3), .bool false)]
def C3 : List (FuncId × List Value × Value) := []
theorem e3 : endVal Tryd.prog Tryd.f18 (leave' 21 F0 C0 (stopKs at0) (at' 21 F3 C3 (stopCode at0) (headSt head0 bks0))) = some (.tuple ⟨[.int .i64 0, .bool false]⟩) := by kernel_rfl
@[reducible] noncomputable def vL (l : List Mt) (a_l : Option Addr) (c_l : Nat) (name : Bs) (i : Nat) : List Value := [.slice a_l l.length c_l, strV name, .int .i64 ((i : Nat) : Int), .int .i64 ((l.length : Nat) : Int), cellPtr (.slice a_l l.length c_l) (i * 8), cellPtr (.slice a_l l.length c_l) (i * 8 + 0), strV (l.getD (i) default).1, .int .i64 ((i + 1 : Nat) : Int)]
@[reducible] noncomputable def sg (M : Mem) (l : List Mt) (a_l : Option Addr) (c_l : Nat) (name : Bs) (i : Nat) : Sig := sgL M (vL l a_l c_l name i)
set_option maxHeartbeats 4000000 in
theorem any (W : World) {v_l : Value} {l : List Mt} (hl : Arr (heapOf W) 8 encM v_l l) (name : Bs) (hn : l.length ≤ 1000000) : Calls Tryd.prog 18 #[v_l, strV name] W fun e w' => e = .returned (.tuple #[.int .i64 (max 0 (idxN l name)), .bool (decide (0 ≤ idxN l name))]) ∧ Low W.heap.size W w' := by
  obtain ⟨a_l, c_l, rfl⟩ := hl.slice
  refine @walk_enter (sg (heapOf W) l a_l c_l name 0) Tryd.prog 18 Tryd.f18 body [symv 0, symv 1] (slots [(1, symv 1), (0, symv 0)]) N W _ Tryd.func18 (by kernel_rfl) (by kernel_rfl) (by kernel_rfl) (by kernel_rfl) (immW_sgL W _) fun a hh => ?_
  letI := (sg (heapOf W) l a_l c_l name 0)
  refine walk_to (F := F0) (T := C0) (fuel := 1000) (d := 10) mixed allF_nil allC_nil ?_ hh
  -- LOOP 0: slot 4 = .int .i64 0 is written in the loop: left out
  -- LOOP 0: slot 5 = .bool false is written in the loop: left out
  refine ostop_loop (sg := (fun i => sg (heapOf W) l a_l c_l name i)) (fun i => i ≤ l.length ∧ ∀ j, j < i → ¬ (l.getD j default).1 = name) (fun i => l.length - i) 0 e0 (meet_cons (by first | exact meetV (.slice a_l l.length c_l) rfl rfl | exact meetI rfl rfl (by omega)) (meet_cons (by exact meetV (strV name) rfl rfl) (meet_cons (by first | rfl | exact meetInt (by omega)) meet_nil))) (fun _ _ h => h) (by exact ⟨Nat.zero_le _, fun j h => absurd h (Nat.not_lt_zero _)⟩) ?_
  intro i hI aC w hh
  letI := (sg (heapOf W) l a_l c_l name i)
  by_cases p0 : ((i : Nat) : Int) < ((l.length : Nat) : Int)
  · by_cases p1 : (l.getD (i) default).1 = name
    · refine walk_to (F := F1) (T := C1) (fuel := 1000) (d := 10) mixed (allF_cons (FactOk.arrLen hl rfl rfl underMl rfl rfl) (allF_cons (FactOk.bi rfl rfl rfl rfl rfl rfl (boolT (by omega))) (allF_cons (FactOk.arrIxa hl (show i < l.length by omega) rfl rfl rfl underMl sizeM rfl rfl rfl) (allF_cons (arrFaM0 hl (show i < l.length by omega) rfl rfl rfl rfl) (allF_cons (FactOk.arrLd1 (j := 0) hl (getSome (show i < l.length by omega)) rfl rfl aggStr rfl rfl rfl rfl) (allF_cons (FactOk.strEqT rfl rfl rfl rfl p1) allF_nil)))))) allC_nil ?_ hh
      refine walk_leave (F := F0) (T := C0) (fuel := 1000) (d := 10) mixed allF_nil allC_nil ?_
      exact ostop_end e1 fun w2 hLow hIn => ⟨(by first | (rw [idxN_at hI.2 (by omega) p1, Int.max_eq_right (by omega), decide_eq_true (by omega)]; rfl) | (rw [idxN_none (fun j h => hI.2 j (by omega))]; rfl)), hLow⟩   -- returns .tuple ⟨[symv 2, .bool true]⟩
    · refine walk_to (F := F2) (T := C2) (fuel := 1000) (d := 10) mixed (allF_cons (FactOk.arrLen hl rfl rfl underMl rfl rfl) (allF_cons (FactOk.bi rfl rfl rfl rfl rfl rfl (boolT (by omega))) (allF_cons (FactOk.arrIxa hl (show i < l.length by omega) rfl rfl rfl underMl sizeM rfl rfl rfl) (allF_cons (arrFaM0 hl (show i < l.length by omega) rfl rfl rfl rfl) (allF_cons (FactOk.arrLd1 (j := 0) hl (getSome (show i < l.length by omega)) rfl rfl aggStr rfl rfl rfl rfl) (allF_cons (FactOk.strEqF rfl rfl rfl rfl p1) (allF_cons (FactOk.bi rfl rfl rfl rfl rfl rfl (intI (by omega) (by omega) (by omega))) allF_nil))))))) allC_nil ?_ hh
      exact ostop_backM (s1 := (sg (heapOf W) l a_l c_l name i)) (sg := (fun i => sg (heapOf W) l a_l c_l name i)) (I := fun i => i ≤ l.length ∧ ∀ j, j < i → ¬ (l.getD j default).1 = name) (μ := fun i => l.length - i) (x := i) (i + 1) e2 (meet_cons (by first | exact meetV (.slice a_l l.length c_l) rfl rfl | exact meetI rfl rfl (by omega)) (meet_cons (by exact meetV (strV name) rfl rfl) (meet_cons (by first | exact meetV (.int .i64 ((i + 1 : Nat) : Int)) rfl rfl | exact meetI rfl rfl (by omega)) meet_nil))) (fun _ _ h => h) (by exact ⟨by omega, fun j h => by rcases Nat.lt_or_ge j i with h1 | h1; exact hI.2 j h1; rw [show j = i by omega]; exact p1⟩) (by (try dsimp only); omega)
  · refine walk_to (F := F3) (T := C3) (fuel := 1000) (d := 10) mixed (allF_cons (FactOk.arrLen hl rfl rfl underMl rfl rfl) (allF_cons (FactOk.bi rfl rfl rfl rfl rfl rfl (boolF (by omega))) allF_nil)) allC_nil ?_ hh
    refine walk_leave (F := F0) (T := C0) (fuel := 1000) (d := 10) mixed allF_nil allC_nil ?_
    exact ostop_end e3 fun w2 hLow hIn => ⟨(by first | (rw [idxN_at hI.2 (by omega) p1, Int.max_eq_right (by omega), decide_eq_true (by omega)]; rfl) | (rw [idxN_none (fun j h => hI.2 j (by omega))]; rfl)), hLow⟩   -- returns .tuple ⟨[.int .i64 0, .bool false]⟩
end RFindG
end AE
end Go.Proofs.YtblhndlmgibljaaDoor

/- AE: a call that is entered: its frame waits. -/
namespace Go.Proofs.YtblhndlmgibljaaDoor
open Go Go.RowKit
namespace AE

/-- What is called: the function, its arguments, the blocks. -/
def enterD (P : Program) [Lib P] (o : Option Stop) : FuncId × List Value × AS := (enterAt P o).getD (0, [], start)
/-- The state in which it begins. -/
def enterSt (P : Program) [Lib P] (o : Option Stop) : ASt := { sl := (setArgs 0 (enterD P o).2.1 .nil).getD .nil, ms := [], A := (enterD P o).2.2 }

theorem ostop_enterX {s1 : Sig} [Outer] {P : Program} [Lib P] {N B : Nat} {w0 : World} {Q : Exit → Act → World → Prop} {o : Option Stop} {fn : Func} {c : Code} (N' n : Nat) {Y : Type} (sgR : Y → Sig) (R : Y → Prop) (vR : Value) (bksR : List Bk) (sl2 sl3 : Sl) {obs : Obs}
    (h : (enterAt P o).isSome = true) (hf : P.funcs[(enterD P o).1]? = some fn) (hc : fn.body = some c) (hsl : (setArgs 0 (enterD P o).2.1 .nil).isSome = true) (hN : (enterD P o).2.1.length + (fn.ntmps - (enterD P o).2.1.length) = N') (hn : (enterD P o).2.2.n = n)
    (htr : trT n (stopSt o).sl sl2 = some obs) (hput : aput N sl2 (stopDst o) vR = some sl3) (hm : ∀ y, R y → Meet s1 (sgR y) obs)
    (hbody : ∀ φ a w, @Here s1 ⟨φ, n⟩ N' (enterSt P o) B w0 a w → c.wpIn (Fr none) 0 P (@EndX ⟨φ, n⟩ P fn N' B w0 (@RetS ⟨φ, n⟩ Y sgR R vR bksR B w0)) a w)
    (rest : ∀ y, R y → ∀ a w, @Here (sgR y) _ N { sl := sl3, ms := (stopSt o).ms, A := mkAS bksR } B w0 a w → wpListIn (Fr none) 0 P (stopOps o) (KQ P (stopKs o) Q) (stopRest o) a w) : @OStop s1 _ P N B w0 Q o := by
  subst hn
  letI := s1
  exact ostop_enter (sgR := sgR) (R := R) (vR := vR) (bksR := bksR) (some_getD h) (CallsS.of hf hc (some_getD hsl) hN hbody) htr hm hput rest
end AE
end Go.Proofs.YtblhndlmgibljaaDoor

/- the walk of Find -/
namespace Go.Proofs.YtblhndlmgibljaaDoor
open Go Go.Proofs Go.RowKit
set_option maxRecDepth 100000
namespace AE
namespace FindG
noncomputable def body : Code := (Tryd.f17.body).getD .skip
def N : Nat := 14
noncomputable abbrev at' (N : Nat) (F : List (FOp × Value)) (C : List (FuncId × List Value × Value)) (c : Code) (s : ASt) : Option Stop := evalTo Tryd.prog F C N 1000 10 c s
noncomputable abbrev leave' (N : Nat) (F : List (FOp × Value)) (C : List (FuncId × List Value × Value)) (ks : List KI) (o : Option Stop) : Option Stop := evalLeave Tryd.prog F C N 1000 10 ks o
noncomputable abbrev unr' (N : Nat) (F : List (FOp × Value)) (C : List (FuncId × List Value × Value)) (m : Nat) (o : Option Stop) : Option Stop := evalUnroll Tryd.prog F C N 1000 10 m o
noncomputable abbrev res' (N : Nat) (F : List (FOp × Value)) (C : List (FuncId × List Value × Value)) (ks : List KI) (x : AX) (s : ASt) : Option Stop := evalRes Tryd.prog F C N 1000 10 ks x s
noncomputable abbrev ops' (N : Nat) (F : List (FOp × Value)) (C : List (FuncId × List Value × Value)) (r : List Oper) (ops : Array Oper) (ks : List KI) (s : ASt) : Option Stop := evalOps Tryd.prog F C N 1000 10 r ops ks s
def s0 : ASt := { sl := slots [(1, symv 1), (0, symv 0)], ms := [], A := start }
def F0 : List (FOp × Value) := []
def C0 : List (FuncId × List Value × Value) := []
noncomputable abbrev ra0 := at' 14 F0 C0 body s0
noncomputable def bc0 : Code := (Tryd.f39.body).getD .skip
noncomputable def rb0 : List Bk := [⟨.cells [symv 1], 9, 0⟩]
def rs0 : Sl := slots [(5, .bool false), (4, .int .i64 0)]
def rp0 : Sl := match aput 14 rs0 (some 9) (symv 2) with | some s => s | none => .nil
theorem e0 : (enterAt Tryd.prog ra0).isSome = true := by kernel_rfl
theorem e1 : (enterD Tryd.prog ra0).1 = 39 := by kernel_rfl
theorem e2 : (setArgs 0 (enterD Tryd.prog ra0).2.1 .nil).isSome = true := by kernel_rfl
theorem e3 : (enterD Tryd.prog ra0).2.1.length + (Tryd.f39.ntmps - (enterD Tryd.prog ra0).2.1.length) = 19 := by kernel_rfl
theorem e4 : (enterD Tryd.prog ra0).2.2.n = 1 := by kernel_rfl
theorem e5 : trT 1 (stopSt ra0).sl rs0 = some [] := by kernel_rfl
theorem e6 : aput 14 rs0 (stopDst ra0) (symv 2) = some rp0 := by kernel_rfl
def F1 : List (FOp × Value) := [(.len #[22] 3 (symv 0), symv 3)]
def C1 : List (FuncId × List Value × Value) := []
noncomputable def bks0 : List Bk := [⟨.cells [symv 1], 9, 0⟩]
def head0 : Sl := slots [(8, symv 4), (7, symv 3), (1, .func (.func 40) ⟨[]⟩ ⟨[.pointer (some ⟨0, 0, none⟩)]⟩), (0, symv 0)]
noncomputable abbrev at0 := at' 19 F1 C1 bc0 (enterSt Tryd.prog ra0)
theorem e7 : headObs head0 bks0 at0 = some [(symv 0, symv 0), (symv 3, symv 3), (.int .i64 0, symv 4), (symv 1, symv 1)] := by kernel_rfl
def F2 : List (FOp × Value) := [(.bin .lss 3 (symv 4) (symv 3), .bool true),
    (.ixa 22 (symv 0) (symv 4), symv 5),
    (.ld 35 (symv 5), .agg ⟨[symv 6, symv 7, symv 8, symv 9, symv 10, symv 11, symv 12, symv 13]⟩),
    (.bin .eql 9 (symv 6) (symv 1), .bool true)]
def C2 : List (FuncId × List Value × Value) := []
theorem e8 : retObs Tryd.prog Tryd.f39 (symv 2) rb0 (leave' 19 F0 C0 (stopKs at0) (at' 19 F2 C2 (stopCode at0) (headSt head0 bks0))) = some [(symv 4, symv 2), (symv 1, symv 1)] := by kernel_rfl
def F3 : List (FOp × Value) := [(.bin .lss 3 (symv 4) (symv 3), .bool true),
    (.ixa 22 (symv 0) (symv 4), symv 5),
    (.ld 35 (symv 5), .agg ⟨[symv 6, symv 7, symv 8, symv 9, symv 10, symv 11, symv 12, symv 13]⟩),
    (.bin .eql 9 (symv 6) (symv 1), .bool false),
    (.bin .add 3 (symv 4) (.int .i64 1), symv 14)]
def C3 : List (FuncId × List Value × Value) := []
theorem e9 : backObs head0 bks0 (at' 19 F3 C3 (stopCode at0) (headSt head0 bks0)) = some [(symv 0, symv 0), (symv 3, symv 3), (symv 14, symv 4), (symv 1, symv 1)] := by kernel_rfl
def F4 : List (FOp × Value) := [(.bin .lss 3 (symv 4) (symv 3), .bool false)]
def C4 : List (FuncId × List Value × Value) := []
theorem e10 : retObs Tryd.prog Tryd.f39 (symv 2) rb0 (leave' 19 F0 C0 (stopKs at0) (at' 19 F4 C4 (stopCode at0) (headSt head0 bks0))) = some [(.int .i64 (-1), symv 2), (symv 1, symv 1)] := by kernel_rfl
def F5 : List (FOp × Value) := [(.mx #[3, 3] 3 (.int .i64 0) (symv 2), symv 15),
    (.bin .geq 3 (symv 2) (.int .i64 0), .bool true)]
def C5 : List (FuncId × List Value × Value) := []
theorem e11 : endVal Tryd.prog Tryd.f17 (ops' 14 F5 C5 (stopRest ra0) (stopOps ra0) (stopKs ra0) { sl := rp0, ms := (stopSt ra0).ms, A := mkAS rb0 }) = some (.tuple ⟨[symv 15, .bool true]⟩) := by kernel_rfl
def F6 : List (FOp × Value) := [(.mx #[3, 3] 3 (.int .i64 0) (symv 2), symv 15),
    (.bin .geq 3 (symv 2) (.int .i64 0), .bool false)]
def C6 : List (FuncId × List Value × Value) := []
theorem e12 : endVal Tryd.prog Tryd.f17 (ops' 14 F6 C6 (stopRest ra0) (stopOps ra0) (stopKs ra0) { sl := rp0, ms := (stopSt ra0).ms, A := mkAS rb0 }) = some (.tuple ⟨[symv 15, .bool false]⟩) := by kernel_rfl
@[reducible] noncomputable def vL (l : List Mt) (a_l : Option Addr) (c_l : Nat) (name : Bs) (i : Nat) (r : Int) : List Value := [.slice a_l l.length c_l, strV name, .int .i64 r, .int .i64 ((l.length : Nat) : Int), .int .i64 ((i : Nat) : Int), cellPtr (.slice a_l l.length c_l) (i * 8), strV (l.getD (i) default).1, .bool (l.getD (i) default).2.1, .bool (l.getD (i) default).2.2.1, .bool (l.getD (i) default).2.2.2.1, .int .i64 (l.getD (i) default).2.2.2.2.1, .int .i64 (l.getD (i) default).2.2.2.2.2.1, .int .i64 (l.getD (i) default).2.2.2.2.2.2.1, .int .i64 (l.getD (i) default).2.2.2.2.2.2.2, .int .i64 ((i + 1 : Nat) : Int), .int .i64 (max 0 r)]
@[reducible] noncomputable def sg (M : Mem) (l : List Mt) (a_l : Option Addr) (c_l : Nat) (name : Bs) (i : Nat) (r : Int) : Sig := sgL M (vL l a_l c_l name i r)
set_option maxHeartbeats 4000000 in
theorem any (W : World) {v_l : Value} {l : List Mt} (hl : Arr (heapOf W) 8 encM v_l l) (name : Bs) (hn : l.length ≤ 1000000) : Calls Tryd.prog 17 #[v_l, strV name] W fun e w' => e = .returned (.tuple #[.int .i64 (max 0 (idxN l name)), .bool (decide (0 ≤ idxN l name))]) ∧ Low W.heap.size W w' := by
  obtain ⟨a_l, c_l, rfl⟩ := hl.slice
  refine @walk_enter (sg (heapOf W) l a_l c_l name 0 0) Tryd.prog 17 Tryd.f17 body [symv 0, symv 1] (slots [(1, symv 1), (0, symv 0)]) N W _ Tryd.func17 (by kernel_rfl) (by kernel_rfl) (by kernel_rfl) (by kernel_rfl) (immW_sgL W _) fun a hh => ?_
  letI := (sg (heapOf W) l a_l c_l name 0 0)
  have hb := idxN_bound l name
  refine walk_to (F := F0) (T := C0) (fuel := 1000) (d := 10) mixed allF_nil allC_nil ?_ hh
  refine ostop_enterX (N' := 19) (n := 1) (fn := Tryd.f39) (c := bc0) (sgR := fun (r : Int) => (sg (heapOf W) l a_l c_l name 0 r)) (R := fun (r : Int) => r = idxN l name) (vR := symv 2) (bksR := rb0) (sl2 := rs0) (sl3 := rp0) e0 ((congrArg (fun f => Tryd.prog.funcs[f]?) e1).trans Tryd.func39) (by kernel_rfl) e2 e3 e4 e5 e6 (fun r _ => meet_nil) ?_ ?_
  · intro φ aC w hh
    letI : Outer := ⟨φ, 1⟩
    refine walk_to (F := F1) (T := C1) (fuel := 1000) (d := 10) mixed (allF_cons (FactOk.arrLen hl rfl rfl underMl rfl rfl) allF_nil) allC_nil ?_ hh
    -- LOOP 0: slot 4 = .int .i64 0 is written in the loop: left out
    refine ostop_loop (sg := (fun i => sg (heapOf W) l a_l c_l name i 0)) (fun i => i ≤ l.length ∧ ∀ j, j < i → ¬ (l.getD j default).1 = name) (fun i => l.length - i) 0 e7 (meet_cons (by first | exact meetV (.slice a_l l.length c_l) rfl rfl | exact meetI rfl rfl (by omega)) (meet_cons (by first | exact meetV (.int .i64 ((l.length : Nat) : Int)) rfl rfl | exact meetI rfl rfl (by omega)) (meet_cons (by first | rfl | exact meetInt (by omega)) (meet_cons (by exact meetV (strV name) rfl rfl) meet_nil)))) (fun _ _ h => h) (by exact ⟨Nat.zero_le _, fun j h => absurd h (Nat.not_lt_zero _)⟩) ?_
    intro i hI aC w hh
    letI := (sg (heapOf W) l a_l c_l name i 0)
    by_cases q0 : ((i : Nat) : Int) < ((l.length : Nat) : Int)
    · by_cases q1 : (l.getD (i) default).1 = name
      · refine walk_to (F := F2) (T := C2) (fuel := 1000) (d := 10) mixed (allF_cons (FactOk.bi rfl rfl rfl rfl rfl rfl (boolT (by omega))) (allF_cons (FactOk.arrIxa hl (show i < l.length by omega) rfl rfl rfl underMl sizeM rfl rfl rfl) (allF_cons (FactOk.arrLd hl (getSome (show i < l.length by omega)) rfl rfl aggM sizeM rfl rfl rfl) (allF_cons (FactOk.strEqT rfl rfl rfl rfl q1) allF_nil)))) allC_nil ?_ hh
        refine walk_leave (F := F0) (T := C0) (fuel := 1000) (d := 10) mixed allF_nil allC_nil ?_
        exact ostop_ret (s1 := (sg (heapOf W) l a_l c_l name i 0)) (sgR := fun (r : Int) => (sg (heapOf W) l a_l c_l name 0 r)) (R := fun (r : Int) => r = idxN l name) ((i : Nat) : Int) e8 (meet_cons (by first | exact meetV (.int .i64 ((i : Nat) : Int)) rfl rfl | exact meetI rfl rfl (by omega)) (meet_cons (by exact meetV (strV name) rfl rfl) meet_nil)) (fun _ _ h => h) (by first | exact (idxN_at hI.2 (by omega) q1).symm | exact (idxN_none (fun j h => hI.2 j (by omega))).symm) (Nat.le_of_ble_eq_true rfl) ⟨trivial, trivial⟩
      · refine walk_to (F := F3) (T := C3) (fuel := 1000) (d := 10) mixed (allF_cons (FactOk.bi rfl rfl rfl rfl rfl rfl (boolT (by omega))) (allF_cons (FactOk.arrIxa hl (show i < l.length by omega) rfl rfl rfl underMl sizeM rfl rfl rfl) (allF_cons (FactOk.arrLd hl (getSome (show i < l.length by omega)) rfl rfl aggM sizeM rfl rfl rfl) (allF_cons (FactOk.strEqF rfl rfl rfl rfl q1) (allF_cons (FactOk.bi rfl rfl rfl rfl rfl rfl (intI (by omega) (by omega) (by omega))) allF_nil))))) allC_nil ?_ hh
        exact ostop_backM (s1 := (sg (heapOf W) l a_l c_l name i 0)) (sg := (fun i => sg (heapOf W) l a_l c_l name i 0)) (I := fun i => i ≤ l.length ∧ ∀ j, j < i → ¬ (l.getD j default).1 = name) (μ := fun i => l.length - i) (x := i) (i + 1) e9 (meet_cons (by first | exact meetV (.slice a_l l.length c_l) rfl rfl | exact meetI rfl rfl (by omega)) (meet_cons (by first | exact meetV (.int .i64 ((l.length : Nat) : Int)) rfl rfl | exact meetI rfl rfl (by omega)) (meet_cons (by first | exact meetV (.int .i64 ((i + 1 : Nat) : Int)) rfl rfl | exact meetI rfl rfl (by omega)) (meet_cons (by exact meetV (strV name) rfl rfl) meet_nil)))) (fun _ _ h => h) (by exact ⟨by omega, fun j h => by rcases Nat.lt_or_ge j i with h1 | h1; exact hI.2 j h1; rw [show j = i by omega]; exact q1⟩) (by (try dsimp only); omega)
    · refine walk_to (F := F4) (T := C4) (fuel := 1000) (d := 10) mixed (allF_cons (FactOk.bi rfl rfl rfl rfl rfl rfl (boolF (by omega))) allF_nil) allC_nil ?_ hh
      refine walk_leave (F := F0) (T := C0) (fuel := 1000) (d := 10) mixed allF_nil allC_nil ?_
      exact ostop_ret (s1 := (sg (heapOf W) l a_l c_l name i 0)) (sgR := fun (r : Int) => (sg (heapOf W) l a_l c_l name 0 r)) (R := fun (r : Int) => r = idxN l name) (-1) e10 (meet_cons (by first | rfl | exact meetInt (by omega)) (meet_cons (by exact meetV (strV name) rfl rfl) meet_nil)) (fun _ _ h => h) (by first | exact (idxN_at hI.2 (by omega) q1).symm | exact (idxN_none (fun j h => hI.2 j (by omega))).symm) (Nat.le_of_ble_eq_true rfl) ⟨trivial, trivial⟩
  · intro r hY0 aC w hh
    letI := (sg (heapOf W) l a_l c_l name 0 r)
    by_cases p0 : 0 ≤ r
    · refine walk_ops (F := F5) (T := C5) (fuel := 1000) (d := 10) mixed (allF_cons (FactOk.maxI rfl rfl rfl rfl rfl rfl) (allF_cons (FactOk.bi rfl rfl rfl rfl rfl rfl (boolT (by omega))) allF_nil)) allC_nil ?_ hh
      exact ostop_end e11 fun w2 hLow hIn => ⟨(by first | (rw [← hY0, decide_eq_true (by omega)]; rfl) | (rw [← hY0, decide_eq_false (by omega)]; rfl)), hLow⟩   -- returns .tuple ⟨[symv 15, .bool true]⟩
    · refine walk_ops (F := F6) (T := C6) (fuel := 1000) (d := 10) mixed (allF_cons (FactOk.maxI rfl rfl rfl rfl rfl rfl) (allF_cons (FactOk.bi rfl rfl rfl rfl rfl rfl (boolF (by omega))) allF_nil)) allC_nil ?_ hh
      exact ostop_end e12 fun w2 hLow hIn => ⟨(by first | (rw [← hY0, decide_eq_true (by omega)]; rfl) | (rw [← hY0, decide_eq_false (by omega)]; rfl)), hLow⟩   -- returns .tuple ⟨[symv 15, .bool false]⟩
end FindG
end AE
end Go.Proofs.YtblhndlmgibljaaDoor

/- What the functions of the materials answer, as facts for the walks of the laws. -/
namespace Go.Proofs.YtblhndlmgibljaaDoor
open Go Go.Proofs Go.RowKit
namespace AE
theorem fewM_len {l : List Mt} (h : fewM l) : l.length ≤ 1000000 := by have := h.1; omega
section
variable [Sig]
theorem callSanity (hK : KindsM Sig.imm) : CallFactOk Tryd.prog (9, [], .bool true) :=
  callAny (a := #[]) rfl rfl rfl rfl fun w hw => SanG.any w (hK.mono hw)
theorem callFewT {x : Value} {u : Value} {l : List Mt} (hp : plainSL [x] = true) (ev : interpL [x] = [u]) (hl : Arr Sig.imm 8 encM u l) (h : fewM l) : CallFactOk Tryd.prog (10, [x], .bool true) :=
  callAny (a := #[u]) hp rfl ev rfl fun w hw => (FewG.any w (hl.mono hw)).mono fun e w' h' => by rw [decide_eq_true h] at h'; exact h'
theorem callFewF {x : Value} {u : Value} {l : List Mt} (hp : plainSL [x] = true) (ev : interpL [x] = [u]) (hl : Arr Sig.imm 8 encM u l) (h : ¬ fewM l) : CallFactOk Tryd.prog (10, [x], .bool false) :=
  callAny (a := #[u]) hp rfl ev rfl fun w hw => (FewG.any w (hl.mono hw)).mono fun e w' h' => by rw [decide_eq_false h] at h'; exact h'
theorem callFind {x y r : Value} {u : Value} {l : List Mt} {name : Bs} (hp : plainSL [x, y] = true) (hr : plainS r = true) (ev : interpL [x, y] = [u, strV name]) (er : interp r = .tuple #[.int .i64 (max 0 (idxN l name)), .bool (decide (0 ≤ idxN l name))]) (hl : Arr Sig.imm 8 encM u l) (hn : l.length ≤ 1000000) : CallFactOk Tryd.prog (17, [x, y], r) :=
  callAny (a := #[u, strV name]) hp hr ev er fun w hw => FindG.any w (hl.mono hw) name hn
theorem callRFind {x y r : Value} {u : Value} {l : List Mt} {name : Bs} (hp : plainSL [x, y] = true) (hr : plainS r = true) (ev : interpL [x, y] = [u, strV name]) (er : interp r = .tuple #[.int .i64 (max 0 (idxN l name)), .bool (decide (0 ≤ idxN l name))]) (hl : Arr Sig.imm 8 encM u l) (hn : l.length ≤ 1000000) : CallFactOk Tryd.prog (18, [x, y], r) :=
  callAny (a := #[u, strV name]) hp hr ev er fun w hw => RFindG.any w (hl.mono hw) name hn
theorem callMAt {x y r : Value} {u : Value} {l : List Mt} {cell : Int} (hp : plainSL [x, y] = true) (hr : plainS r = true) (ev : interpL [x, y] = [u, .int .i64 cell]) (er : interp r = M.val (atM l cell)) (hl : Arr Sig.imm 8 encM u l) : CallFactOk Tryd.prog (41, [x, y], r) :=
  callAny (a := #[u, .int .i64 cell]) hp hr ev er fun w hw => AtG.any w (hl.mono hw) cell
theorem callRAt {x y r : Value} {u : Value} {l : List Mt} {cell : Int} (hp : plainSL [x, y] = true) (hr : plainS r = true) (ev : interpL [x, y] = [u, .int .i64 cell]) (er : interp r = M.val (atM l cell)) (hl : Arr Sig.imm 8 encM u l) : CallFactOk Tryd.prog (19, [x, y], r) :=
  callAny (a := #[u, .int .i64 cell]) hp hr ev er fun w hw => RAtG.any w (hl.mono hw) cell
end
end AE
end Go.Proofs.YtblhndlmgibljaaDoor

/- the walk of MaterialAnswersAsSpecified -/
namespace Go.Proofs.YtblhndlmgibljaaDoor
open Go Go.Proofs Go.RowKit
set_option maxRecDepth 100000
namespace AE
namespace AnswG
noncomputable def body : Code := (Tryd.f4.body).getD .skip
def N : Nat := 96
noncomputable abbrev at' (N : Nat) (F : List (FOp × Value)) (C : List (FuncId × List Value × Value)) (c : Code) (s : ASt) : Option Stop := evalTo Tryd.prog F C N 1000 10 c s
noncomputable abbrev leave' (N : Nat) (F : List (FOp × Value)) (C : List (FuncId × List Value × Value)) (ks : List KI) (o : Option Stop) : Option Stop := evalLeave Tryd.prog F C N 1000 10 ks o
noncomputable abbrev unr' (N : Nat) (F : List (FOp × Value)) (C : List (FuncId × List Value × Value)) (m : Nat) (o : Option Stop) : Option Stop := evalUnroll Tryd.prog F C N 1000 10 m o
noncomputable abbrev res' (N : Nat) (F : List (FOp × Value)) (C : List (FuncId × List Value × Value)) (ks : List KI) (x : AX) (s : ASt) : Option Stop := evalRes Tryd.prog F C N 1000 10 ks x s
noncomputable abbrev ops' (N : Nat) (F : List (FOp × Value)) (C : List (FuncId × List Value × Value)) (r : List Oper) (ops : Array Oper) (ks : List KI) (s : ASt) : Option Stop := evalOps Tryd.prog F C N 1000 10 r ops ks s
def s0 : ASt := { sl := slots [(2, symv 2), (1, symv 1), (0, symv 0)], ms := [], A := start }
def F0 : List (FOp × Value) := [(.len #[9] 3 (symv 1), symv 3),
    (.bin .gtr 3 (symv 3) (.int .i64 100), .bool true)]
def C0 : List (FuncId × List Value × Value) := [(9, [], .bool true),
    (10, [symv 0], .bool true)]
theorem e0 : endVal Tryd.prog Tryd.f4 (at' 96 F0 C0 body s0) = some (.bool true) := by kernel_rfl
def F1 : List (FOp × Value) := [(.len #[9] 3 (symv 1), symv 3),
    (.bin .gtr 3 (symv 3) (.int .i64 100), .bool false),
    (.bin .eql 3 (symv 4) (symv 4), .bool true),
    (.bin .eql 4 (symv 5) (symv 5), .bool true),
    (.bin .eql 4 (symv 7) (symv 7), .bool true),
    (.bin .eql 4 (symv 8) (symv 8), .bool true),
    (.bin .eql 4 (symv 9) (symv 9), .bool true),
    (.bin .eql 3 (symv 10) (symv 10), .bool true),
    (.bin .eql 33 (.agg ⟨[symv 11, symv 12, symv 13]⟩) (.agg ⟨[symv 11, symv 12, symv 13]⟩), .bool true)]
def C1 : List (FuncId × List Value × Value) := [(9, [], .bool true),
    (10, [symv 0], .bool true),
    (17, [symv 0, symv 1], .tuple ⟨[symv 4, symv 5]⟩),
    (18, [symv 0, symv 1], .tuple ⟨[symv 4, symv 5]⟩),
    (19, [symv 0, symv 2], .agg ⟨[symv 6, symv 7, symv 8, symv 9, symv 10, symv 11, symv 12, symv 13]⟩),
    (41, [symv 0, symv 2], .agg ⟨[symv 6, symv 7, symv 8, symv 9, symv 10, symv 11, symv 12, symv 13]⟩)]
theorem e1 : endVal Tryd.prog Tryd.f4 (at' 96 F1 C1 body s0) = some (.bool true) := by kernel_rfl
def F2 : List (FOp × Value) := []
def C2 : List (FuncId × List Value × Value) := [(9, [], .bool true),
    (10, [symv 0], .bool false)]
theorem e2 : endVal Tryd.prog Tryd.f4 (at' 96 F2 C2 body s0) = some (.bool true) := by kernel_rfl
@[reducible] noncomputable def vL (l : List Mt) (a_l : Option Addr) (c_l : Nat) (name : Bs) (cell : Int) : List Value := [.slice a_l l.length c_l, strV name, .int .i64 cell, .int .i64 ((name.length : Nat) : Int), .int .i64 (max 0 (idxN l name)), .bool (decide (0 ≤ idxN l name)), strV (atM l cell).1, .bool (atM l cell).2.1, .bool (atM l cell).2.2.1, .bool (atM l cell).2.2.2.1, .int .i64 (atM l cell).2.2.2.2.1, .int .i64 (atM l cell).2.2.2.2.2.1, .int .i64 (atM l cell).2.2.2.2.2.2.1, .int .i64 (atM l cell).2.2.2.2.2.2.2]
@[reducible] noncomputable def sg (M : Mem) (l : List Mt) (a_l : Option Addr) (c_l : Nat) (name : Bs) (cell : Int) : Sig := sgL M (vL l a_l c_l name cell)
set_option maxHeartbeats 4000000 in
theorem any (W : World) {v_l : Value} {l : List Mt} (hl : Arr (heapOf W) 8 encM v_l l) (name : Bs) (cell : Int) (hK : KindsM (heapOf W)) : Calls Tryd.prog 4 #[v_l, strV name, .int .i64 cell] W fun e w' => e = .returned (.bool true) ∧ Low W.heap.size W w' := by
  obtain ⟨a_l, c_l, rfl⟩ := hl.slice
  refine @walk_enter (sg (heapOf W) l a_l c_l name cell ) Tryd.prog 4 Tryd.f4 body [symv 0, symv 1, symv 2] (slots [(2, symv 2), (1, symv 1), (0, symv 0)]) N W _ Tryd.func4 (by kernel_rfl) (by kernel_rfl) (by kernel_rfl) (by kernel_rfl) (immW_sgL W _) fun a hh => ?_
  letI := (sg (heapOf W) l a_l c_l name cell )
  by_cases h0 : fewM l
  · by_cases h1 : 100 < ((name.length : Nat) : Int)
    · refine walk_to (F := F0) (T := C0) (fuel := 1000) (d := 10) mixed (allF_cons (FactOk.strLen rfl rfl underStr rfl rfl) (allF_cons (FactOk.bi rfl rfl rfl rfl rfl rfl (boolT (by omega))) allF_nil)) (allC_cons (callSanity hK) (allC_cons (callFewT rfl rfl hl h0) allC_nil)) ?_ hh
      exact ostop_end e0 fun w2 hLow hIn => ⟨(by rfl), hLow⟩   -- returns .bool true
    · refine walk_to (F := F1) (T := C1) (fuel := 1000) (d := 10) mixed (allF_cons (FactOk.strLen rfl rfl underStr rfl rfl) (allF_cons (FactOk.bi rfl rfl rfl rfl rfl rfl (boolF (by omega))) (allF_cons (FactOk.bi rfl rfl rfl rfl rfl rfl (boolT (by omega))) (allF_cons (FactOk.boolEq underBool rfl rfl rfl rfl (by simp)) (allF_cons (FactOk.boolEq underBool rfl rfl rfl rfl (by simp)) (allF_cons (FactOk.boolEq underBool rfl rfl rfl rfl (by simp)) (allF_cons (FactOk.boolEq underBool rfl rfl rfl rfl (by simp)) (allF_cons (FactOk.bi rfl rfl rfl rfl rfl rfl (boolT (by omega))) (allF_cons (eqE rfl rfl rfl rfl (decide_eq_true rfl).symm) allF_nil))))))))) (allC_cons (callSanity hK) (allC_cons (callFewT rfl rfl hl h0) (allC_cons (callFind rfl rfl rfl rfl hl (fewM_len ‹_›)) (allC_cons (callRFind rfl rfl rfl rfl hl (fewM_len ‹_›)) (allC_cons (callRAt rfl rfl rfl rfl hl) (allC_cons (callMAt rfl rfl rfl rfl hl) allC_nil)))))) ?_ hh
      exact ostop_end e1 fun w2 hLow hIn => ⟨(by rfl), hLow⟩   -- returns .bool true
  · refine walk_to (F := F2) (T := C2) (fuel := 1000) (d := 10) mixed allF_nil (allC_cons (callSanity hK) (allC_cons (callFewF rfl rfl hl h0) allC_nil)) ?_ hh
    exact ostop_end e2 fun w2 hLow hIn => ⟨(by rfl), hLow⟩   -- returns .bool true
end AnswG
end AE
end Go.Proofs.YtblhndlmgibljaaDoor

namespace Go.Proofs.YtblhndlmgibljaaDoor
open Go Go.ChangeShapes Go.WideShapes Go.ChangeAt Go.RowKit
set_option maxRecDepth 100000

theorem materialAnswersAsSpecified_laid (os : Os) (args : Array Value) : laidMetH Tryd.prog Rows.materialAnswersAsSpecifiedRow.laid ((World.laidAll Tryd.prog os Rows.materialAnswersAsSpecifiedRow.laid).forCall (fun _ _ => 0) ⟨#[], args, []⟩).memory := by
  rw [MakeChecks.laidMetH_plain _ _ _ (by kernel_rfl)]
  exact laidMet_laidAll _ (by kernel_rfl) (by kernel_rfl)

theorem materialAnswersAsSpecified_lifted (os : Os) (started : os.Started) (H : Type) (enc : TypeId × Value → H) :
    ReturnsInHanded {} Tryd.checked os 4 .any (fun w args => (Rows.materialAnswersAsSpecifiedSpec.pre enc Tryd.prog Tryd.f4 [] false w args ∧ laidMetH Tryd.prog Rows.materialAnswersAsSpecifiedRow.laid w) ∧ sizedMet enc Tryd.prog Tryd.f4 (OpenSpec.ofChange Rows.materialAnswersAsSpecifiedSpec) false w args)
      (Rows.materialAnswersAsSpecifiedSpec.post enc Tryd.prog Tryd.f4 false true false false) := by
  refine returnsInHanded_of_change_and (C := Tryd.checked) (X := fun w _ => laidMetH Tryd.prog Rows.materialAnswersAsSpecifiedRow.laid w) (fun _ _ _ hh h => h.of_heap hh) own started (by kernel_rfl) Tryd.func4
    (ChangeSpec.witness_shaped (enc := enc) (C := Tryd.checked) (os := os) (X := fun w _ => laidMetH Tryd.prog Rows.materialAnswersAsSpecifiedRow.laid w) false (World.laidAll Tryd.prog os Rows.materialAnswersAsSpecifiedRow.laid) #[.slice none 0 0, .string ⟨#[]⟩, .int .i64 0] 8 (World.laidAll_os _ _ _)
      (World.shaped_of_ZipB (by kernel_rfl) (by kernel_rfl)) (by kernel_rfl) (by kernel_rfl) (by kernel_rfl) (materialAnswersAsSpecified_laid os _)) ?_
  intro W base args ds gs before hval0 hW _ _ hL _
  have hval : ∀ (j : Nat) t v, Tryd.f4.params[j]? = some t → args[j]? = some v → Value.okWide Tryd.prog W .any base t v := hval0
  have hW' := hW
  obtain ⟨p, q, hA0, hV, rfl, _, _⟩ := hW
  have hA : DataW.TrodAll enc Tryd.prog W 0 (fun _ => true) true Tryd.f4.params.toList args.toList ds p := hA0
  rw [Tryd.params4] at hA hval
  have hAk := hA
  obtain ⟨v0, v1, v2, d0, d1, d2, p0, p1, p2, rfl, rfl, rfl, h0, h1, h2⟩ := trodAll_three hA
  obtain ⟨rfl, rfl⟩ := trodVars_none hV
  obtain ⟨l0, hl0⟩ := open_mats (hval 0 22 v0 rfl rfl) h0
  obtain ⟨s1, rfl⟩ := open_str (hval 1 9 v1 rfl rfl) h1
  obtain ⟨n2, rfl⟩ := open_num (hval 2 3 v2 rfl rfl) h2
  simp only [List.append_nil] at hW'
  have hlt : ∀ x ∈ p0 ++ p1 ++ p2, x.block < W.heap.size := fun x hx => by simpa using hW'.lt x hx
  refine (AE.AnswG.any W hl0 s1 n2 (kinds_of_laid hL rfl)).mono fun e W' ⟨he, hb⟩ => ?_
  subst he
  exact ⟨_, rfl, _, _, _, [], p0 ++ p1 ++ p2, [], hW', trodAll_mk1 (shut_bool Tryd.underlying4 _), trodAll_below laidOut hb.below _ _ _ _ (by kernel_rfl) hAk hlt, rfl, hb.below.frame _, fun h => by cases h⟩

theorem materialAnswersAsSpecified_row : Rows.MaterialAnswersAsSpecifiedSaid :=
  OpenClaim.holds_of_wide 4 Tryd.f4 rfl rfl rfl rfl rfl rfl rfl ⟨rfl, rfl, rfl, rfl, rfl⟩ rfl rfl rfl rfl rfl (by kernel_rfl) Tryd.func4 (by kernel_rfl)
    (of_decide_eq_true (by kernel_rfl)) (by unfold Func.isWrapper; first | (rw [if_pos (by decide +kernel)]; kernel_rfl) | (rw [if_neg (by decide +kernel)]; exact ⟨rfl, rfl⟩))
    (fun os started H enc _ => materialAnswersAsSpecified_lifted os started H enc)

theorem materialAnswersAsSpecified_card : Rows.MaterialAnswersAsSpecifiedCardSaid :=
  Claim7.holds_tied_plain_at .later [] [.data, .data, .data, .data, .sentinel, .sentinel, .widerDeep, .pinned] true (true, "5b99cfd04ffd96155c5f917b94db44dc153867f375f91dbfcdfa1d858789f768") true materialAnswersAsSpecified_row (fun _ h => by cases h) (by kernel_rfl) (fun _ h => by cases h) materialAnswersAsSpecified_row_tie rfl ⟨rfl, rfl⟩ (by kernel_rfl) rfl
    (fun f fn hf hfn => by
      obtain rfl : f = 4 := Option.some.inj ((show Tryd.prog.funcNamed "voxel/voxellaw06.MaterialAnswersAsSpecified" = some 4 by kernel_rfl).symm.trans hf) |>.symm
      obtain rfl : fn = Tryd.f4 := (Option.some.inj (Tryd.func4.symm.trans hfn)).symm
      exact ⟨by kernel_rfl, fun j t ht => by
        rw [Tryd.params4] at ht
        have hm := Array.mem_of_getElem? ht
        have hall : (Tryd.f4.params.toList.all fun u => !Tryd.prog.wantsStandIn u) = true := by kernel_rfl
        rw [Tryd.params4] at hall
        have hw := List.all_eq_true.1 hall t (by simpa using hm)
        exact (show Tryd.prog.wantsStandIn t = false by simpa using hw)⟩)
    (by kernel_rfl)
#print axioms materialAnswersAsSpecified_card

end Go.Proofs.YtblhndlmgibljaaDoor

/- Parts of the proof, in the order in which they are built: RCnt, AeV, StI, StM, Nxt, RNext, RMissA. -/
import Derived.Test.YtheaofepenbcgaaGreatDoorNxtSpCard4

/- Counts of the reference -/
namespace Go.Proofs.YtheaofepenbcgaaGreatDoor
open Go Go.Proofs Go.RowKit
namespace AE
namespace RCounts
set_option maxRecDepth 100000
noncomputable def body : Code := (Tryz.f22.body).getD .skip
def N : Nat := 40
noncomputable abbrev at' (N : Nat) (F : List (FOp × Value)) (C : List (FuncId × List Value × Value)) (c : Code) (s : ASt) : Option Stop := evalTo Tryz.prog F C N 1000 10 c s
noncomputable abbrev leave' (N : Nat) (F : List (FOp × Value)) (C : List (FuncId × List Value × Value)) (ks : List KI) (o : Option Stop) : Option Stop := evalLeave Tryz.prog F C N 1000 10 ks o
noncomputable abbrev unr' (N : Nat) (F : List (FOp × Value)) (C : List (FuncId × List Value × Value)) (m : Nat) (o : Option Stop) : Option Stop := evalUnroll Tryz.prog F C N 1000 10 m o
noncomputable abbrev res' (N : Nat) (F : List (FOp × Value)) (C : List (FuncId × List Value × Value)) (ks : List KI) (x : AX) (s : ASt) : Option Stop := evalRes Tryz.prog F C N 1000 10 ks x s
noncomputable abbrev ops' (N : Nat) (F : List (FOp × Value)) (C : List (FuncId × List Value × Value)) (r : List Oper) (ops : Array Oper) (ks : List KI) (s : ASt) : Option Stop := evalOps Tryz.prog F C N 1000 10 r ops ks s
def s0 : ASt := { sl := slots [(0, symv 0)], ms := [], A := start }
def F0 : List (FOp × Value) := []
def C0 : List (FuncId × List Value × Value) := []
noncomputable def bks0 : List Bk := [⟨.cells [.int .i64 0, .int .i64 0, .int .i64 0, .int .i64 0, .int .i64 0, .int .i64 0, .int .i64 0, .int .i64 0], 38, 0⟩, ⟨.cells [symv 2, symv 3, symv 4, symv 5, symv 6, symv 7, symv 8, symv 9], 38, 0⟩]
def head0 : Sl := slots [(4, symv 1), (3, .pointer (some ⟨1, 0, none⟩)), (2, .pointer (some ⟨0, 0, none⟩)), (0, symv 0)]
noncomputable abbrev at0 := at' 40 F0 C0 body s0
theorem e0 : headObs head0 bks0 at0 = some [(symv 0, symv 0), (.int .i64 0, symv 1), (.int .i64 0, symv 2), (.int .i64 0, symv 3), (.int .i64 0, symv 4), (.int .i64 0, symv 5), (.int .i64 0, symv 6), (.int .i64 0, symv 7), (.int .i64 0, symv 8), (.int .i64 0, symv 9)] := by kernel_rfl
def F1 : List (FOp × Value) := [(.len #[22] 3 (symv 0), symv 10),
    (.bin .lss 3 (symv 1) (symv 10), .bool true),
    (.ixa 22 (symv 0) (symv 1), symv 11),
    (.ld 24 (symv 11), .agg ⟨[symv 12, symv 13, symv 14, symv 15]⟩),
    (.fa 24 (symv 11) 2, symv 16),
    (.ld 3 (symv 16), symv 14),
    (.bin .sub 3 (symv 14) (.int .i64 1), .int .i64 0),
    (.fa 24 (symv 11) 3, symv 17),
    (.ld 3 (symv 17), symv 15),
    (.mx #[3, 3] 3 (symv 2) (symv 15), symv 18),
    (.bin .add 3 (symv 1) (.int .i64 1), symv 19)]
def C1 : List (FuncId × List Value × Value) := [(11, [.agg ⟨[symv 12, symv 13, symv 14, symv 15]⟩], .bool true)]
theorem e1 : backObs head0 bks0 (at' 40 F1 C1 (stopCode at0) (headSt head0 bks0)) = some [(symv 0, symv 0), (symv 19, symv 1), (symv 18, symv 2), (symv 3, symv 3), (symv 4, symv 4), (symv 5, symv 5), (symv 6, symv 6), (symv 7, symv 7), (symv 8, symv 8), (symv 9, symv 9)] := by kernel_rfl
def F2 : List (FOp × Value) := [(.len #[22] 3 (symv 0), symv 10),
    (.bin .lss 3 (symv 1) (symv 10), .bool true),
    (.ixa 22 (symv 0) (symv 1), symv 11),
    (.ld 24 (symv 11), .agg ⟨[symv 12, symv 13, symv 14, symv 15]⟩),
    (.fa 24 (symv 11) 2, symv 16),
    (.ld 3 (symv 16), symv 14),
    (.bin .sub 3 (symv 14) (.int .i64 1), .int .i64 1),
    (.fa 24 (symv 11) 3, symv 17),
    (.ld 3 (symv 17), symv 15),
    (.mx #[3, 3] 3 (symv 3) (symv 15), symv 20),
    (.bin .add 3 (symv 1) (.int .i64 1), symv 19)]
def C2 : List (FuncId × List Value × Value) := [(11, [.agg ⟨[symv 12, symv 13, symv 14, symv 15]⟩], .bool true)]
theorem e2 : backObs head0 bks0 (at' 40 F2 C2 (stopCode at0) (headSt head0 bks0)) = some [(symv 0, symv 0), (symv 19, symv 1), (symv 2, symv 2), (symv 20, symv 3), (symv 4, symv 4), (symv 5, symv 5), (symv 6, symv 6), (symv 7, symv 7), (symv 8, symv 8), (symv 9, symv 9)] := by kernel_rfl
def F3 : List (FOp × Value) := [(.len #[22] 3 (symv 0), symv 10),
    (.bin .lss 3 (symv 1) (symv 10), .bool true),
    (.ixa 22 (symv 0) (symv 1), symv 11),
    (.ld 24 (symv 11), .agg ⟨[symv 12, symv 13, symv 14, symv 15]⟩),
    (.fa 24 (symv 11) 2, symv 16),
    (.ld 3 (symv 16), symv 14),
    (.bin .sub 3 (symv 14) (.int .i64 1), .int .i64 2),
    (.fa 24 (symv 11) 3, symv 17),
    (.ld 3 (symv 17), symv 15),
    (.mx #[3, 3] 3 (symv 4) (symv 15), symv 21),
    (.bin .add 3 (symv 1) (.int .i64 1), symv 19)]
def C3 : List (FuncId × List Value × Value) := [(11, [.agg ⟨[symv 12, symv 13, symv 14, symv 15]⟩], .bool true)]
theorem e3 : backObs head0 bks0 (at' 40 F3 C3 (stopCode at0) (headSt head0 bks0)) = some [(symv 0, symv 0), (symv 19, symv 1), (symv 2, symv 2), (symv 3, symv 3), (symv 21, symv 4), (symv 5, symv 5), (symv 6, symv 6), (symv 7, symv 7), (symv 8, symv 8), (symv 9, symv 9)] := by kernel_rfl
def F4 : List (FOp × Value) := [(.len #[22] 3 (symv 0), symv 10),
    (.bin .lss 3 (symv 1) (symv 10), .bool true),
    (.ixa 22 (symv 0) (symv 1), symv 11),
    (.ld 24 (symv 11), .agg ⟨[symv 12, symv 13, symv 14, symv 15]⟩),
    (.fa 24 (symv 11) 2, symv 16),
    (.ld 3 (symv 16), symv 14),
    (.bin .sub 3 (symv 14) (.int .i64 1), .int .i64 3),
    (.fa 24 (symv 11) 3, symv 17),
    (.ld 3 (symv 17), symv 15),
    (.mx #[3, 3] 3 (symv 5) (symv 15), symv 22),
    (.bin .add 3 (symv 1) (.int .i64 1), symv 19)]
def C4 : List (FuncId × List Value × Value) := [(11, [.agg ⟨[symv 12, symv 13, symv 14, symv 15]⟩], .bool true)]
theorem e4 : backObs head0 bks0 (at' 40 F4 C4 (stopCode at0) (headSt head0 bks0)) = some [(symv 0, symv 0), (symv 19, symv 1), (symv 2, symv 2), (symv 3, symv 3), (symv 4, symv 4), (symv 22, symv 5), (symv 6, symv 6), (symv 7, symv 7), (symv 8, symv 8), (symv 9, symv 9)] := by kernel_rfl
def F5 : List (FOp × Value) := [(.len #[22] 3 (symv 0), symv 10),
    (.bin .lss 3 (symv 1) (symv 10), .bool true),
    (.ixa 22 (symv 0) (symv 1), symv 11),
    (.ld 24 (symv 11), .agg ⟨[symv 12, symv 13, symv 14, symv 15]⟩),
    (.fa 24 (symv 11) 2, symv 16),
    (.ld 3 (symv 16), symv 14),
    (.bin .sub 3 (symv 14) (.int .i64 1), .int .i64 4),
    (.fa 24 (symv 11) 3, symv 17),
    (.ld 3 (symv 17), symv 15),
    (.mx #[3, 3] 3 (symv 6) (symv 15), symv 23),
    (.bin .add 3 (symv 1) (.int .i64 1), symv 19)]
def C5 : List (FuncId × List Value × Value) := [(11, [.agg ⟨[symv 12, symv 13, symv 14, symv 15]⟩], .bool true)]
theorem e5 : backObs head0 bks0 (at' 40 F5 C5 (stopCode at0) (headSt head0 bks0)) = some [(symv 0, symv 0), (symv 19, symv 1), (symv 2, symv 2), (symv 3, symv 3), (symv 4, symv 4), (symv 5, symv 5), (symv 23, symv 6), (symv 7, symv 7), (symv 8, symv 8), (symv 9, symv 9)] := by kernel_rfl
def F6 : List (FOp × Value) := [(.len #[22] 3 (symv 0), symv 10),
    (.bin .lss 3 (symv 1) (symv 10), .bool true),
    (.ixa 22 (symv 0) (symv 1), symv 11),
    (.ld 24 (symv 11), .agg ⟨[symv 12, symv 13, symv 14, symv 15]⟩),
    (.fa 24 (symv 11) 2, symv 16),
    (.ld 3 (symv 16), symv 14),
    (.bin .sub 3 (symv 14) (.int .i64 1), .int .i64 5),
    (.fa 24 (symv 11) 3, symv 17),
    (.ld 3 (symv 17), symv 15),
    (.mx #[3, 3] 3 (symv 7) (symv 15), symv 24),
    (.bin .add 3 (symv 1) (.int .i64 1), symv 19)]
def C6 : List (FuncId × List Value × Value) := [(11, [.agg ⟨[symv 12, symv 13, symv 14, symv 15]⟩], .bool true)]
theorem e6 : backObs head0 bks0 (at' 40 F6 C6 (stopCode at0) (headSt head0 bks0)) = some [(symv 0, symv 0), (symv 19, symv 1), (symv 2, symv 2), (symv 3, symv 3), (symv 4, symv 4), (symv 5, symv 5), (symv 6, symv 6), (symv 24, symv 7), (symv 8, symv 8), (symv 9, symv 9)] := by kernel_rfl
def F7 : List (FOp × Value) := [(.len #[22] 3 (symv 0), symv 10),
    (.bin .lss 3 (symv 1) (symv 10), .bool true),
    (.ixa 22 (symv 0) (symv 1), symv 11),
    (.ld 24 (symv 11), .agg ⟨[symv 12, symv 13, symv 14, symv 15]⟩),
    (.fa 24 (symv 11) 2, symv 16),
    (.ld 3 (symv 16), symv 14),
    (.bin .sub 3 (symv 14) (.int .i64 1), .int .i64 6),
    (.fa 24 (symv 11) 3, symv 17),
    (.ld 3 (symv 17), symv 15),
    (.mx #[3, 3] 3 (symv 8) (symv 15), symv 25),
    (.bin .add 3 (symv 1) (.int .i64 1), symv 19)]
def C7 : List (FuncId × List Value × Value) := [(11, [.agg ⟨[symv 12, symv 13, symv 14, symv 15]⟩], .bool true)]
theorem e7 : backObs head0 bks0 (at' 40 F7 C7 (stopCode at0) (headSt head0 bks0)) = some [(symv 0, symv 0), (symv 19, symv 1), (symv 2, symv 2), (symv 3, symv 3), (symv 4, symv 4), (symv 5, symv 5), (symv 6, symv 6), (symv 7, symv 7), (symv 25, symv 8), (symv 9, symv 9)] := by kernel_rfl
def F8 : List (FOp × Value) := [(.len #[22] 3 (symv 0), symv 10),
    (.bin .lss 3 (symv 1) (symv 10), .bool true),
    (.ixa 22 (symv 0) (symv 1), symv 11),
    (.ld 24 (symv 11), .agg ⟨[symv 12, symv 13, symv 14, symv 15]⟩),
    (.fa 24 (symv 11) 2, symv 16),
    (.ld 3 (symv 16), symv 14),
    (.bin .sub 3 (symv 14) (.int .i64 1), .int .i64 7),
    (.fa 24 (symv 11) 3, symv 17),
    (.ld 3 (symv 17), symv 15),
    (.mx #[3, 3] 3 (symv 9) (symv 15), symv 26),
    (.bin .add 3 (symv 1) (.int .i64 1), symv 19)]
def C8 : List (FuncId × List Value × Value) := [(11, [.agg ⟨[symv 12, symv 13, symv 14, symv 15]⟩], .bool true)]
theorem e8 : backObs head0 bks0 (at' 40 F8 C8 (stopCode at0) (headSt head0 bks0)) = some [(symv 0, symv 0), (symv 19, symv 1), (symv 2, symv 2), (symv 3, symv 3), (symv 4, symv 4), (symv 5, symv 5), (symv 6, symv 6), (symv 7, symv 7), (symv 8, symv 8), (symv 26, symv 9)] := by kernel_rfl
def F9 : List (FOp × Value) := [(.len #[22] 3 (symv 0), symv 10),
    (.bin .lss 3 (symv 1) (symv 10), .bool true),
    (.ixa 22 (symv 0) (symv 1), symv 11),
    (.ld 24 (symv 11), .agg ⟨[symv 12, symv 13, symv 14, symv 15]⟩),
    (.bin .add 3 (symv 1) (.int .i64 1), symv 19)]
def C9 : List (FuncId × List Value × Value) := [(11, [.agg ⟨[symv 12, symv 13, symv 14, symv 15]⟩], .bool false)]
theorem e9 : backObs head0 bks0 (at' 40 F9 C9 (stopCode at0) (headSt head0 bks0)) = some [(symv 0, symv 0), (symv 19, symv 1), (symv 2, symv 2), (symv 3, symv 3), (symv 4, symv 4), (symv 5, symv 5), (symv 6, symv 6), (symv 7, symv 7), (symv 8, symv 8), (symv 9, symv 9)] := by kernel_rfl
def F10 : List (FOp × Value) := [(.len #[22] 3 (symv 0), symv 10),
    (.bin .lss 3 (symv 1) (symv 10), .bool false)]
def C10 : List (FuncId × List Value × Value) := []
theorem e10 : endVal Tryz.prog Tryz.f22 (leave' 40 F0 C0 (stopKs at0) (at' 40 F10 C10 (stopCode at0) (headSt head0 bks0))) = some (.agg ⟨[symv 2, symv 3, symv 4, symv 5, symv 6, symv 7, symv 8, symv 9]⟩) := by kernel_rfl
@[reducible] noncomputable def vL (l : List St) (a_l : Option Addr) (c_l : Nat) (i : Nat) : List Value := [.slice a_l l.length c_l, .int .i64 ((i : Nat) : Int), .int .i64 (cntTo l 1 i), .int .i64 (cntTo l 2 i), .int .i64 (cntTo l 3 i), .int .i64 (cntTo l 4 i), .int .i64 (cntTo l 5 i), .int .i64 (cntTo l 6 i), .int .i64 (cntTo l 7 i), .int .i64 (cntTo l 8 i), .int .i64 ((l.length : Nat) : Int), cellPtr (.slice a_l l.length c_l) (i * 4), .int .i64 (l.getD (i) default).1, .int .i64 (l.getD (i) default).2.1, .int .i64 (l.getD (i) default).2.2.1, .int .i64 (l.getD (i) default).2.2.2, cellPtr (.slice a_l l.length c_l) (i * 4 + 2), cellPtr (.slice a_l l.length c_l) (i * 4 + 3), .int .i64 (max (cntTo l 1 i) (l.getD (i) default).2.2.2), .int .i64 ((i + 1 : Nat) : Int), .int .i64 (max (cntTo l 2 i) (l.getD (i) default).2.2.2), .int .i64 (max (cntTo l 3 i) (l.getD (i) default).2.2.2), .int .i64 (max (cntTo l 4 i) (l.getD (i) default).2.2.2), .int .i64 (max (cntTo l 5 i) (l.getD (i) default).2.2.2), .int .i64 (max (cntTo l 6 i) (l.getD (i) default).2.2.2), .int .i64 (max (cntTo l 7 i) (l.getD (i) default).2.2.2), .int .i64 (max (cntTo l 8 i) (l.getD (i) default).2.2.2)]
@[reducible] noncomputable def sg (M : Mem) (l : List St) (a_l : Option Addr) (c_l : Nat) (i : Nat) : Sig := sgL M (vL l a_l c_l i)
set_option maxHeartbeats 4000000 in
set_option maxRecDepth 100000 in
theorem any (W : World) {v_l : Value} {l : List St} (hl : Arr (heapOf W) 4 encS v_l l) (hn : l.length ≤ 100000) : Calls Tryz.prog 22 #[v_l] W fun e w' => e = .returned (countsV l) ∧ Low W.heap.size W w' := by
  obtain ⟨a_l, c_l, rfl⟩ := hl.slice
  refine @walk_enter (sg (heapOf W) l a_l c_l 0) Tryz.prog 22 Tryz.f22 body [symv 0] (slots [(0, symv 0)]) N W _ Tryz.func22 (by kernel_rfl) (by kernel_rfl) (by kernel_rfl) (by kernel_rfl) (immW_sgL W _) fun a hh => ?_
  letI := (sg (heapOf W) l a_l c_l 0)
  refine walk_to (F := F0) (T := C0) (fuel := 1000) (d := 10) mixed allF_nil allC_nil ?_ hh
  refine ostop_loop (sg := (fun i => sg (heapOf W) l a_l c_l i)) (fun i => i ≤ l.length) (fun i => l.length - i) 0 e0 (meet_cons (by first | exact meetV (.slice a_l l.length c_l) rfl rfl | exact meetI rfl rfl (by first | exact cntTo_yes (by omega) (by omega) p1 | exact cntTo_no1 (by omega) (by omega) | exact cntTo_no2 (by omega) p1)) (meet_cons (by first | rfl | exact meetInt (by first | exact cntTo_yes (by omega) (by omega) p1 | exact cntTo_no1 (by omega) (by omega) | exact cntTo_no2 (by omega) p1)) (meet_cons (by first | rfl | exact meetInt (by first | exact cntTo_yes (by omega) (by omega) p1 | exact cntTo_no1 (by omega) (by omega) | exact cntTo_no2 (by omega) p1)) (meet_cons (by first | rfl | exact meetInt (by first | exact cntTo_yes (by omega) (by omega) p1 | exact cntTo_no1 (by omega) (by omega) | exact cntTo_no2 (by omega) p1)) (meet_cons (by first | rfl | exact meetInt (by first | exact cntTo_yes (by omega) (by omega) p1 | exact cntTo_no1 (by omega) (by omega) | exact cntTo_no2 (by omega) p1)) (meet_cons (by first | rfl | exact meetInt (by first | exact cntTo_yes (by omega) (by omega) p1 | exact cntTo_no1 (by omega) (by omega) | exact cntTo_no2 (by omega) p1)) (meet_cons (by first | rfl | exact meetInt (by first | exact cntTo_yes (by omega) (by omega) p1 | exact cntTo_no1 (by omega) (by omega) | exact cntTo_no2 (by omega) p1)) (meet_cons (by first | rfl | exact meetInt (by first | exact cntTo_yes (by omega) (by omega) p1 | exact cntTo_no1 (by omega) (by omega) | exact cntTo_no2 (by omega) p1)) (meet_cons (by first | rfl | exact meetInt (by first | exact cntTo_yes (by omega) (by omega) p1 | exact cntTo_no1 (by omega) (by omega) | exact cntTo_no2 (by omega) p1)) (meet_cons (by first | rfl | exact meetInt (by first | exact cntTo_yes (by omega) (by omega) p1 | exact cntTo_no1 (by omega) (by omega) | exact cntTo_no2 (by omega) p1)) meet_nil)))))))))) (fun _ _ h => h) (by exact Nat.zero_le _) ?_
  intro i hI aC w hh
  letI := (sg (heapOf W) l a_l c_l i)
  by_cases p0 : ((i : Nat) : Int) < ((l.length : Nat) : Int)
  · by_cases p1 : (0 ≤ (l.getD (i) default).1 ∧ (l.getD (i) default).1 ≤ 4000 ∧ 1 ≤ (l.getD (i) default).2.1 ∧ (l.getD (i) default).2.1 ≤ 1000000 ∧ 1 ≤ (l.getD (i) default).2.2.1 ∧ (l.getD (i) default).2.2.1 ≤ 8 ∧ 1 ≤ (l.getD (i) default).2.2.2 ∧ (l.getD (i) default).2.2.2 ≤ 1000)
    · by_cases p2 : ((l.getD (i) default).2.2.1 - 1) = 0
      · refine walk_to (F := F1) (T := C1) (fuel := 1000) (d := 10) mixed (allF_cons (FactOk.arrLen hl rfl rfl under27 rfl rfl) (allF_cons (FactOk.bi rfl rfl rfl rfl rfl rfl (boolT (by omega))) (allF_cons (FactOk.arrIxa hl (show i < l.length by omega) rfl rfl rfl under27 sizeSt rfl rfl rfl) (allF_cons (FactOk.arrLd hl (getSome (show i < l.length by omega)) rfl rfl aggSt sizeSt rfl rfl rfl) (allF_cons (arrFa2 hl (show i < l.length by omega) rfl rfl rfl rfl) (allF_cons (FactOk.arrLd1 (j := 2) hl (getSome (show i < l.length by omega)) rfl rfl aggInt rfl rfl rfl rfl) (allF_cons (FactOk.bi rfl rfl rfl rfl rfl rfl (intI (by omega) (by omega) (by omega))) (allF_cons (arrFa3 hl (show i < l.length by omega) rfl rfl rfl rfl) (allF_cons (FactOk.arrLd1 (j := 3) hl (getSome (show i < l.length by omega)) rfl rfl aggInt rfl rfl rfl rfl) (allF_cons (FactOk.maxI rfl rfl rfl rfl rfl rfl) (allF_cons (FactOk.bi rfl rfl rfl rfl rfl rfl (intI (by omega) (by omega) (by omega))) allF_nil))))))))))) (allC_cons (callRValidT rfl rfl p1) allC_nil) ?_ hh
        exact ostop_backM (s1 := (sg (heapOf W) l a_l c_l i)) (sg := (fun i => sg (heapOf W) l a_l c_l i)) (I := fun i => i ≤ l.length) (μ := fun i => l.length - i) (x := i) (i + 1) e1 (meet_cons (by first | exact meetV (.slice a_l l.length c_l) rfl rfl | exact meetI rfl rfl (by first | exact cntTo_yes (by omega) (by omega) p1 | exact cntTo_no1 (by omega) (by omega) | exact cntTo_no2 (by omega) p1)) (meet_cons (by first | exact meetV (.int .i64 ((i + 1 : Nat) : Int)) rfl rfl | exact meetI rfl rfl (by first | exact cntTo_yes (by omega) (by omega) p1 | exact cntTo_no1 (by omega) (by omega) | exact cntTo_no2 (by omega) p1)) (meet_cons (by first | exact meetV (.int .i64 (max (cntTo l 1 i) (l.getD (i) default).2.2.2)) rfl rfl | exact meetI rfl rfl (by first | exact cntTo_yes (by omega) (by omega) p1 | exact cntTo_no1 (by omega) (by omega) | exact cntTo_no2 (by omega) p1)) (meet_cons (by first | exact meetV (.int .i64 (cntTo l 2 i)) rfl rfl | exact meetI rfl rfl (by first | exact cntTo_yes (by omega) (by omega) p1 | exact cntTo_no1 (by omega) (by omega) | exact cntTo_no2 (by omega) p1)) (meet_cons (by first | exact meetV (.int .i64 (cntTo l 3 i)) rfl rfl | exact meetI rfl rfl (by first | exact cntTo_yes (by omega) (by omega) p1 | exact cntTo_no1 (by omega) (by omega) | exact cntTo_no2 (by omega) p1)) (meet_cons (by first | exact meetV (.int .i64 (cntTo l 4 i)) rfl rfl | exact meetI rfl rfl (by first | exact cntTo_yes (by omega) (by omega) p1 | exact cntTo_no1 (by omega) (by omega) | exact cntTo_no2 (by omega) p1)) (meet_cons (by first | exact meetV (.int .i64 (cntTo l 5 i)) rfl rfl | exact meetI rfl rfl (by first | exact cntTo_yes (by omega) (by omega) p1 | exact cntTo_no1 (by omega) (by omega) | exact cntTo_no2 (by omega) p1)) (meet_cons (by first | exact meetV (.int .i64 (cntTo l 6 i)) rfl rfl | exact meetI rfl rfl (by first | exact cntTo_yes (by omega) (by omega) p1 | exact cntTo_no1 (by omega) (by omega) | exact cntTo_no2 (by omega) p1)) (meet_cons (by first | exact meetV (.int .i64 (cntTo l 7 i)) rfl rfl | exact meetI rfl rfl (by first | exact cntTo_yes (by omega) (by omega) p1 | exact cntTo_no1 (by omega) (by omega) | exact cntTo_no2 (by omega) p1)) (meet_cons (by first | exact meetV (.int .i64 (cntTo l 8 i)) rfl rfl | exact meetI rfl rfl (by first | exact cntTo_yes (by omega) (by omega) p1 | exact cntTo_no1 (by omega) (by omega) | exact cntTo_no2 (by omega) p1)) meet_nil)))))))))) (fun _ _ h => h) (by show i + 1 ≤ l.length; omega) (by (try dsimp only); omega)
      · by_cases p3 : ((l.getD (i) default).2.2.1 - 1) = 1
        · refine walk_to (F := F2) (T := C2) (fuel := 1000) (d := 10) mixed (allF_cons (FactOk.arrLen hl rfl rfl under27 rfl rfl) (allF_cons (FactOk.bi rfl rfl rfl rfl rfl rfl (boolT (by omega))) (allF_cons (FactOk.arrIxa hl (show i < l.length by omega) rfl rfl rfl under27 sizeSt rfl rfl rfl) (allF_cons (FactOk.arrLd hl (getSome (show i < l.length by omega)) rfl rfl aggSt sizeSt rfl rfl rfl) (allF_cons (arrFa2 hl (show i < l.length by omega) rfl rfl rfl rfl) (allF_cons (FactOk.arrLd1 (j := 2) hl (getSome (show i < l.length by omega)) rfl rfl aggInt rfl rfl rfl rfl) (allF_cons (FactOk.bi rfl rfl rfl rfl rfl rfl (intI (by omega) (by omega) (by omega))) (allF_cons (arrFa3 hl (show i < l.length by omega) rfl rfl rfl rfl) (allF_cons (FactOk.arrLd1 (j := 3) hl (getSome (show i < l.length by omega)) rfl rfl aggInt rfl rfl rfl rfl) (allF_cons (FactOk.maxI rfl rfl rfl rfl rfl rfl) (allF_cons (FactOk.bi rfl rfl rfl rfl rfl rfl (intI (by omega) (by omega) (by omega))) allF_nil))))))))))) (allC_cons (callRValidT rfl rfl p1) allC_nil) ?_ hh
          exact ostop_backM (s1 := (sg (heapOf W) l a_l c_l i)) (sg := (fun i => sg (heapOf W) l a_l c_l i)) (I := fun i => i ≤ l.length) (μ := fun i => l.length - i) (x := i) (i + 1) e2 (meet_cons (by first | exact meetV (.slice a_l l.length c_l) rfl rfl | exact meetI rfl rfl (by first | exact cntTo_yes (by omega) (by omega) p1 | exact cntTo_no1 (by omega) (by omega) | exact cntTo_no2 (by omega) p1)) (meet_cons (by first | exact meetV (.int .i64 ((i + 1 : Nat) : Int)) rfl rfl | exact meetI rfl rfl (by first | exact cntTo_yes (by omega) (by omega) p1 | exact cntTo_no1 (by omega) (by omega) | exact cntTo_no2 (by omega) p1)) (meet_cons (by first | exact meetV (.int .i64 (cntTo l 1 i)) rfl rfl | exact meetI rfl rfl (by first | exact cntTo_yes (by omega) (by omega) p1 | exact cntTo_no1 (by omega) (by omega) | exact cntTo_no2 (by omega) p1)) (meet_cons (by first | exact meetV (.int .i64 (max (cntTo l 2 i) (l.getD (i) default).2.2.2)) rfl rfl | exact meetI rfl rfl (by first | exact cntTo_yes (by omega) (by omega) p1 | exact cntTo_no1 (by omega) (by omega) | exact cntTo_no2 (by omega) p1)) (meet_cons (by first | exact meetV (.int .i64 (cntTo l 3 i)) rfl rfl | exact meetI rfl rfl (by first | exact cntTo_yes (by omega) (by omega) p1 | exact cntTo_no1 (by omega) (by omega) | exact cntTo_no2 (by omega) p1)) (meet_cons (by first | exact meetV (.int .i64 (cntTo l 4 i)) rfl rfl | exact meetI rfl rfl (by first | exact cntTo_yes (by omega) (by omega) p1 | exact cntTo_no1 (by omega) (by omega) | exact cntTo_no2 (by omega) p1)) (meet_cons (by first | exact meetV (.int .i64 (cntTo l 5 i)) rfl rfl | exact meetI rfl rfl (by first | exact cntTo_yes (by omega) (by omega) p1 | exact cntTo_no1 (by omega) (by omega) | exact cntTo_no2 (by omega) p1)) (meet_cons (by first | exact meetV (.int .i64 (cntTo l 6 i)) rfl rfl | exact meetI rfl rfl (by first | exact cntTo_yes (by omega) (by omega) p1 | exact cntTo_no1 (by omega) (by omega) | exact cntTo_no2 (by omega) p1)) (meet_cons (by first | exact meetV (.int .i64 (cntTo l 7 i)) rfl rfl | exact meetI rfl rfl (by first | exact cntTo_yes (by omega) (by omega) p1 | exact cntTo_no1 (by omega) (by omega) | exact cntTo_no2 (by omega) p1)) (meet_cons (by first | exact meetV (.int .i64 (cntTo l 8 i)) rfl rfl | exact meetI rfl rfl (by first | exact cntTo_yes (by omega) (by omega) p1 | exact cntTo_no1 (by omega) (by omega) | exact cntTo_no2 (by omega) p1)) meet_nil)))))))))) (fun _ _ h => h) (by show i + 1 ≤ l.length; omega) (by (try dsimp only); omega)
        · by_cases p4 : ((l.getD (i) default).2.2.1 - 1) = 2
          · refine walk_to (F := F3) (T := C3) (fuel := 1000) (d := 10) mixed (allF_cons (FactOk.arrLen hl rfl rfl under27 rfl rfl) (allF_cons (FactOk.bi rfl rfl rfl rfl rfl rfl (boolT (by omega))) (allF_cons (FactOk.arrIxa hl (show i < l.length by omega) rfl rfl rfl under27 sizeSt rfl rfl rfl) (allF_cons (FactOk.arrLd hl (getSome (show i < l.length by omega)) rfl rfl aggSt sizeSt rfl rfl rfl) (allF_cons (arrFa2 hl (show i < l.length by omega) rfl rfl rfl rfl) (allF_cons (FactOk.arrLd1 (j := 2) hl (getSome (show i < l.length by omega)) rfl rfl aggInt rfl rfl rfl rfl) (allF_cons (FactOk.bi rfl rfl rfl rfl rfl rfl (intI (by omega) (by omega) (by omega))) (allF_cons (arrFa3 hl (show i < l.length by omega) rfl rfl rfl rfl) (allF_cons (FactOk.arrLd1 (j := 3) hl (getSome (show i < l.length by omega)) rfl rfl aggInt rfl rfl rfl rfl) (allF_cons (FactOk.maxI rfl rfl rfl rfl rfl rfl) (allF_cons (FactOk.bi rfl rfl rfl rfl rfl rfl (intI (by omega) (by omega) (by omega))) allF_nil))))))))))) (allC_cons (callRValidT rfl rfl p1) allC_nil) ?_ hh
            exact ostop_backM (s1 := (sg (heapOf W) l a_l c_l i)) (sg := (fun i => sg (heapOf W) l a_l c_l i)) (I := fun i => i ≤ l.length) (μ := fun i => l.length - i) (x := i) (i + 1) e3 (meet_cons (by first | exact meetV (.slice a_l l.length c_l) rfl rfl | exact meetI rfl rfl (by first | exact cntTo_yes (by omega) (by omega) p1 | exact cntTo_no1 (by omega) (by omega) | exact cntTo_no2 (by omega) p1)) (meet_cons (by first | exact meetV (.int .i64 ((i + 1 : Nat) : Int)) rfl rfl | exact meetI rfl rfl (by first | exact cntTo_yes (by omega) (by omega) p1 | exact cntTo_no1 (by omega) (by omega) | exact cntTo_no2 (by omega) p1)) (meet_cons (by first | exact meetV (.int .i64 (cntTo l 1 i)) rfl rfl | exact meetI rfl rfl (by first | exact cntTo_yes (by omega) (by omega) p1 | exact cntTo_no1 (by omega) (by omega) | exact cntTo_no2 (by omega) p1)) (meet_cons (by first | exact meetV (.int .i64 (cntTo l 2 i)) rfl rfl | exact meetI rfl rfl (by first | exact cntTo_yes (by omega) (by omega) p1 | exact cntTo_no1 (by omega) (by omega) | exact cntTo_no2 (by omega) p1)) (meet_cons (by first | exact meetV (.int .i64 (max (cntTo l 3 i) (l.getD (i) default).2.2.2)) rfl rfl | exact meetI rfl rfl (by first | exact cntTo_yes (by omega) (by omega) p1 | exact cntTo_no1 (by omega) (by omega) | exact cntTo_no2 (by omega) p1)) (meet_cons (by first | exact meetV (.int .i64 (cntTo l 4 i)) rfl rfl | exact meetI rfl rfl (by first | exact cntTo_yes (by omega) (by omega) p1 | exact cntTo_no1 (by omega) (by omega) | exact cntTo_no2 (by omega) p1)) (meet_cons (by first | exact meetV (.int .i64 (cntTo l 5 i)) rfl rfl | exact meetI rfl rfl (by first | exact cntTo_yes (by omega) (by omega) p1 | exact cntTo_no1 (by omega) (by omega) | exact cntTo_no2 (by omega) p1)) (meet_cons (by first | exact meetV (.int .i64 (cntTo l 6 i)) rfl rfl | exact meetI rfl rfl (by first | exact cntTo_yes (by omega) (by omega) p1 | exact cntTo_no1 (by omega) (by omega) | exact cntTo_no2 (by omega) p1)) (meet_cons (by first | exact meetV (.int .i64 (cntTo l 7 i)) rfl rfl | exact meetI rfl rfl (by first | exact cntTo_yes (by omega) (by omega) p1 | exact cntTo_no1 (by omega) (by omega) | exact cntTo_no2 (by omega) p1)) (meet_cons (by first | exact meetV (.int .i64 (cntTo l 8 i)) rfl rfl | exact meetI rfl rfl (by first | exact cntTo_yes (by omega) (by omega) p1 | exact cntTo_no1 (by omega) (by omega) | exact cntTo_no2 (by omega) p1)) meet_nil)))))))))) (fun _ _ h => h) (by show i + 1 ≤ l.length; omega) (by (try dsimp only); omega)
          · by_cases p5 : ((l.getD (i) default).2.2.1 - 1) = 3
            · refine walk_to (F := F4) (T := C4) (fuel := 1000) (d := 10) mixed (allF_cons (FactOk.arrLen hl rfl rfl under27 rfl rfl) (allF_cons (FactOk.bi rfl rfl rfl rfl rfl rfl (boolT (by omega))) (allF_cons (FactOk.arrIxa hl (show i < l.length by omega) rfl rfl rfl under27 sizeSt rfl rfl rfl) (allF_cons (FactOk.arrLd hl (getSome (show i < l.length by omega)) rfl rfl aggSt sizeSt rfl rfl rfl) (allF_cons (arrFa2 hl (show i < l.length by omega) rfl rfl rfl rfl) (allF_cons (FactOk.arrLd1 (j := 2) hl (getSome (show i < l.length by omega)) rfl rfl aggInt rfl rfl rfl rfl) (allF_cons (FactOk.bi rfl rfl rfl rfl rfl rfl (intI (by omega) (by omega) (by omega))) (allF_cons (arrFa3 hl (show i < l.length by omega) rfl rfl rfl rfl) (allF_cons (FactOk.arrLd1 (j := 3) hl (getSome (show i < l.length by omega)) rfl rfl aggInt rfl rfl rfl rfl) (allF_cons (FactOk.maxI rfl rfl rfl rfl rfl rfl) (allF_cons (FactOk.bi rfl rfl rfl rfl rfl rfl (intI (by omega) (by omega) (by omega))) allF_nil))))))))))) (allC_cons (callRValidT rfl rfl p1) allC_nil) ?_ hh
              exact ostop_backM (s1 := (sg (heapOf W) l a_l c_l i)) (sg := (fun i => sg (heapOf W) l a_l c_l i)) (I := fun i => i ≤ l.length) (μ := fun i => l.length - i) (x := i) (i + 1) e4 (meet_cons (by first | exact meetV (.slice a_l l.length c_l) rfl rfl | exact meetI rfl rfl (by first | exact cntTo_yes (by omega) (by omega) p1 | exact cntTo_no1 (by omega) (by omega) | exact cntTo_no2 (by omega) p1)) (meet_cons (by first | exact meetV (.int .i64 ((i + 1 : Nat) : Int)) rfl rfl | exact meetI rfl rfl (by first | exact cntTo_yes (by omega) (by omega) p1 | exact cntTo_no1 (by omega) (by omega) | exact cntTo_no2 (by omega) p1)) (meet_cons (by first | exact meetV (.int .i64 (cntTo l 1 i)) rfl rfl | exact meetI rfl rfl (by first | exact cntTo_yes (by omega) (by omega) p1 | exact cntTo_no1 (by omega) (by omega) | exact cntTo_no2 (by omega) p1)) (meet_cons (by first | exact meetV (.int .i64 (cntTo l 2 i)) rfl rfl | exact meetI rfl rfl (by first | exact cntTo_yes (by omega) (by omega) p1 | exact cntTo_no1 (by omega) (by omega) | exact cntTo_no2 (by omega) p1)) (meet_cons (by first | exact meetV (.int .i64 (cntTo l 3 i)) rfl rfl | exact meetI rfl rfl (by first | exact cntTo_yes (by omega) (by omega) p1 | exact cntTo_no1 (by omega) (by omega) | exact cntTo_no2 (by omega) p1)) (meet_cons (by first | exact meetV (.int .i64 (max (cntTo l 4 i) (l.getD (i) default).2.2.2)) rfl rfl | exact meetI rfl rfl (by first | exact cntTo_yes (by omega) (by omega) p1 | exact cntTo_no1 (by omega) (by omega) | exact cntTo_no2 (by omega) p1)) (meet_cons (by first | exact meetV (.int .i64 (cntTo l 5 i)) rfl rfl | exact meetI rfl rfl (by first | exact cntTo_yes (by omega) (by omega) p1 | exact cntTo_no1 (by omega) (by omega) | exact cntTo_no2 (by omega) p1)) (meet_cons (by first | exact meetV (.int .i64 (cntTo l 6 i)) rfl rfl | exact meetI rfl rfl (by first | exact cntTo_yes (by omega) (by omega) p1 | exact cntTo_no1 (by omega) (by omega) | exact cntTo_no2 (by omega) p1)) (meet_cons (by first | exact meetV (.int .i64 (cntTo l 7 i)) rfl rfl | exact meetI rfl rfl (by first | exact cntTo_yes (by omega) (by omega) p1 | exact cntTo_no1 (by omega) (by omega) | exact cntTo_no2 (by omega) p1)) (meet_cons (by first | exact meetV (.int .i64 (cntTo l 8 i)) rfl rfl | exact meetI rfl rfl (by first | exact cntTo_yes (by omega) (by omega) p1 | exact cntTo_no1 (by omega) (by omega) | exact cntTo_no2 (by omega) p1)) meet_nil)))))))))) (fun _ _ h => h) (by show i + 1 ≤ l.length; omega) (by (try dsimp only); omega)
            · by_cases p6 : ((l.getD (i) default).2.2.1 - 1) = 4
              · refine walk_to (F := F5) (T := C5) (fuel := 1000) (d := 10) mixed (allF_cons (FactOk.arrLen hl rfl rfl under27 rfl rfl) (allF_cons (FactOk.bi rfl rfl rfl rfl rfl rfl (boolT (by omega))) (allF_cons (FactOk.arrIxa hl (show i < l.length by omega) rfl rfl rfl under27 sizeSt rfl rfl rfl) (allF_cons (FactOk.arrLd hl (getSome (show i < l.length by omega)) rfl rfl aggSt sizeSt rfl rfl rfl) (allF_cons (arrFa2 hl (show i < l.length by omega) rfl rfl rfl rfl) (allF_cons (FactOk.arrLd1 (j := 2) hl (getSome (show i < l.length by omega)) rfl rfl aggInt rfl rfl rfl rfl) (allF_cons (FactOk.bi rfl rfl rfl rfl rfl rfl (intI (by omega) (by omega) (by omega))) (allF_cons (arrFa3 hl (show i < l.length by omega) rfl rfl rfl rfl) (allF_cons (FactOk.arrLd1 (j := 3) hl (getSome (show i < l.length by omega)) rfl rfl aggInt rfl rfl rfl rfl) (allF_cons (FactOk.maxI rfl rfl rfl rfl rfl rfl) (allF_cons (FactOk.bi rfl rfl rfl rfl rfl rfl (intI (by omega) (by omega) (by omega))) allF_nil))))))))))) (allC_cons (callRValidT rfl rfl p1) allC_nil) ?_ hh
                exact ostop_backM (s1 := (sg (heapOf W) l a_l c_l i)) (sg := (fun i => sg (heapOf W) l a_l c_l i)) (I := fun i => i ≤ l.length) (μ := fun i => l.length - i) (x := i) (i + 1) e5 (meet_cons (by first | exact meetV (.slice a_l l.length c_l) rfl rfl | exact meetI rfl rfl (by first | exact cntTo_yes (by omega) (by omega) p1 | exact cntTo_no1 (by omega) (by omega) | exact cntTo_no2 (by omega) p1)) (meet_cons (by first | exact meetV (.int .i64 ((i + 1 : Nat) : Int)) rfl rfl | exact meetI rfl rfl (by first | exact cntTo_yes (by omega) (by omega) p1 | exact cntTo_no1 (by omega) (by omega) | exact cntTo_no2 (by omega) p1)) (meet_cons (by first | exact meetV (.int .i64 (cntTo l 1 i)) rfl rfl | exact meetI rfl rfl (by first | exact cntTo_yes (by omega) (by omega) p1 | exact cntTo_no1 (by omega) (by omega) | exact cntTo_no2 (by omega) p1)) (meet_cons (by first | exact meetV (.int .i64 (cntTo l 2 i)) rfl rfl | exact meetI rfl rfl (by first | exact cntTo_yes (by omega) (by omega) p1 | exact cntTo_no1 (by omega) (by omega) | exact cntTo_no2 (by omega) p1)) (meet_cons (by first | exact meetV (.int .i64 (cntTo l 3 i)) rfl rfl | exact meetI rfl rfl (by first | exact cntTo_yes (by omega) (by omega) p1 | exact cntTo_no1 (by omega) (by omega) | exact cntTo_no2 (by omega) p1)) (meet_cons (by first | exact meetV (.int .i64 (cntTo l 4 i)) rfl rfl | exact meetI rfl rfl (by first | exact cntTo_yes (by omega) (by omega) p1 | exact cntTo_no1 (by omega) (by omega) | exact cntTo_no2 (by omega) p1)) (meet_cons (by first | exact meetV (.int .i64 (max (cntTo l 5 i) (l.getD (i) default).2.2.2)) rfl rfl | exact meetI rfl rfl (by first | exact cntTo_yes (by omega) (by omega) p1 | exact cntTo_no1 (by omega) (by omega) | exact cntTo_no2 (by omega) p1)) (meet_cons (by first | exact meetV (.int .i64 (cntTo l 6 i)) rfl rfl | exact meetI rfl rfl (by first | exact cntTo_yes (by omega) (by omega) p1 | exact cntTo_no1 (by omega) (by omega) | exact cntTo_no2 (by omega) p1)) (meet_cons (by first | exact meetV (.int .i64 (cntTo l 7 i)) rfl rfl | exact meetI rfl rfl (by first | exact cntTo_yes (by omega) (by omega) p1 | exact cntTo_no1 (by omega) (by omega) | exact cntTo_no2 (by omega) p1)) (meet_cons (by first | exact meetV (.int .i64 (cntTo l 8 i)) rfl rfl | exact meetI rfl rfl (by first | exact cntTo_yes (by omega) (by omega) p1 | exact cntTo_no1 (by omega) (by omega) | exact cntTo_no2 (by omega) p1)) meet_nil)))))))))) (fun _ _ h => h) (by show i + 1 ≤ l.length; omega) (by (try dsimp only); omega)
              · by_cases p7 : ((l.getD (i) default).2.2.1 - 1) = 5
                · refine walk_to (F := F6) (T := C6) (fuel := 1000) (d := 10) mixed (allF_cons (FactOk.arrLen hl rfl rfl under27 rfl rfl) (allF_cons (FactOk.bi rfl rfl rfl rfl rfl rfl (boolT (by omega))) (allF_cons (FactOk.arrIxa hl (show i < l.length by omega) rfl rfl rfl under27 sizeSt rfl rfl rfl) (allF_cons (FactOk.arrLd hl (getSome (show i < l.length by omega)) rfl rfl aggSt sizeSt rfl rfl rfl) (allF_cons (arrFa2 hl (show i < l.length by omega) rfl rfl rfl rfl) (allF_cons (FactOk.arrLd1 (j := 2) hl (getSome (show i < l.length by omega)) rfl rfl aggInt rfl rfl rfl rfl) (allF_cons (FactOk.bi rfl rfl rfl rfl rfl rfl (intI (by omega) (by omega) (by omega))) (allF_cons (arrFa3 hl (show i < l.length by omega) rfl rfl rfl rfl) (allF_cons (FactOk.arrLd1 (j := 3) hl (getSome (show i < l.length by omega)) rfl rfl aggInt rfl rfl rfl rfl) (allF_cons (FactOk.maxI rfl rfl rfl rfl rfl rfl) (allF_cons (FactOk.bi rfl rfl rfl rfl rfl rfl (intI (by omega) (by omega) (by omega))) allF_nil))))))))))) (allC_cons (callRValidT rfl rfl p1) allC_nil) ?_ hh
                  exact ostop_backM (s1 := (sg (heapOf W) l a_l c_l i)) (sg := (fun i => sg (heapOf W) l a_l c_l i)) (I := fun i => i ≤ l.length) (μ := fun i => l.length - i) (x := i) (i + 1) e6 (meet_cons (by first | exact meetV (.slice a_l l.length c_l) rfl rfl | exact meetI rfl rfl (by first | exact cntTo_yes (by omega) (by omega) p1 | exact cntTo_no1 (by omega) (by omega) | exact cntTo_no2 (by omega) p1)) (meet_cons (by first | exact meetV (.int .i64 ((i + 1 : Nat) : Int)) rfl rfl | exact meetI rfl rfl (by first | exact cntTo_yes (by omega) (by omega) p1 | exact cntTo_no1 (by omega) (by omega) | exact cntTo_no2 (by omega) p1)) (meet_cons (by first | exact meetV (.int .i64 (cntTo l 1 i)) rfl rfl | exact meetI rfl rfl (by first | exact cntTo_yes (by omega) (by omega) p1 | exact cntTo_no1 (by omega) (by omega) | exact cntTo_no2 (by omega) p1)) (meet_cons (by first | exact meetV (.int .i64 (cntTo l 2 i)) rfl rfl | exact meetI rfl rfl (by first | exact cntTo_yes (by omega) (by omega) p1 | exact cntTo_no1 (by omega) (by omega) | exact cntTo_no2 (by omega) p1)) (meet_cons (by first | exact meetV (.int .i64 (cntTo l 3 i)) rfl rfl | exact meetI rfl rfl (by first | exact cntTo_yes (by omega) (by omega) p1 | exact cntTo_no1 (by omega) (by omega) | exact cntTo_no2 (by omega) p1)) (meet_cons (by first | exact meetV (.int .i64 (cntTo l 4 i)) rfl rfl | exact meetI rfl rfl (by first | exact cntTo_yes (by omega) (by omega) p1 | exact cntTo_no1 (by omega) (by omega) | exact cntTo_no2 (by omega) p1)) (meet_cons (by first | exact meetV (.int .i64 (cntTo l 5 i)) rfl rfl | exact meetI rfl rfl (by first | exact cntTo_yes (by omega) (by omega) p1 | exact cntTo_no1 (by omega) (by omega) | exact cntTo_no2 (by omega) p1)) (meet_cons (by first | exact meetV (.int .i64 (max (cntTo l 6 i) (l.getD (i) default).2.2.2)) rfl rfl | exact meetI rfl rfl (by first | exact cntTo_yes (by omega) (by omega) p1 | exact cntTo_no1 (by omega) (by omega) | exact cntTo_no2 (by omega) p1)) (meet_cons (by first | exact meetV (.int .i64 (cntTo l 7 i)) rfl rfl | exact meetI rfl rfl (by first | exact cntTo_yes (by omega) (by omega) p1 | exact cntTo_no1 (by omega) (by omega) | exact cntTo_no2 (by omega) p1)) (meet_cons (by first | exact meetV (.int .i64 (cntTo l 8 i)) rfl rfl | exact meetI rfl rfl (by first | exact cntTo_yes (by omega) (by omega) p1 | exact cntTo_no1 (by omega) (by omega) | exact cntTo_no2 (by omega) p1)) meet_nil)))))))))) (fun _ _ h => h) (by show i + 1 ≤ l.length; omega) (by (try dsimp only); omega)
                · by_cases p8 : ((l.getD (i) default).2.2.1 - 1) = 6
                  · refine walk_to (F := F7) (T := C7) (fuel := 1000) (d := 10) mixed (allF_cons (FactOk.arrLen hl rfl rfl under27 rfl rfl) (allF_cons (FactOk.bi rfl rfl rfl rfl rfl rfl (boolT (by omega))) (allF_cons (FactOk.arrIxa hl (show i < l.length by omega) rfl rfl rfl under27 sizeSt rfl rfl rfl) (allF_cons (FactOk.arrLd hl (getSome (show i < l.length by omega)) rfl rfl aggSt sizeSt rfl rfl rfl) (allF_cons (arrFa2 hl (show i < l.length by omega) rfl rfl rfl rfl) (allF_cons (FactOk.arrLd1 (j := 2) hl (getSome (show i < l.length by omega)) rfl rfl aggInt rfl rfl rfl rfl) (allF_cons (FactOk.bi rfl rfl rfl rfl rfl rfl (intI (by omega) (by omega) (by omega))) (allF_cons (arrFa3 hl (show i < l.length by omega) rfl rfl rfl rfl) (allF_cons (FactOk.arrLd1 (j := 3) hl (getSome (show i < l.length by omega)) rfl rfl aggInt rfl rfl rfl rfl) (allF_cons (FactOk.maxI rfl rfl rfl rfl rfl rfl) (allF_cons (FactOk.bi rfl rfl rfl rfl rfl rfl (intI (by omega) (by omega) (by omega))) allF_nil))))))))))) (allC_cons (callRValidT rfl rfl p1) allC_nil) ?_ hh
                    exact ostop_backM (s1 := (sg (heapOf W) l a_l c_l i)) (sg := (fun i => sg (heapOf W) l a_l c_l i)) (I := fun i => i ≤ l.length) (μ := fun i => l.length - i) (x := i) (i + 1) e7 (meet_cons (by first | exact meetV (.slice a_l l.length c_l) rfl rfl | exact meetI rfl rfl (by first | exact cntTo_yes (by omega) (by omega) p1 | exact cntTo_no1 (by omega) (by omega) | exact cntTo_no2 (by omega) p1)) (meet_cons (by first | exact meetV (.int .i64 ((i + 1 : Nat) : Int)) rfl rfl | exact meetI rfl rfl (by first | exact cntTo_yes (by omega) (by omega) p1 | exact cntTo_no1 (by omega) (by omega) | exact cntTo_no2 (by omega) p1)) (meet_cons (by first | exact meetV (.int .i64 (cntTo l 1 i)) rfl rfl | exact meetI rfl rfl (by first | exact cntTo_yes (by omega) (by omega) p1 | exact cntTo_no1 (by omega) (by omega) | exact cntTo_no2 (by omega) p1)) (meet_cons (by first | exact meetV (.int .i64 (cntTo l 2 i)) rfl rfl | exact meetI rfl rfl (by first | exact cntTo_yes (by omega) (by omega) p1 | exact cntTo_no1 (by omega) (by omega) | exact cntTo_no2 (by omega) p1)) (meet_cons (by first | exact meetV (.int .i64 (cntTo l 3 i)) rfl rfl | exact meetI rfl rfl (by first | exact cntTo_yes (by omega) (by omega) p1 | exact cntTo_no1 (by omega) (by omega) | exact cntTo_no2 (by omega) p1)) (meet_cons (by first | exact meetV (.int .i64 (cntTo l 4 i)) rfl rfl | exact meetI rfl rfl (by first | exact cntTo_yes (by omega) (by omega) p1 | exact cntTo_no1 (by omega) (by omega) | exact cntTo_no2 (by omega) p1)) (meet_cons (by first | exact meetV (.int .i64 (cntTo l 5 i)) rfl rfl | exact meetI rfl rfl (by first | exact cntTo_yes (by omega) (by omega) p1 | exact cntTo_no1 (by omega) (by omega) | exact cntTo_no2 (by omega) p1)) (meet_cons (by first | exact meetV (.int .i64 (cntTo l 6 i)) rfl rfl | exact meetI rfl rfl (by first | exact cntTo_yes (by omega) (by omega) p1 | exact cntTo_no1 (by omega) (by omega) | exact cntTo_no2 (by omega) p1)) (meet_cons (by first | exact meetV (.int .i64 (max (cntTo l 7 i) (l.getD (i) default).2.2.2)) rfl rfl | exact meetI rfl rfl (by first | exact cntTo_yes (by omega) (by omega) p1 | exact cntTo_no1 (by omega) (by omega) | exact cntTo_no2 (by omega) p1)) (meet_cons (by first | exact meetV (.int .i64 (cntTo l 8 i)) rfl rfl | exact meetI rfl rfl (by first | exact cntTo_yes (by omega) (by omega) p1 | exact cntTo_no1 (by omega) (by omega) | exact cntTo_no2 (by omega) p1)) meet_nil)))))))))) (fun _ _ h => h) (by show i + 1 ≤ l.length; omega) (by (try dsimp only); omega)
                  · refine walk_to (F := F8) (T := C8) (fuel := 1000) (d := 10) mixed (allF_cons (FactOk.arrLen hl rfl rfl under27 rfl rfl) (allF_cons (FactOk.bi rfl rfl rfl rfl rfl rfl (boolT (by omega))) (allF_cons (FactOk.arrIxa hl (show i < l.length by omega) rfl rfl rfl under27 sizeSt rfl rfl rfl) (allF_cons (FactOk.arrLd hl (getSome (show i < l.length by omega)) rfl rfl aggSt sizeSt rfl rfl rfl) (allF_cons (arrFa2 hl (show i < l.length by omega) rfl rfl rfl rfl) (allF_cons (FactOk.arrLd1 (j := 2) hl (getSome (show i < l.length by omega)) rfl rfl aggInt rfl rfl rfl rfl) (allF_cons (FactOk.bi rfl rfl rfl rfl rfl rfl (intI (by omega) (by omega) (by omega))) (allF_cons (arrFa3 hl (show i < l.length by omega) rfl rfl rfl rfl) (allF_cons (FactOk.arrLd1 (j := 3) hl (getSome (show i < l.length by omega)) rfl rfl aggInt rfl rfl rfl rfl) (allF_cons (FactOk.maxI rfl rfl rfl rfl rfl rfl) (allF_cons (FactOk.bi rfl rfl rfl rfl rfl rfl (intI (by omega) (by omega) (by omega))) allF_nil))))))))))) (allC_cons (callRValidT rfl rfl p1) allC_nil) ?_ hh
                    exact ostop_backM (s1 := (sg (heapOf W) l a_l c_l i)) (sg := (fun i => sg (heapOf W) l a_l c_l i)) (I := fun i => i ≤ l.length) (μ := fun i => l.length - i) (x := i) (i + 1) e8 (meet_cons (by first | exact meetV (.slice a_l l.length c_l) rfl rfl | exact meetI rfl rfl (by first | exact cntTo_yes (by omega) (by omega) p1 | exact cntTo_no1 (by omega) (by omega) | exact cntTo_no2 (by omega) p1)) (meet_cons (by first | exact meetV (.int .i64 ((i + 1 : Nat) : Int)) rfl rfl | exact meetI rfl rfl (by first | exact cntTo_yes (by omega) (by omega) p1 | exact cntTo_no1 (by omega) (by omega) | exact cntTo_no2 (by omega) p1)) (meet_cons (by first | exact meetV (.int .i64 (cntTo l 1 i)) rfl rfl | exact meetI rfl rfl (by first | exact cntTo_yes (by omega) (by omega) p1 | exact cntTo_no1 (by omega) (by omega) | exact cntTo_no2 (by omega) p1)) (meet_cons (by first | exact meetV (.int .i64 (cntTo l 2 i)) rfl rfl | exact meetI rfl rfl (by first | exact cntTo_yes (by omega) (by omega) p1 | exact cntTo_no1 (by omega) (by omega) | exact cntTo_no2 (by omega) p1)) (meet_cons (by first | exact meetV (.int .i64 (cntTo l 3 i)) rfl rfl | exact meetI rfl rfl (by first | exact cntTo_yes (by omega) (by omega) p1 | exact cntTo_no1 (by omega) (by omega) | exact cntTo_no2 (by omega) p1)) (meet_cons (by first | exact meetV (.int .i64 (cntTo l 4 i)) rfl rfl | exact meetI rfl rfl (by first | exact cntTo_yes (by omega) (by omega) p1 | exact cntTo_no1 (by omega) (by omega) | exact cntTo_no2 (by omega) p1)) (meet_cons (by first | exact meetV (.int .i64 (cntTo l 5 i)) rfl rfl | exact meetI rfl rfl (by first | exact cntTo_yes (by omega) (by omega) p1 | exact cntTo_no1 (by omega) (by omega) | exact cntTo_no2 (by omega) p1)) (meet_cons (by first | exact meetV (.int .i64 (cntTo l 6 i)) rfl rfl | exact meetI rfl rfl (by first | exact cntTo_yes (by omega) (by omega) p1 | exact cntTo_no1 (by omega) (by omega) | exact cntTo_no2 (by omega) p1)) (meet_cons (by first | exact meetV (.int .i64 (cntTo l 7 i)) rfl rfl | exact meetI rfl rfl (by first | exact cntTo_yes (by omega) (by omega) p1 | exact cntTo_no1 (by omega) (by omega) | exact cntTo_no2 (by omega) p1)) (meet_cons (by first | exact meetV (.int .i64 (max (cntTo l 8 i) (l.getD (i) default).2.2.2)) rfl rfl | exact meetI rfl rfl (by first | exact cntTo_yes (by omega) (by omega) p1 | exact cntTo_no1 (by omega) (by omega) | exact cntTo_no2 (by omega) p1)) meet_nil)))))))))) (fun _ _ h => h) (by show i + 1 ≤ l.length; omega) (by (try dsimp only); omega)
    · refine walk_to (F := F9) (T := C9) (fuel := 1000) (d := 10) mixed (allF_cons (FactOk.arrLen hl rfl rfl under27 rfl rfl) (allF_cons (FactOk.bi rfl rfl rfl rfl rfl rfl (boolT (by omega))) (allF_cons (FactOk.arrIxa hl (show i < l.length by omega) rfl rfl rfl under27 sizeSt rfl rfl rfl) (allF_cons (FactOk.arrLd hl (getSome (show i < l.length by omega)) rfl rfl aggSt sizeSt rfl rfl rfl) (allF_cons (FactOk.bi rfl rfl rfl rfl rfl rfl (intI (by omega) (by omega) (by omega))) allF_nil))))) (allC_cons (callRValidF rfl rfl p1) allC_nil) ?_ hh
      exact ostop_backM (s1 := (sg (heapOf W) l a_l c_l i)) (sg := (fun i => sg (heapOf W) l a_l c_l i)) (I := fun i => i ≤ l.length) (μ := fun i => l.length - i) (x := i) (i + 1) e9 (meet_cons (by first | exact meetV (.slice a_l l.length c_l) rfl rfl | exact meetI rfl rfl (by first | exact cntTo_yes (by omega) (by omega) p1 | exact cntTo_no1 (by omega) (by omega) | exact cntTo_no2 (by omega) p1)) (meet_cons (by first | exact meetV (.int .i64 ((i + 1 : Nat) : Int)) rfl rfl | exact meetI rfl rfl (by first | exact cntTo_yes (by omega) (by omega) p1 | exact cntTo_no1 (by omega) (by omega) | exact cntTo_no2 (by omega) p1)) (meet_cons (by first | exact meetV (.int .i64 (cntTo l 1 i)) rfl rfl | exact meetI rfl rfl (by first | exact cntTo_yes (by omega) (by omega) p1 | exact cntTo_no1 (by omega) (by omega) | exact cntTo_no2 (by omega) p1)) (meet_cons (by first | exact meetV (.int .i64 (cntTo l 2 i)) rfl rfl | exact meetI rfl rfl (by first | exact cntTo_yes (by omega) (by omega) p1 | exact cntTo_no1 (by omega) (by omega) | exact cntTo_no2 (by omega) p1)) (meet_cons (by first | exact meetV (.int .i64 (cntTo l 3 i)) rfl rfl | exact meetI rfl rfl (by first | exact cntTo_yes (by omega) (by omega) p1 | exact cntTo_no1 (by omega) (by omega) | exact cntTo_no2 (by omega) p1)) (meet_cons (by first | exact meetV (.int .i64 (cntTo l 4 i)) rfl rfl | exact meetI rfl rfl (by first | exact cntTo_yes (by omega) (by omega) p1 | exact cntTo_no1 (by omega) (by omega) | exact cntTo_no2 (by omega) p1)) (meet_cons (by first | exact meetV (.int .i64 (cntTo l 5 i)) rfl rfl | exact meetI rfl rfl (by first | exact cntTo_yes (by omega) (by omega) p1 | exact cntTo_no1 (by omega) (by omega) | exact cntTo_no2 (by omega) p1)) (meet_cons (by first | exact meetV (.int .i64 (cntTo l 6 i)) rfl rfl | exact meetI rfl rfl (by first | exact cntTo_yes (by omega) (by omega) p1 | exact cntTo_no1 (by omega) (by omega) | exact cntTo_no2 (by omega) p1)) (meet_cons (by first | exact meetV (.int .i64 (cntTo l 7 i)) rfl rfl | exact meetI rfl rfl (by first | exact cntTo_yes (by omega) (by omega) p1 | exact cntTo_no1 (by omega) (by omega) | exact cntTo_no2 (by omega) p1)) (meet_cons (by first | exact meetV (.int .i64 (cntTo l 8 i)) rfl rfl | exact meetI rfl rfl (by first | exact cntTo_yes (by omega) (by omega) p1 | exact cntTo_no1 (by omega) (by omega) | exact cntTo_no2 (by omega) p1)) meet_nil)))))))))) (fun _ _ h => h) (by show i + 1 ≤ l.length; omega) (by (try dsimp only); omega)
  · refine walk_to (F := F10) (T := C10) (fuel := 1000) (d := 10) mixed (allF_cons (FactOk.arrLen hl rfl rfl under27 rfl rfl) (allF_cons (FactOk.bi rfl rfl rfl rfl rfl rfl (boolF (by omega))) allF_nil)) allC_nil ?_ hh
    refine walk_leave (F := F0) (T := C0) (fuel := 1000) (d := 10) mixed allF_nil allC_nil ?_
    exact ostop_end e10 fun w2 hLow hIn => ⟨(by refine congrArg Ending.returned ?_; unfold countsV; simp only [← cntTo_len hI (show l.length ≤ i by omega)]; rfl), hLow⟩ 
end RCounts
end AE
end Go.Proofs.YtheaofepenbcgaaGreatDoor

/- Appends that leave other own arrays apart: the block of the result is the old one or a new one. -/
namespace Go.Proofs.YtheaofepenbcgaaGreatDoor
open Go Go.Proofs Go.RowKit
namespace AE

theorem append_blk {α : Type} {P : Program} {w : World} {B : Nat} {M : Mem} {t ty e : TypeId} {i : TypeInfo} {z : Value} {k bytes : Nat} (ht : P.underlying t = some (.slice e)) (hi : P.info? e = some i) (hz : i.zero = some z) (hsize : i.size = k) (hby : i.bytes = bytes) (hzs : z.cells.size = k) (hk0 : 0 < k)
    {enc : α → List Value} (hk : ∀ x, (enc x).length = k) (hone : ∀ x, ∀ u ∈ enc x, u.oneCell' = true) {v x : Value} {l lx : List α} (hO : OArr B M e k enc v l) (hx : Reads w k enc x lx) (hw : ∀ i o, M i = some o → w.heap[i]? = some o)
    (h63 : l.length + lx.length ≤ maxLen) (hbytes : (l.length + lx.length) * bytes ≤ 140737488355328) {v' : Value} {w' : World} (hr : (Builtin.append_ #[t, t] ty #[v, x]).run P w = .ok v' w') :
    ∀ j, some j = obl v' → some j = obl v ∨ w.heap.size ≤ j := by
  obtain ⟨ax, c, rfl, hnil, hcells⟩ := hx
  by_cases hm : lx = []
  · subst hm
    obtain ⟨a, cap, rfl⟩ := hO.slice
    have hle : l.length ≤ cap := by
      rcases hO with ⟨a', h, rfl⟩ | ⟨g, cap', cur, h, h0, h1, h2, h3, _⟩
      · exact Nat.zero_le _
      · cases h; exact h3
    have h2 := run_append_zero (P := P) (w := w) (ty := ty) (a := a) (b := ax) (c := c) ht hi hle
    cases h2.symm.trans hr
    exact fun j h => .inl h
  · cases ax with
    | none => exact absurd (hnil rfl) hm
    | some ad =>
      have hlen := flat_len hk lx
      have h1 : ∀ u ∈ lx.flatMap enc, u.oneCell' = true := fun u hu => by
        obtain ⟨y, _, hy⟩ := List.mem_flatMap.1 hu
        exact hone y u hy
      by_cases hc : obl v = none
      · rcases hO with ⟨a, rfl, rfl⟩ | ⟨g, cap, cur, rfl, h0, _⟩
        · have e0 : (Builtin.append_ #[t, t] ty #[.slice a 0 0, .slice (some ad) lx.length c]).run P w = (Builtin.append_ #[t, t] ty #[.slice none 0 0, .slice (some ad) lx.length c]).run P w := by
            cases a with
            | none => rfl
            | some a =>
              subst hsize
              subst hby
              have hsmall : lx.length ≤ 9223372036854775807 := by simp only [maxLen, List.length_nil] at h63; omega
              have hpos : 0 < lx.length := List.length_pos_iff.2 hm
              have r1 := run_append_nil (P := P) w t ty e i z ht hi hz ad lx.length c _ hlen (hcells ad rfl) (by omega) (by omega) (by have hb := hbytes; simp only [List.length_nil, Nat.zero_add] at hb; omega)
              have r2 := run_append_grow (P := P) w t ty e i z ht hi hz a 0 0 [] (by simp) (fun j u h => by simp at h) ad lx.length c _ hlen (hcells ad rfl) (by omega) (by omega) (growslice_fits (by omega) (by have hb := hbytes; simp only [List.length_nil] at hb; exact hb))
              rw [r1, r2]
              simp
          have hn := append_new ht hi hz hsize hby hzs hk0 (World.ownsRow_nil w B e k) ad lx.length c hlen (hcells ad rfl) h1 h63 hbytes (e0.symm.trans hr)
          intro j hj
          rcases hn j (obl_own hj) with h | h
          · cases h
          · exact .inr h
        · exact absurd hc (by rw [obl_pos _ _ h0]; simp)
      · have heq : obl v = v.ownBlock := by
          cases h : obl v with
          | none => exact absurd h hc
          | some i => exact obl_own h.symm
        have hn := append_new ht hi hz hsize hby hzs hk0 (hO.row hk hc hw) ad lx.length c hlen (hcells ad rfl) h1 h63 hbytes hr
        intro j hj
        rw [heq]
        exact hn j (obl_own hj)

end AE
end Go.Proofs.YtheaofepenbcgaaGreatDoor

/- Lists of numbers: how they lie, facts of their type. -/
namespace Go.Proofs.YtheaofepenbcgaaGreatDoor
open Go Go.Proofs Go.RowKit
namespace AE

abbrev elI : TypeId := 3
theorem underIl : Tryz.prog.underlying 36 = some (.slice elI) := by kernel_rfl
noncomputable def infoTI : TypeInfo := (Tryz.prog.info? elI).getD default
theorem infoI : Tryz.prog.info? elI = some infoTI := by kernel_rfl
theorem zeroI : infoTI.zero = some (.int .i64 0) := by kernel_rfl
theorem iszI : infoTI.size = 1 := by kernel_rfl
abbrev bytesI : Nat := 8
theorem ibyI : infoTI.bytes = bytesI := by kernel_rfl
theorem zszI : (Value.int .i64 0).cells.size = 1 := rfl
def encI (n : Int) : List Value := [.int .i64 n]
theorem hkI : ∀ x, (encI x).length = 1 := fun _ => rfl
theorem honeI : ∀ x, ∀ u ∈ encI x, u.oneCell' = true := fun x u hu => by
  simp only [encI, List.mem_cons, List.not_mem_nil, or_false] at hu
  subst hu
  rfl

theorem sameAllI {la lb : List Int} {i : Nat} (h : ∀ j, j < i → la[j]? = lb[j]?) (h1 : la.length ≤ i) (h2 : lb.length ≤ i) : la = lb := List.ext_getElem? fun j => by
  rcases Nat.lt_or_ge j i with hj | hj
  · exact h j hj
  · rw [List.getElem?_eq_none (by omega), List.getElem?_eq_none (by omega)]

end AE
end Go.Proofs.YtheaofepenbcgaaGreatDoor

/- What Missing computes; the reference's Counts by contract. -/
namespace Go.Proofs.YtheaofepenbcgaaGreatDoor
open Go Go.Proofs Go.RowKit
namespace AE

/-- Is the number n of the site among the valid ones? -/
def hasN (l : List St) (site : Int) (n : Nat) : Bool := l.any fun x => decide (ValidP x ∧ x.2.2.1 = site ∧ x.2.2.2 = (n : Int))
/-- The missing numbers of the site, up to m. -/
def missN (l : List St) (site : Int) : Nat → List Int
  | 0 => []
  | m + 1 => missN l site m ++ (if hasN l site (m + 1) then [] else [((m + 1 : Nat) : Int)])
def missA (l : List St) (site : Int) : List Int := if 1 ≤ site ∧ site ≤ 8 then missN l site (cntAll l site).toNat else []

theorem missN_len (l : List St) (site : Int) (m : Nat) : (missN l site m).length ≤ m := by
  induction m with
  | zero => exact Nat.le_refl _
  | succ m ih =>
    unfold missN
    rw [List.length_append]
    split <;> simp only [List.length_nil, List.length_cons] <;> omega

theorem missA_len (l : List St) (site : Int) : (missA l site).length ≤ 1000 := by
  unfold missA
  split
  · have h1 := missN_len l site (cntAll l site).toNat
    have h2 := cntAll_bound l site
    omega
  · exact Nat.zero_le _

theorem missN_yes {l : List St} {site : Int} {n : Nat} (h1 : 1 ≤ n) (h : hasN l site n = true) : missN l site (n - 1) = missN l site (n + 1 - 1) := by
  obtain ⟨m, rfl⟩ : ∃ m, n = m + 1 := ⟨n - 1, by omega⟩
  show missN l site m = missN l site m ++ (if hasN l site (m + 1) then [] else [((m + 1 : Nat) : Int)])
  rw [if_pos h, List.append_nil]
theorem missN_no {l : List St} {site : Int} {n : Nat} (h1 : 1 ≤ n) (h : hasN l site n = false) : missN l site (n - 1) ++ [((n : Nat) : Int)] = missN l site (n + 1 - 1) := by
  obtain ⟨m, rfl⟩ : ∃ m, n = m + 1 := ⟨n - 1, by omega⟩
  show _ = missN l site m ++ (if hasN l site (m + 1) then [] else [((m + 1 : Nat) : Int)])
  rw [if_neg (by rw [h]; decide)]
  rfl

theorem missA_no {l : List St} {site : Int} (h : site < 1 ∨ 8 < site) : missA l site = [] := by
  unfold missA
  rw [if_neg (by omega)]

theorem missA_at {l : List St} {b : List Int} {site : Int} {n : Nat} (h1 : 1 ≤ site) (h2 : site ≤ 8) (h3 : 1 ≤ n) (h4 : (n : Int) = cntAll l site + 1) (h : b = missN l site (n - 1)) : b = missA l site := by
  unfold missA
  rw [if_pos ⟨h1, h2⟩, h, show n - 1 = (cntAll l site).toNat by omega]

theorem cnt_le {l : List St} {site s : Int} {n : Nat} (h : (n : Int) ≤ cntAll l s) (hs : site = s) : ((n + 1 : Nat) : Int) ≤ cntAll l site + 1 := by
  subst hs
  omega
theorem cnt_eq {l : List St} {site s : Int} {n : Nat} (h : ¬ (n : Int) ≤ cntAll l s) (hs : site = s) (h2 : (n : Int) ≤ cntAll l site + 1) : (n : Int) = cntAll l site + 1 := by
  subst hs
  omega

theorem ex_succ {P : St → Prop} {l : List St} {i : Nat} {b b' : Bool} (h : b = true ↔ ∃ j, j < i ∧ P (l.getD j default)) (hb : b' = true ↔ b = true ∨ P (l.getD i default)) : b' = true ↔ ∃ j, j < i + 1 ∧ P (l.getD j default) := by
  rw [hb, h]
  constructor
  · rintro (⟨j, hj, h⟩ | h)
    · exact ⟨j, by omega, h⟩
    · exact ⟨i, by omega, h⟩
  · rintro ⟨j, hj, ht⟩
    rcases Nat.lt_succ_iff_lt_or_eq.1 hj with h2 | rfl
    · exact .inl ⟨j, h2, ht⟩
    · exact .inr ht

theorem has_found {l : List St} {site : Int} {n i : Nat} {b : Bool} (h : b = true ↔ ∃ j, j < i ∧ (ValidP (l.getD j default) ∧ (l.getD j default).2.2.1 = site ∧ (l.getD j default).2.2.2 = (n : Int))) (hi : i ≤ l.length) (hge : l.length ≤ i) : hasN l site n = b := by
  have h2 : hasN l site n = true ↔ b = true := by
    rw [h]
    unfold hasN
    rw [List.any_eq_true]
    constructor
    · rintro ⟨x, hx, hp⟩
      obtain ⟨j, hj, rfl⟩ := memGetS hx
      exact ⟨j, by omega, of_decide_eq_true hp⟩
    · rintro ⟨j, hj, hp⟩
      exact ⟨_, getMemS (show j < l.length by omega), decide_eq_true hp⟩
  cases hb : b with
  | true => exact h2.2 hb
  | false =>
    cases hh : hasN l site n with
    | false => rfl
    | true => rw [h2.1 hh] at hb; cases hb

variable [Sig]
theorem callRCounts {v r : Value} {u : Value} {l : List St} (hp : plainSL [v] = true) (hr : plainS r = true) (ev : interpL [v] = [u]) (er : interp r = countsV l) (hl : Arr Sig.imm 4 encS u l) (hn : l.length ≤ 100000) : CallFactOk Tryz.prog (22, [v], r) :=
  callAny (a := #[u]) hp hr ev er fun w hw => RCounts.any w (hl.mono hw) hn

end AE
end Go.Proofs.YtheaofepenbcgaaGreatDoor

/- Next of the program -/
namespace Go.Proofs.YtheaofepenbcgaaGreatDoor
open Go Go.Proofs Go.RowKit
namespace AE
namespace NextG
set_option maxRecDepth 100000
noncomputable def body : Code := (Tryz.f16.body).getD .skip
def N : Nat := 67
noncomputable abbrev at' (N : Nat) (F : List (FOp × Value)) (C : List (FuncId × List Value × Value)) (c : Code) (s : ASt) : Option Stop := evalTo Tryz.prog F C N 1000 10 c s
noncomputable abbrev leave' (N : Nat) (F : List (FOp × Value)) (C : List (FuncId × List Value × Value)) (ks : List KI) (o : Option Stop) : Option Stop := evalLeave Tryz.prog F C N 1000 10 ks o
noncomputable abbrev unr' (N : Nat) (F : List (FOp × Value)) (C : List (FuncId × List Value × Value)) (m : Nat) (o : Option Stop) : Option Stop := evalUnroll Tryz.prog F C N 1000 10 m o
noncomputable abbrev res' (N : Nat) (F : List (FOp × Value)) (C : List (FuncId × List Value × Value)) (ks : List KI) (x : AX) (s : ASt) : Option Stop := evalRes Tryz.prog F C N 1000 10 ks x s
noncomputable abbrev ops' (N : Nat) (F : List (FOp × Value)) (C : List (FuncId × List Value × Value)) (r : List Oper) (ops : Array Oper) (ks : List KI) (s : ASt) : Option Stop := evalOps Tryz.prog F C N 1000 10 r ops ks s
def s0 : ASt := { sl := slots [(2, symv 2), (1, symv 1), (0, symv 0)], ms := [], A := start }
def F0 : List (FOp × Value) := [(.bin .lss 3 (symv 1) (.int .i64 1), .bool true)]
def C0 : List (FuncId × List Value × Value) := []
theorem e0 : endVal Tryz.prog Tryz.f16 (at' 67 F0 C0 body s0) = some (.tuple ⟨[.agg ⟨[.int .i64 0, .int .i64 0, .int .i64 0, .int .i64 0]⟩, .int .i64 1]⟩) := by kernel_rfl
def F1 : List (FOp × Value) := [(.bin .lss 3 (symv 1) (.int .i64 1), .bool false),
    (.bin .gtr 3 (symv 1) (.int .i64 8), .bool true)]
def C1 : List (FuncId × List Value × Value) := []
theorem e1 : endVal Tryz.prog Tryz.f16 (at' 67 F1 C1 body s0) = some (.tuple ⟨[.agg ⟨[.int .i64 0, .int .i64 0, .int .i64 0, .int .i64 0]⟩, .int .i64 1]⟩) := by kernel_rfl
def F2 : List (FOp × Value) := [(.bin .lss 3 (symv 1) (.int .i64 1), .bool false),
    (.bin .gtr 3 (symv 1) (.int .i64 8), .bool false)]
def C2 : List (FuncId × List Value × Value) := [(36, [symv 0, .func (.func 37) ⟨[]⟩ ⟨[]⟩], .bool true)]
theorem e2 : endVal Tryz.prog Tryz.f16 (at' 67 F2 C2 body s0) = some (.tuple ⟨[.agg ⟨[.int .i64 0, .int .i64 0, .int .i64 0, .int .i64 0]⟩, .int .i64 1]⟩) := by kernel_rfl
def F3 : List (FOp × Value) := [(.bin .lss 3 (symv 1) (.int .i64 1), .bool false),
    (.bin .gtr 3 (symv 1) (.int .i64 8), .bool false),
    (.bin .lss 3 (symv 2) (.int .i64 0), .bool true)]
def C3 : List (FuncId × List Value × Value) := [(36, [symv 0, .func (.func 37) ⟨[]⟩ ⟨[]⟩], .bool false)]
theorem e3 : endVal Tryz.prog Tryz.f16 (at' 67 F3 C3 body s0) = some (.tuple ⟨[.agg ⟨[.int .i64 0, .int .i64 0, .int .i64 0, .int .i64 0]⟩, .int .i64 19]⟩) := by kernel_rfl
def F4 : List (FOp × Value) := [(.bin .lss 3 (symv 1) (.int .i64 1), .bool false),
    (.bin .gtr 3 (symv 1) (.int .i64 8), .bool false),
    (.bin .lss 3 (symv 2) (.int .i64 0), .bool false),
    (.bin .gtr 3 (symv 2) (.int .i64 4000), .bool true)]
def C4 : List (FuncId × List Value × Value) := [(36, [symv 0, .func (.func 37) ⟨[]⟩ ⟨[]⟩], .bool false)]
theorem e4 : endVal Tryz.prog Tryz.f16 (at' 67 F4 C4 body s0) = some (.tuple ⟨[.agg ⟨[.int .i64 0, .int .i64 0, .int .i64 0, .int .i64 0]⟩, .int .i64 19]⟩) := by kernel_rfl
def F5 : List (FOp × Value) := [(.bin .lss 3 (symv 1) (.int .i64 1), .bool false),
    (.bin .gtr 3 (symv 1) (.int .i64 8), .bool false),
    (.bin .lss 3 (symv 2) (.int .i64 0), .bool false),
    (.bin .gtr 3 (symv 2) (.int .i64 4000), .bool false),
    (.bin .sub 3 (symv 1) (.int .i64 1), symv 11),
    (.ix 38 (.agg ⟨[symv 3, symv 4, symv 5, symv 6, symv 7, symv 8, symv 9, symv 10]⟩) (symv 11), symv 12),
    (.bin .add 3 (symv 12) (.int .i64 1), symv 13),
    (.len #[22] 3 (symv 0), symv 14)]
def C5 : List (FuncId × List Value × Value) := [(36, [symv 0, .func (.func 37) ⟨[]⟩ ⟨[]⟩], .bool false),
    (21, [symv 0], .agg ⟨[symv 3, symv 4, symv 5, symv 6, symv 7, symv 8, symv 9, symv 10]⟩)]
noncomputable def bks0 : List Bk := [⟨.cells [.int .i64 0, .int .i64 0, .int .i64 0, .int .i64 0], 24, 0⟩, ⟨.cells [symv 2, symv 16, symv 1, symv 13], 24, 0⟩]
def head0 : Sl := slots [(40, symv 15), (39, symv 14), (38, symv 0), (8, .pointer (some ⟨1, 0, none⟩)), (6, .pointer (some ⟨0, 0, none⟩)), (2, symv 2)]
noncomputable abbrev at0 := at' 67 F5 C5 body s0
theorem e5 : headObs head0 bks0 at0 = some [(symv 14, symv 14), (symv 2, symv 2), (.int .i64 0, symv 15), (symv 0, symv 0), (symv 2, symv 2), (.int .i64 1, symv 16), (symv 1, symv 1), (symv 13, symv 13)] := by kernel_rfl
def F6 : List (FOp × Value) := [(.bin .lss 3 (symv 15) (symv 14), .bool true),
    (.ixa 22 (symv 0) (symv 15), symv 17),
    (.ld 24 (symv 17), .agg ⟨[symv 18, symv 19, symv 20, symv 21]⟩),
    (.bin .gtr 3 (symv 18) (symv 2), .bool true)]
def C6 : List (FuncId × List Value × Value) := []
def F7 : List (FOp × Value) := []
def C7 : List (FuncId × List Value × Value) := []
theorem e6 : endVal Tryz.prog Tryz.f16 (leave' 67 F7 C7 (stopKs at0) (at' 67 F6 C6 (stopCode at0) (headSt head0 bks0))) = some (.tuple ⟨[.agg ⟨[.int .i64 0, .int .i64 0, .int .i64 0, .int .i64 0]⟩, .int .i64 22]⟩) := by kernel_rfl
def F8 : List (FOp × Value) := [(.bin .lss 3 (symv 15) (symv 14), .bool true),
    (.ixa 22 (symv 0) (symv 15), symv 17),
    (.ld 24 (symv 17), .agg ⟨[symv 18, symv 19, symv 20, symv 21]⟩),
    (.bin .gtr 3 (symv 18) (symv 2), .bool false),
    (.bin .add 3 (symv 19) (.int .i64 1), symv 22),
    (.mx #[3, 3] 3 (symv 16) (symv 22), symv 23),
    (.bin .add 3 (symv 15) (.int .i64 1), symv 24)]
def C8 : List (FuncId × List Value × Value) := []
theorem e7 : backObs head0 bks0 (at' 67 F8 C8 (stopCode at0) (headSt head0 bks0)) = some [(symv 14, symv 14), (symv 2, symv 2), (symv 24, symv 15), (symv 0, symv 0), (symv 2, symv 2), (symv 23, symv 16), (symv 1, symv 1), (symv 13, symv 13)] := by kernel_rfl
def F9 : List (FOp × Value) := [(.bin .lss 3 (symv 15) (symv 14), .bool false)]
def C9 : List (FuncId × List Value × Value) := []
def F10 : List (FOp × Value) := [(.bin .gtr 3 (symv 13) (.int .i64 1000), .bool true)]
def C10 : List (FuncId × List Value × Value) := []
theorem e8 : endVal Tryz.prog Tryz.f16 (leave' 67 F10 C10 (stopKs at0) (at' 67 F9 C9 (stopCode at0) (headSt head0 bks0))) = some (.tuple ⟨[.agg ⟨[.int .i64 0, .int .i64 0, .int .i64 0, .int .i64 0]⟩, .int .i64 15]⟩) := by kernel_rfl
def F11 : List (FOp × Value) := [(.bin .gtr 3 (symv 13) (.int .i64 1000), .bool false),
    (.bin .gtr 3 (symv 16) (.int .i64 1000000), .bool true)]
def C11 : List (FuncId × List Value × Value) := []
theorem e9 : endVal Tryz.prog Tryz.f16 (leave' 67 F11 C11 (stopKs at0) (at' 67 F9 C9 (stopCode at0) (headSt head0 bks0))) = some (.tuple ⟨[.agg ⟨[.int .i64 0, .int .i64 0, .int .i64 0, .int .i64 0]⟩, .int .i64 15]⟩) := by kernel_rfl
def F12 : List (FOp × Value) := [(.bin .gtr 3 (symv 13) (.int .i64 1000), .bool false),
    (.bin .gtr 3 (symv 16) (.int .i64 1000000), .bool false)]
def C12 : List (FuncId × List Value × Value) := []
theorem e10 : endVal Tryz.prog Tryz.f16 (leave' 67 F12 C12 (stopKs at0) (at' 67 F9 C9 (stopCode at0) (headSt head0 bks0))) = some (.tuple ⟨[.agg ⟨[symv 2, symv 16, symv 1, symv 13]⟩, .int .i64 0]⟩) := by kernel_rfl
@[reducible] noncomputable def vL (l : List St) (a_l : Option Addr) (c_l : Nat) (site : Int) (tick : Int) (i : Nat) : List Value := [.slice a_l l.length c_l, .int .i64 site, .int .i64 tick, .int .i64 (cntAll l 1), .int .i64 (cntAll l 2), .int .i64 (cntAll l 3), .int .i64 (cntAll l 4), .int .i64 (cntAll l 5), .int .i64 (cntAll l 6), .int .i64 (cntAll l 7), .int .i64 (cntAll l 8), .int .i64 (site - 1), .int .i64 (cntAll l site), .int .i64 ((cntAll l site) + 1), .int .i64 ((l.length : Nat) : Int), .int .i64 ((i : Nat) : Int), .int .i64 (clkTo l i), cellPtr (.slice a_l l.length c_l) (i * 4), .int .i64 (l.getD (i) default).1, .int .i64 (l.getD (i) default).2.1, .int .i64 (l.getD (i) default).2.2.1, .int .i64 (l.getD (i) default).2.2.2, .int .i64 ((l.getD (i) default).2.1 + 1), .int .i64 (max (clkTo l i) ((l.getD (i) default).2.1 + 1)), .int .i64 ((i + 1 : Nat) : Int)]
@[reducible] noncomputable def sg (M : Mem) (l : List St) (a_l : Option Addr) (c_l : Nat) (site : Int) (tick : Int) (i : Nat) : Sig := sgL M (vL l a_l c_l site tick i)
set_option maxHeartbeats 4000000 in
set_option maxRecDepth 100000 in
theorem any (W : World) {v_l : Value} {l : List St} (hl : Arr (heapOf W) 4 encS v_l l) (site : Int) (tick : Int) (hn : (l.length : Int) < 9223372036854775807) : Calls Tryz.prog 16 #[v_l, .int .i64 site, .int .i64 tick] W fun e w' => e = .returned (nextV l site tick) ∧ Low W.heap.size W w' := by
  obtain ⟨a_l, c_l, rfl⟩ := hl.slice
  refine @walk_enter (sg (heapOf W) l a_l c_l site tick 0) Tryz.prog 16 Tryz.f16 body [symv 0, symv 1, symv 2] (slots [(2, symv 2), (1, symv 1), (0, symv 0)]) N W _ Tryz.func16 (by kernel_rfl) (by kernel_rfl) (by kernel_rfl) (by kernel_rfl) (immW_sgL W _) fun a hh => ?_
  letI := (sg (heapOf W) l a_l c_l site tick 0)
  have hcb := cntAll_bound l site
  by_cases h0 : site < 1
  · refine walk_to (F := F0) (T := C0) (fuel := 1000) (d := 10) mixed (allF_cons (FactOk.bi rfl rfl rfl rfl rfl rfl (boolT (by omega))) allF_nil) allC_nil ?_ hh
    exact ostop_end e0 fun w2 hLow hIn => ⟨(by show Ending.returned _ = _; congr 1; first | exact nextV_err (nextErr_arg (by omega)) (by decide) | exact nextV_err (nextErr_tick (by omega) (by omega)) (by decide) | exact nextV_err (nextErr_stale (by omega) (by omega) (show i < l.length by omega) (by omega)) (by decide) | exact nextV_err (nextErr_full (by omega) (by omega) (allTo hI.2 (by omega)) (by rw [← clkTo_len hI.1 (by omega)]; omega)) (by decide) | exact nextV_okAt hI.1 (by omega) (by omega) (by omega) hI.2 (by omega)), hLow⟩ 
  · by_cases h1 : 8 < site
    · refine walk_to (F := F1) (T := C1) (fuel := 1000) (d := 10) mixed (allF_cons (FactOk.bi rfl rfl rfl rfl rfl rfl (boolF (by omega))) (allF_cons (FactOk.bi rfl rfl rfl rfl rfl rfl (boolT (by omega))) allF_nil)) allC_nil ?_ hh
      exact ostop_end e1 fun w2 hLow hIn => ⟨(by show Ending.returned _ = _; congr 1; first | exact nextV_err (nextErr_arg (by omega)) (by decide) | exact nextV_err (nextErr_tick (by omega) (by omega)) (by decide) | exact nextV_err (nextErr_stale (by omega) (by omega) (show i < l.length by omega) (by omega)) (by decide) | exact nextV_err (nextErr_full (by omega) (by omega) (allTo hI.2 (by omega)) (by rw [← clkTo_len hI.1 (by omega)]; omega)) (by decide) | exact nextV_okAt hI.1 (by omega) (by omega) (by omega) hI.2 (by omega)), hLow⟩ 
    · by_cases h2 : 0 ≤ firstBad l
      · refine walk_to (F := F2) (T := C2) (fuel := 1000) (d := 10) mixed (allF_cons (FactOk.bi rfl rfl rfl rfl rfl rfl (boolF (by omega))) (allF_cons (FactOk.bi rfl rfl rfl rfl rfl rfl (boolF (by omega))) allF_nil)) (allC_cons (callContT rfl rfl hl hn h2) allC_nil) ?_ hh
        exact ostop_end e2 fun w2 hLow hIn => ⟨(by show Ending.returned _ = _; congr 1; first | exact nextV_err (nextErr_arg (by omega)) (by decide) | exact nextV_err (nextErr_tick (by omega) (by omega)) (by decide) | exact nextV_err (nextErr_stale (by omega) (by omega) (show i < l.length by omega) (by omega)) (by decide) | exact nextV_err (nextErr_full (by omega) (by omega) (allTo hI.2 (by omega)) (by rw [← clkTo_len hI.1 (by omega)]; omega)) (by decide) | exact nextV_okAt hI.1 (by omega) (by omega) (by omega) hI.2 (by omega)), hLow⟩ 
      · by_cases h3 : tick < 0
        · refine walk_to (F := F3) (T := C3) (fuel := 1000) (d := 10) mixed (allF_cons (FactOk.bi rfl rfl rfl rfl rfl rfl (boolF (by omega))) (allF_cons (FactOk.bi rfl rfl rfl rfl rfl rfl (boolF (by omega))) (allF_cons (FactOk.bi rfl rfl rfl rfl rfl rfl (boolT (by omega))) allF_nil))) (allC_cons (callContF rfl rfl hl hn h2) allC_nil) ?_ hh
          exact ostop_end e3 fun w2 hLow hIn => ⟨(by show Ending.returned _ = _; congr 1; first | exact nextV_err (nextErr_arg (by omega)) (by decide) | exact nextV_err (nextErr_tick (by omega) (by omega)) (by decide) | exact nextV_err (nextErr_stale (by omega) (by omega) (show i < l.length by omega) (by omega)) (by decide) | exact nextV_err (nextErr_full (by omega) (by omega) (allTo hI.2 (by omega)) (by rw [← clkTo_len hI.1 (by omega)]; omega)) (by decide) | exact nextV_okAt hI.1 (by omega) (by omega) (by omega) hI.2 (by omega)), hLow⟩ 
        · by_cases h4 : 4000 < tick
          · refine walk_to (F := F4) (T := C4) (fuel := 1000) (d := 10) mixed (allF_cons (FactOk.bi rfl rfl rfl rfl rfl rfl (boolF (by omega))) (allF_cons (FactOk.bi rfl rfl rfl rfl rfl rfl (boolF (by omega))) (allF_cons (FactOk.bi rfl rfl rfl rfl rfl rfl (boolF (by omega))) (allF_cons (FactOk.bi rfl rfl rfl rfl rfl rfl (boolT (by omega))) allF_nil)))) (allC_cons (callContF rfl rfl hl hn h2) allC_nil) ?_ hh
            exact ostop_end e4 fun w2 hLow hIn => ⟨(by show Ending.returned _ = _; congr 1; first | exact nextV_err (nextErr_arg (by omega)) (by decide) | exact nextV_err (nextErr_tick (by omega) (by omega)) (by decide) | exact nextV_err (nextErr_stale (by omega) (by omega) (show i < l.length by omega) (by omega)) (by decide) | exact nextV_err (nextErr_full (by omega) (by omega) (allTo hI.2 (by omega)) (by rw [← clkTo_len hI.1 (by omega)]; omega)) (by decide) | exact nextV_okAt hI.1 (by omega) (by omega) (by omega) hI.2 (by omega)), hLow⟩ 
          · refine walk_to (F := F5) (T := C5) (fuel := 1000) (d := 10) mixed (allF_cons (FactOk.bi rfl rfl rfl rfl rfl rfl (boolF (by omega))) (allF_cons (FactOk.bi rfl rfl rfl rfl rfl rfl (boolF (by omega))) (allF_cons (FactOk.bi rfl rfl rfl rfl rfl rfl (boolF (by omega))) (allF_cons (FactOk.bi rfl rfl rfl rfl rfl rfl (boolF (by omega))) (allF_cons (FactOk.bi rfl rfl rfl rfl rfl rfl (intI (by omega) (by omega) (by omega))) (allF_cons (ixCounts rfl rfl rfl rfl rfl rfl (by omega) (by omega)) (allF_cons (FactOk.bi rfl rfl rfl rfl rfl rfl (intI (by omega) (by omega) (by omega))) (allF_cons (FactOk.arrLen hl rfl rfl under27 rfl rfl) allF_nil)))))))) (allC_cons (callContF rfl rfl hl hn h2) (allC_cons (callCounts rfl rfl rfl rfl hl hn) allC_nil)) ?_ hh
            refine ostop_loop (sg := (fun i => sg (heapOf W) l a_l c_l site tick i)) (fun i => i ≤ l.length ∧ (∀ j, j < i → ∀ x, l[j]? = some x → x.1 ≤ tick)) (fun i => l.length - i) 0 e5 (meet_cons (by first | exact meetV (.int .i64 ((l.length : Nat) : Int)) rfl rfl | exact meetI rfl rfl (by exact clkTo_succ (by omega))) (meet_cons (by first | exact meetV (.int .i64 tick) rfl rfl | exact meetI rfl rfl (by exact clkTo_succ (by omega))) (meet_cons (by first | rfl | exact meetInt (by exact clkTo_succ (by omega))) (meet_cons (by first | exact meetV (.slice a_l l.length c_l) rfl rfl | exact meetI rfl rfl (by exact clkTo_succ (by omega))) (meet_cons (by first | exact meetV (.int .i64 tick) rfl rfl | exact meetI rfl rfl (by exact clkTo_succ (by omega))) (meet_cons (by first | rfl | exact meetInt (by exact clkTo_succ (by omega))) (meet_cons (by first | exact meetV (.int .i64 site) rfl rfl | exact meetI rfl rfl (by exact clkTo_succ (by omega))) (meet_cons (by first | exact meetV (.int .i64 ((cntAll l site) + 1)) rfl rfl | exact meetI rfl rfl (by exact clkTo_succ (by omega))) meet_nil)))))))) (fun _ _ h => h) (by exact ⟨Nat.zero_le _, fun j h => absurd h (Nat.not_lt_zero _)⟩) ?_
            intro i hI aC w hh
            letI := (sg (heapOf W) l a_l c_l site tick i)
            have hv := validAt (firstBad_neg.1 (show firstBad l < 0 by omega)) i
            by_cases p0 : ((i : Nat) : Int) < ((l.length : Nat) : Int)
            · by_cases p1 : tick < (l.getD (i) default).1
              · refine walk_to (F := F6) (T := C6) (fuel := 1000) (d := 10) mixed (allF_cons (FactOk.bi rfl rfl rfl rfl rfl rfl (boolT (by omega))) (allF_cons (FactOk.arrIxa hl (show i < l.length by omega) rfl rfl rfl under27 sizeSt rfl rfl rfl) (allF_cons (FactOk.arrLd hl (getSome (show i < l.length by omega)) rfl rfl aggSt sizeSt rfl rfl rfl) (allF_cons (FactOk.bi rfl rfl rfl rfl rfl rfl (boolT (by omega))) allF_nil)))) allC_nil ?_ hh
                refine walk_leave (F := F7) (T := C7) (fuel := 1000) (d := 10) mixed allF_nil allC_nil ?_
                exact ostop_end e6 fun w2 hLow hIn => ⟨(by show Ending.returned _ = _; congr 1; first | exact nextV_err (nextErr_arg (by omega)) (by decide) | exact nextV_err (nextErr_tick (by omega) (by omega)) (by decide) | exact nextV_err (nextErr_stale (by omega) (by omega) (show i < l.length by omega) (by omega)) (by decide) | exact nextV_err (nextErr_full (by omega) (by omega) (allTo hI.2 (by omega)) (by rw [← clkTo_len hI.1 (by omega)]; omega)) (by decide) | exact nextV_okAt hI.1 (by omega) (by omega) (by omega) hI.2 (by omega)), hLow⟩ 
              · refine walk_to (F := F8) (T := C8) (fuel := 1000) (d := 10) mixed (allF_cons (FactOk.bi rfl rfl rfl rfl rfl rfl (boolT (by omega))) (allF_cons (FactOk.arrIxa hl (show i < l.length by omega) rfl rfl rfl under27 sizeSt rfl rfl rfl) (allF_cons (FactOk.arrLd hl (getSome (show i < l.length by omega)) rfl rfl aggSt sizeSt rfl rfl rfl) (allF_cons (FactOk.bi rfl rfl rfl rfl rfl rfl (boolF (by omega))) (allF_cons (FactOk.bi rfl rfl rfl rfl rfl rfl (intI (by omega) (by omega) (by omega))) (allF_cons (FactOk.maxI rfl rfl rfl rfl rfl rfl) (allF_cons (FactOk.bi rfl rfl rfl rfl rfl rfl (intI (by omega) (by omega) (by omega))) allF_nil))))))) allC_nil ?_ hh
                exact ostop_backM (s1 := (sg (heapOf W) l a_l c_l site tick i)) (sg := (fun i => sg (heapOf W) l a_l c_l site tick i)) (I := fun i => i ≤ l.length ∧ (∀ j, j < i → ∀ x, l[j]? = some x → x.1 ≤ tick)) (μ := fun i => l.length - i) (x := i) (i + 1) e7 (meet_cons (by first | exact meetV (.int .i64 ((l.length : Nat) : Int)) rfl rfl | exact meetI rfl rfl (by exact clkTo_succ (by omega))) (meet_cons (by first | exact meetV (.int .i64 tick) rfl rfl | exact meetI rfl rfl (by exact clkTo_succ (by omega))) (meet_cons (by first | exact meetV (.int .i64 ((i + 1 : Nat) : Int)) rfl rfl | exact meetI rfl rfl (by exact clkTo_succ (by omega))) (meet_cons (by first | exact meetV (.slice a_l l.length c_l) rfl rfl | exact meetI rfl rfl (by exact clkTo_succ (by omega))) (meet_cons (by first | exact meetV (.int .i64 tick) rfl rfl | exact meetI rfl rfl (by exact clkTo_succ (by omega))) (meet_cons (by first | exact meetV (.int .i64 (max (clkTo l i) ((l.getD (i) default).2.1 + 1))) rfl rfl | exact meetI rfl rfl (by exact clkTo_succ (by omega))) (meet_cons (by first | exact meetV (.int .i64 site) rfl rfl | exact meetI rfl rfl (by exact clkTo_succ (by omega))) (meet_cons (by first | exact meetV (.int .i64 ((cntAll l site) + 1)) rfl rfl | exact meetI rfl rfl (by exact clkTo_succ (by omega))) meet_nil)))))))) (fun _ _ h => h) (by exact ⟨by omega, fun j hj x hx => by rcases Nat.lt_succ_iff_lt_or_eq.1 hj with h | rfl; exact hI.2 j h x hx; rw [getSome (show j < l.length by omega)] at hx; cases hx; omega⟩) (by (try dsimp only); omega)
            · refine walk_to (F := F9) (T := C9) (fuel := 1000) (d := 10) mixed (allF_cons (FactOk.bi rfl rfl rfl rfl rfl rfl (boolF (by omega))) allF_nil) allC_nil ?_ hh
              by_cases q0 : 1000 < ((cntAll l site) + 1)
              · refine walk_leave (F := F10) (T := C10) (fuel := 1000) (d := 10) mixed (allF_cons (FactOk.bi rfl rfl rfl rfl rfl rfl (boolT (by omega))) allF_nil) allC_nil ?_
                exact ostop_end e8 fun w2 hLow hIn => ⟨(by show Ending.returned _ = _; congr 1; first | exact nextV_err (nextErr_arg (by omega)) (by decide) | exact nextV_err (nextErr_tick (by omega) (by omega)) (by decide) | exact nextV_err (nextErr_stale (by omega) (by omega) (show i < l.length by omega) (by omega)) (by decide) | exact nextV_err (nextErr_full (by omega) (by omega) (allTo hI.2 (by omega)) (by rw [← clkTo_len hI.1 (by omega)]; omega)) (by decide) | exact nextV_okAt hI.1 (by omega) (by omega) (by omega) hI.2 (by omega)), hLow⟩ 
              · by_cases q1 : 1000000 < (clkTo l i)
                · refine walk_leave (F := F11) (T := C11) (fuel := 1000) (d := 10) mixed (allF_cons (FactOk.bi rfl rfl rfl rfl rfl rfl (boolF (by omega))) (allF_cons (FactOk.bi rfl rfl rfl rfl rfl rfl (boolT (by omega))) allF_nil)) allC_nil ?_
                  exact ostop_end e9 fun w2 hLow hIn => ⟨(by show Ending.returned _ = _; congr 1; first | exact nextV_err (nextErr_arg (by omega)) (by decide) | exact nextV_err (nextErr_tick (by omega) (by omega)) (by decide) | exact nextV_err (nextErr_stale (by omega) (by omega) (show i < l.length by omega) (by omega)) (by decide) | exact nextV_err (nextErr_full (by omega) (by omega) (allTo hI.2 (by omega)) (by rw [← clkTo_len hI.1 (by omega)]; omega)) (by decide) | exact nextV_okAt hI.1 (by omega) (by omega) (by omega) hI.2 (by omega)), hLow⟩ 
                · refine walk_leave (F := F12) (T := C12) (fuel := 1000) (d := 10) mixed (allF_cons (FactOk.bi rfl rfl rfl rfl rfl rfl (boolF (by omega))) (allF_cons (FactOk.bi rfl rfl rfl rfl rfl rfl (boolF (by omega))) allF_nil)) allC_nil ?_
                  exact ostop_end e10 fun w2 hLow hIn => ⟨(by show Ending.returned _ = _; congr 1; first | exact nextV_err (nextErr_arg (by omega)) (by decide) | exact nextV_err (nextErr_tick (by omega) (by omega)) (by decide) | exact nextV_err (nextErr_stale (by omega) (by omega) (show i < l.length by omega) (by omega)) (by decide) | exact nextV_err (nextErr_full (by omega) (by omega) (allTo hI.2 (by omega)) (by rw [← clkTo_len hI.1 (by omega)]; omega)) (by decide) | exact nextV_okAt hI.1 (by omega) (by omega) (by omega) hI.2 (by omega)), hLow⟩ 
end NextG
end AE
end Go.Proofs.YtheaofepenbcgaaGreatDoor

/- Next of the reference -/
namespace Go.Proofs.YtheaofepenbcgaaGreatDoor
open Go Go.Proofs Go.RowKit
namespace AE
namespace RNext
noncomputable def body : Code := (Tryz.f17.body).getD .skip
def N : Nat := 82
noncomputable abbrev at' (N : Nat) (F : List (FOp × Value)) (C : List (FuncId × List Value × Value)) (c : Code) (s : ASt) : Option Stop := evalTo Tryz.prog F C N 1000 10 c s
noncomputable abbrev leave' (N : Nat) (F : List (FOp × Value)) (C : List (FuncId × List Value × Value)) (ks : List KI) (o : Option Stop) : Option Stop := evalLeave Tryz.prog F C N 1000 10 ks o
noncomputable abbrev unr' (N : Nat) (F : List (FOp × Value)) (C : List (FuncId × List Value × Value)) (m : Nat) (o : Option Stop) : Option Stop := evalUnroll Tryz.prog F C N 1000 10 m o
noncomputable abbrev res' (N : Nat) (F : List (FOp × Value)) (C : List (FuncId × List Value × Value)) (ks : List KI) (x : AX) (s : ASt) : Option Stop := evalRes Tryz.prog F C N 1000 10 ks x s
noncomputable abbrev ops' (N : Nat) (F : List (FOp × Value)) (C : List (FuncId × List Value × Value)) (r : List Oper) (ops : Array Oper) (ks : List KI) (s : ASt) : Option Stop := evalOps Tryz.prog F C N 1000 10 r ops ks s
def s0 : ASt := { sl := slots [(2, symv 2), (1, symv 1), (0, symv 0)], ms := [], A := start }
def F0 : List (FOp × Value) := []
def C0 : List (FuncId × List Value × Value) := []
noncomputable def bks0 : List Bk := [⟨.cells [.int .i64 0, .int .i64 0, .int .i64 0, .int .i64 0], 24, 0⟩]
def head0 : Sl := slots [(11, symv 6), (10, symv 5), (9, symv 4), (8, symv 3), (6, .pointer (some ⟨0, 0, none⟩)), (2, symv 2), (1, symv 1), (0, symv 0)]
noncomputable abbrev at0 := at' 82 F0 C0 body s0
set_option maxRecDepth 100000 in
theorem e0 : headObs head0 bks0 at0 = some [(symv 0, symv 0), (symv 1, symv 1), (.int .i64 0, symv 6), (.int .i64 0, symv 4), (symv 2, symv 2), (.int .i64 0, symv 3), (.bool false, symv 5)] := by kernel_rfl
def headB1 : Sl := slots [(11, symv 6), (10, .bool true), (9, symv 4), (8, symv 3), (6, .pointer (some ⟨0, 0, none⟩)), (2, symv 2), (1, symv 1), (0, symv 0)]
set_option maxRecDepth 100000 in
theorem e1 : trAll (headSt head0 bks0) headB1 bks0 = some [(symv 0, symv 0), (symv 1, symv 1), (symv 6, symv 6), (symv 4, symv 4), (symv 2, symv 2), (symv 3, symv 3), (symv 5, .bool true)] := by kernel_rfl
def F1 : List (FOp × Value) := [(.len #[22] 3 (symv 0), symv 7),
    (.bin .lss 3 (symv 6) (symv 7), .bool true),
    (.ixa 22 (symv 0) (symv 6), symv 8),
    (.ld 24 (symv 8), .agg ⟨[symv 9, symv 10, symv 11, symv 12]⟩),
    (.fa 24 (symv 8) 1, symv 13),
    (.ld 3 (symv 13), symv 10),
    (.mx #[3, 3] 3 (symv 3) (symv 10), symv 14),
    (.fa 24 (symv 8) 2, symv 15),
    (.ld 3 (symv 15), symv 11),
    (.bin .eql 3 (symv 11) (symv 1), .bool true),
    (.fa 24 (symv 8) 3, symv 16),
    (.ld 3 (symv 16), symv 12),
    (.mx #[3, 3] 3 (symv 4) (symv 12), symv 17),
    (.bin .add 3 (symv 6) (.int .i64 1), symv 18)]
def C1 : List (FuncId × List Value × Value) := [(11, [.agg ⟨[symv 9, symv 10, symv 11, symv 12]⟩], .bool true)]
set_option maxRecDepth 100000 in
theorem e2 : backObs head0 bks0 (at' 82 F1 C1 (stopCode at0) (headSt headB1 bks0)) = some [(symv 0, symv 0), (symv 1, symv 1), (symv 18, symv 6), (symv 17, symv 4), (symv 2, symv 2), (symv 14, symv 3), (.bool true, symv 5)] := by kernel_rfl
def F2 : List (FOp × Value) := [(.len #[22] 3 (symv 0), symv 7),
    (.bin .lss 3 (symv 6) (symv 7), .bool true),
    (.ixa 22 (symv 0) (symv 6), symv 8),
    (.ld 24 (symv 8), .agg ⟨[symv 9, symv 10, symv 11, symv 12]⟩),
    (.fa 24 (symv 8) 1, symv 13),
    (.ld 3 (symv 13), symv 10),
    (.mx #[3, 3] 3 (symv 3) (symv 10), symv 14),
    (.fa 24 (symv 8) 2, symv 15),
    (.ld 3 (symv 15), symv 11),
    (.bin .eql 3 (symv 11) (symv 1), .bool false),
    (.bin .add 3 (symv 6) (.int .i64 1), symv 18)]
def C2 : List (FuncId × List Value × Value) := [(11, [.agg ⟨[symv 9, symv 10, symv 11, symv 12]⟩], .bool true)]
set_option maxRecDepth 100000 in
theorem e3 : backObs head0 bks0 (at' 82 F2 C2 (stopCode at0) (headSt headB1 bks0)) = some [(symv 0, symv 0), (symv 1, symv 1), (symv 18, symv 6), (symv 4, symv 4), (symv 2, symv 2), (symv 14, symv 3), (.bool true, symv 5)] := by kernel_rfl
def F3 : List (FOp × Value) := [(.len #[22] 3 (symv 0), symv 7),
    (.bin .lss 3 (symv 6) (symv 7), .bool true),
    (.ixa 22 (symv 0) (symv 6), symv 8),
    (.ld 24 (symv 8), .agg ⟨[symv 9, symv 10, symv 11, symv 12]⟩)]
def C3 : List (FuncId × List Value × Value) := [(11, [.agg ⟨[symv 9, symv 10, symv 11, symv 12]⟩], .bool false)]
set_option maxRecDepth 100000 in
theorem e4 : endVal Tryz.prog Tryz.f17 (leave' 82 F0 C0 (stopKs at0) (at' 82 F3 C3 (stopCode at0) (headSt headB1 bks0))) = some (.tuple ⟨[.agg ⟨[.int .i64 0, .int .i64 0, .int .i64 0, .int .i64 0]⟩, .int .i64 1]⟩) := by kernel_rfl
def F4 : List (FOp × Value) := [(.len #[22] 3 (symv 0), symv 7),
    (.bin .lss 3 (symv 6) (symv 7), .bool false)]
def C4 : List (FuncId × List Value × Value) := []
def F5 : List (FOp × Value) := [(.bin .geq 3 (symv 1) (.int .i64 1), .bool true),
    (.bin .leq 3 (symv 1) (.int .i64 8), .bool true),
    (.bin .geq 3 (symv 2) (.int .i64 0), .bool true),
    (.bin .leq 3 (symv 2) (.int .i64 4000), .bool true)]
def C5 : List (FuncId × List Value × Value) := []
set_option maxRecDepth 100000 in
theorem e5 : endVal Tryz.prog Tryz.f17 (leave' 82 F5 C5 (stopKs at0) (at' 82 F4 C4 (stopCode at0) (headSt headB1 bks0))) = some (.tuple ⟨[.agg ⟨[.int .i64 0, .int .i64 0, .int .i64 0, .int .i64 0]⟩, .int .i64 22]⟩) := by kernel_rfl
def F6 : List (FOp × Value) := [(.bin .geq 3 (symv 1) (.int .i64 1), .bool true),
    (.bin .leq 3 (symv 1) (.int .i64 8), .bool true),
    (.bin .geq 3 (symv 2) (.int .i64 0), .bool true),
    (.bin .leq 3 (symv 2) (.int .i64 4000), .bool false)]
def C6 : List (FuncId × List Value × Value) := []
set_option maxRecDepth 100000 in
theorem e6 : endVal Tryz.prog Tryz.f17 (leave' 82 F6 C6 (stopKs at0) (at' 82 F4 C4 (stopCode at0) (headSt headB1 bks0))) = some (.tuple ⟨[.agg ⟨[.int .i64 0, .int .i64 0, .int .i64 0, .int .i64 0]⟩, .int .i64 19]⟩) := by kernel_rfl
def F7 : List (FOp × Value) := [(.bin .geq 3 (symv 1) (.int .i64 1), .bool true),
    (.bin .leq 3 (symv 1) (.int .i64 8), .bool true),
    (.bin .geq 3 (symv 2) (.int .i64 0), .bool false)]
def C7 : List (FuncId × List Value × Value) := []
set_option maxRecDepth 100000 in
theorem e7 : endVal Tryz.prog Tryz.f17 (leave' 82 F7 C7 (stopKs at0) (at' 82 F4 C4 (stopCode at0) (headSt headB1 bks0))) = some (.tuple ⟨[.agg ⟨[.int .i64 0, .int .i64 0, .int .i64 0, .int .i64 0]⟩, .int .i64 19]⟩) := by kernel_rfl
def F8 : List (FOp × Value) := [(.bin .geq 3 (symv 1) (.int .i64 1), .bool true),
    (.bin .leq 3 (symv 1) (.int .i64 8), .bool false)]
def C8 : List (FuncId × List Value × Value) := []
set_option maxRecDepth 100000 in
theorem e8 : endVal Tryz.prog Tryz.f17 (leave' 82 F8 C8 (stopKs at0) (at' 82 F4 C4 (stopCode at0) (headSt headB1 bks0))) = some (.tuple ⟨[.agg ⟨[.int .i64 0, .int .i64 0, .int .i64 0, .int .i64 0]⟩, .int .i64 1]⟩) := by kernel_rfl
def F9 : List (FOp × Value) := [(.bin .geq 3 (symv 1) (.int .i64 1), .bool false)]
def C9 : List (FuncId × List Value × Value) := []
set_option maxRecDepth 100000 in
theorem e9 : endVal Tryz.prog Tryz.f17 (leave' 82 F9 C9 (stopKs at0) (at' 82 F4 C4 (stopCode at0) (headSt headB1 bks0))) = some (.tuple ⟨[.agg ⟨[.int .i64 0, .int .i64 0, .int .i64 0, .int .i64 0]⟩, .int .i64 1]⟩) := by kernel_rfl
def headB10 : Sl := slots [(11, symv 6), (10, .bool false), (9, symv 4), (8, symv 3), (6, .pointer (some ⟨0, 0, none⟩)), (2, symv 2), (1, symv 1), (0, symv 0)]
set_option maxRecDepth 100000 in
theorem e10 : trAll (headSt head0 bks0) headB10 bks0 = some [(symv 0, symv 0), (symv 1, symv 1), (symv 6, symv 6), (symv 4, symv 4), (symv 2, symv 2), (symv 3, symv 3), (symv 5, .bool false)] := by kernel_rfl
def F10 : List (FOp × Value) := [(.len #[22] 3 (symv 0), symv 7),
    (.bin .lss 3 (symv 6) (symv 7), .bool true),
    (.ixa 22 (symv 0) (symv 6), symv 8),
    (.ld 24 (symv 8), .agg ⟨[symv 9, symv 10, symv 11, symv 12]⟩),
    (.fa 24 (symv 8) 1, symv 13),
    (.ld 3 (symv 13), symv 10),
    (.mx #[3, 3] 3 (symv 3) (symv 10), symv 14),
    (.fa 24 (symv 8) 0, symv 19),
    (.ld 3 (symv 19), symv 9),
    (.bin .gtr 3 (symv 9) (symv 2), .bool true),
    (.fa 24 (symv 8) 2, symv 15),
    (.ld 3 (symv 15), symv 11),
    (.bin .eql 3 (symv 11) (symv 1), .bool true),
    (.fa 24 (symv 8) 3, symv 16),
    (.ld 3 (symv 16), symv 12),
    (.mx #[3, 3] 3 (symv 4) (symv 12), symv 17),
    (.bin .add 3 (symv 6) (.int .i64 1), symv 18)]
def C10 : List (FuncId × List Value × Value) := [(11, [.agg ⟨[symv 9, symv 10, symv 11, symv 12]⟩], .bool true)]
set_option maxRecDepth 100000 in
theorem e11 : backObs head0 bks0 (at' 82 F10 C10 (stopCode at0) (headSt headB10 bks0)) = some [(symv 0, symv 0), (symv 1, symv 1), (symv 18, symv 6), (symv 17, symv 4), (symv 2, symv 2), (symv 14, symv 3), (.bool true, symv 5)] := by kernel_rfl
def F11 : List (FOp × Value) := [(.len #[22] 3 (symv 0), symv 7),
    (.bin .lss 3 (symv 6) (symv 7), .bool true),
    (.ixa 22 (symv 0) (symv 6), symv 8),
    (.ld 24 (symv 8), .agg ⟨[symv 9, symv 10, symv 11, symv 12]⟩),
    (.fa 24 (symv 8) 1, symv 13),
    (.ld 3 (symv 13), symv 10),
    (.mx #[3, 3] 3 (symv 3) (symv 10), symv 14),
    (.fa 24 (symv 8) 0, symv 19),
    (.ld 3 (symv 19), symv 9),
    (.bin .gtr 3 (symv 9) (symv 2), .bool true),
    (.fa 24 (symv 8) 2, symv 15),
    (.ld 3 (symv 15), symv 11),
    (.bin .eql 3 (symv 11) (symv 1), .bool false),
    (.bin .add 3 (symv 6) (.int .i64 1), symv 18)]
def C11 : List (FuncId × List Value × Value) := [(11, [.agg ⟨[symv 9, symv 10, symv 11, symv 12]⟩], .bool true)]
set_option maxRecDepth 100000 in
theorem e12 : backObs head0 bks0 (at' 82 F11 C11 (stopCode at0) (headSt headB10 bks0)) = some [(symv 0, symv 0), (symv 1, symv 1), (symv 18, symv 6), (symv 4, symv 4), (symv 2, symv 2), (symv 14, symv 3), (.bool true, symv 5)] := by kernel_rfl
def F12 : List (FOp × Value) := [(.len #[22] 3 (symv 0), symv 7),
    (.bin .lss 3 (symv 6) (symv 7), .bool true),
    (.ixa 22 (symv 0) (symv 6), symv 8),
    (.ld 24 (symv 8), .agg ⟨[symv 9, symv 10, symv 11, symv 12]⟩),
    (.fa 24 (symv 8) 1, symv 13),
    (.ld 3 (symv 13), symv 10),
    (.mx #[3, 3] 3 (symv 3) (symv 10), symv 14),
    (.fa 24 (symv 8) 0, symv 19),
    (.ld 3 (symv 19), symv 9),
    (.bin .gtr 3 (symv 9) (symv 2), .bool false),
    (.fa 24 (symv 8) 2, symv 15),
    (.ld 3 (symv 15), symv 11),
    (.bin .eql 3 (symv 11) (symv 1), .bool true),
    (.fa 24 (symv 8) 3, symv 16),
    (.ld 3 (symv 16), symv 12),
    (.mx #[3, 3] 3 (symv 4) (symv 12), symv 17),
    (.bin .add 3 (symv 6) (.int .i64 1), symv 18)]
def C12 : List (FuncId × List Value × Value) := [(11, [.agg ⟨[symv 9, symv 10, symv 11, symv 12]⟩], .bool true)]
set_option maxRecDepth 100000 in
theorem e13 : backObs head0 bks0 (at' 82 F12 C12 (stopCode at0) (headSt headB10 bks0)) = some [(symv 0, symv 0), (symv 1, symv 1), (symv 18, symv 6), (symv 17, symv 4), (symv 2, symv 2), (symv 14, symv 3), (.bool false, symv 5)] := by kernel_rfl
def F13 : List (FOp × Value) := [(.len #[22] 3 (symv 0), symv 7),
    (.bin .lss 3 (symv 6) (symv 7), .bool true),
    (.ixa 22 (symv 0) (symv 6), symv 8),
    (.ld 24 (symv 8), .agg ⟨[symv 9, symv 10, symv 11, symv 12]⟩),
    (.fa 24 (symv 8) 1, symv 13),
    (.ld 3 (symv 13), symv 10),
    (.mx #[3, 3] 3 (symv 3) (symv 10), symv 14),
    (.fa 24 (symv 8) 0, symv 19),
    (.ld 3 (symv 19), symv 9),
    (.bin .gtr 3 (symv 9) (symv 2), .bool false),
    (.fa 24 (symv 8) 2, symv 15),
    (.ld 3 (symv 15), symv 11),
    (.bin .eql 3 (symv 11) (symv 1), .bool false),
    (.bin .add 3 (symv 6) (.int .i64 1), symv 18)]
def C13 : List (FuncId × List Value × Value) := [(11, [.agg ⟨[symv 9, symv 10, symv 11, symv 12]⟩], .bool true)]
set_option maxRecDepth 100000 in
theorem e14 : backObs head0 bks0 (at' 82 F13 C13 (stopCode at0) (headSt headB10 bks0)) = some [(symv 0, symv 0), (symv 1, symv 1), (symv 18, symv 6), (symv 4, symv 4), (symv 2, symv 2), (symv 14, symv 3), (.bool false, symv 5)] := by kernel_rfl
set_option maxRecDepth 100000 in
theorem e15 : endVal Tryz.prog Tryz.f17 (leave' 82 F0 C0 (stopKs at0) (at' 82 F3 C3 (stopCode at0) (headSt headB10 bks0))) = some (.tuple ⟨[.agg ⟨[.int .i64 0, .int .i64 0, .int .i64 0, .int .i64 0]⟩, .int .i64 1]⟩) := by kernel_rfl
def F14 : List (FOp × Value) := [(.bin .geq 3 (symv 1) (.int .i64 1), .bool true),
    (.bin .leq 3 (symv 1) (.int .i64 8), .bool true),
    (.bin .geq 3 (symv 2) (.int .i64 0), .bool true),
    (.bin .leq 3 (symv 2) (.int .i64 4000), .bool true),
    (.bin .geq 3 (symv 4) (.int .i64 1000), .bool true)]
def C14 : List (FuncId × List Value × Value) := []
set_option maxRecDepth 100000 in
theorem e16 : endVal Tryz.prog Tryz.f17 (leave' 82 F14 C14 (stopKs at0) (at' 82 F4 C4 (stopCode at0) (headSt headB10 bks0))) = some (.tuple ⟨[.agg ⟨[.int .i64 0, .int .i64 0, .int .i64 0, .int .i64 0]⟩, .int .i64 15]⟩) := by kernel_rfl
def F15 : List (FOp × Value) := [(.bin .geq 3 (symv 1) (.int .i64 1), .bool true),
    (.bin .leq 3 (symv 1) (.int .i64 8), .bool true),
    (.bin .geq 3 (symv 2) (.int .i64 0), .bool true),
    (.bin .leq 3 (symv 2) (.int .i64 4000), .bool true),
    (.bin .geq 3 (symv 4) (.int .i64 1000), .bool false),
    (.bin .geq 3 (symv 3) (.int .i64 1000000), .bool true)]
def C15 : List (FuncId × List Value × Value) := []
set_option maxRecDepth 100000 in
theorem e17 : endVal Tryz.prog Tryz.f17 (leave' 82 F15 C15 (stopKs at0) (at' 82 F4 C4 (stopCode at0) (headSt headB10 bks0))) = some (.tuple ⟨[.agg ⟨[.int .i64 0, .int .i64 0, .int .i64 0, .int .i64 0]⟩, .int .i64 15]⟩) := by kernel_rfl
def F16 : List (FOp × Value) := [(.bin .geq 3 (symv 1) (.int .i64 1), .bool true),
    (.bin .leq 3 (symv 1) (.int .i64 8), .bool true),
    (.bin .geq 3 (symv 2) (.int .i64 0), .bool true),
    (.bin .leq 3 (symv 2) (.int .i64 4000), .bool true),
    (.bin .geq 3 (symv 4) (.int .i64 1000), .bool false),
    (.bin .geq 3 (symv 3) (.int .i64 1000000), .bool false),
    (.bin .add 3 (symv 3) (.int .i64 1), symv 20),
    (.bin .add 3 (symv 4) (.int .i64 1), symv 21)]
def C16 : List (FuncId × List Value × Value) := []
set_option maxRecDepth 100000 in
theorem e18 : endVal Tryz.prog Tryz.f17 (leave' 82 F16 C16 (stopKs at0) (at' 82 F4 C4 (stopCode at0) (headSt headB10 bks0))) = some (.tuple ⟨[.agg ⟨[symv 2, symv 20, symv 1, symv 21]⟩, .int .i64 0]⟩) := by kernel_rfl
set_option maxRecDepth 100000 in
theorem e19 : endVal Tryz.prog Tryz.f17 (leave' 82 F6 C6 (stopKs at0) (at' 82 F4 C4 (stopCode at0) (headSt headB10 bks0))) = some (.tuple ⟨[.agg ⟨[.int .i64 0, .int .i64 0, .int .i64 0, .int .i64 0]⟩, .int .i64 19]⟩) := by kernel_rfl
set_option maxRecDepth 100000 in
theorem e20 : endVal Tryz.prog Tryz.f17 (leave' 82 F7 C7 (stopKs at0) (at' 82 F4 C4 (stopCode at0) (headSt headB10 bks0))) = some (.tuple ⟨[.agg ⟨[.int .i64 0, .int .i64 0, .int .i64 0, .int .i64 0]⟩, .int .i64 19]⟩) := by kernel_rfl
set_option maxRecDepth 100000 in
theorem e21 : endVal Tryz.prog Tryz.f17 (leave' 82 F8 C8 (stopKs at0) (at' 82 F4 C4 (stopCode at0) (headSt headB10 bks0))) = some (.tuple ⟨[.agg ⟨[.int .i64 0, .int .i64 0, .int .i64 0, .int .i64 0]⟩, .int .i64 1]⟩) := by kernel_rfl
set_option maxRecDepth 100000 in
theorem e22 : endVal Tryz.prog Tryz.f17 (leave' 82 F9 C9 (stopKs at0) (at' 82 F4 C4 (stopCode at0) (headSt headB10 bks0))) = some (.tuple ⟨[.agg ⟨[.int .i64 0, .int .i64 0, .int .i64 0, .int .i64 0]⟩, .int .i64 1]⟩) := by kernel_rfl
@[reducible] noncomputable def vL (l : List St) (a_l : Option Addr) (c_l : Nat) (site : Int) (tick : Int) (clock : Int) (seq : Int) (late : Bool) (i : Nat) : List Value := [.slice a_l l.length c_l, .int .i64 site, .int .i64 tick, .int .i64 clock, .int .i64 seq, .bool late, .int .i64 ((i : Nat) : Int), .int .i64 ((l.length : Nat) : Int), cellPtr (.slice a_l l.length c_l) (i * 4), .int .i64 (l.getD (i) default).1, .int .i64 (l.getD (i) default).2.1, .int .i64 (l.getD (i) default).2.2.1, .int .i64 (l.getD (i) default).2.2.2, cellPtr (.slice a_l l.length c_l) (i * 4 + 1), .int .i64 (max clock (l.getD (i) default).2.1), cellPtr (.slice a_l l.length c_l) (i * 4 + 2), cellPtr (.slice a_l l.length c_l) (i * 4 + 3), .int .i64 (max seq (l.getD (i) default).2.2.2), .int .i64 ((i + 1 : Nat) : Int), cellPtr (.slice a_l l.length c_l) (i * 4 + 0), .int .i64 (clock + 1), .int .i64 (seq + 1)]
@[reducible] noncomputable def sg (M : Mem) (l : List St) (a_l : Option Addr) (c_l : Nat) (site : Int) (tick : Int) (clock : Int) (seq : Int) (late : Bool) (i : Nat) : Sig := sgL M (vL l a_l c_l site tick clock seq late i)
set_option maxHeartbeats 4000000 in
set_option maxRecDepth 100000 in
theorem any (W : World) {v_l : Value} {l : List St} (hl : Arr (heapOf W) 4 encS v_l l) (site : Int) (tick : Int) (hn : l.length ≤ 100000) : Calls Tryz.prog 17 #[v_l, .int .i64 site, .int .i64 tick] W fun e w' => e = .returned (nextV l site tick) ∧ Low W.heap.size W w' := by
  obtain ⟨a_l, c_l, rfl⟩ := hl.slice
  refine @walk_enter (sg (heapOf W) l a_l c_l site tick 0 0 false 0) Tryz.prog 17 Tryz.f17 body [symv 0, symv 1, symv 2] (slots [(2, symv 2), (1, symv 1), (0, symv 0)]) N W _ Tryz.func17 (by kernel_rfl) (by kernel_rfl) (by kernel_rfl) (by kernel_rfl) (immW_sgL W _) fun a hh => ?_
  letI := (sg (heapOf W) l a_l c_l site tick 0 0 false 0)
  refine walk_to (F := F0) (T := C0) (fuel := 1000) (d := 10) mixed allF_nil allC_nil ?_ hh
  refine ostop_loop (sg := (fun (⟨clock, seq, late, i⟩ : Int × Int × Bool × Nat) => sg (heapOf W) l a_l c_l site tick clock seq late i)) (fun (⟨clock, seq, late, i⟩ : Int × Int × Bool × Nat) => i ≤ l.length ∧ clock + 1 = clkTo l i ∧ seq = cntTo l site i ∧ (∀ j, j < i → ValidP (l.getD j default)) ∧ (late = true ↔ ∃ j, j < i ∧ tick < (l.getD j default).1) ∧ 0 ≤ clock ∧ 0 ≤ seq) (fun (⟨clock, seq, late, i⟩ : Int × Int × Bool × Nat) => l.length - i) ⟨0, 0, false, 0⟩ e0 (meet_cons (by exact meetV (.slice a_l l.length c_l) rfl rfl) (meet_cons (by exact meetV (.int .i64 site) rfl rfl) (meet_cons rfl (meet_cons rfl (meet_cons (by exact meetV (.int .i64 tick) rfl rfl) (meet_cons rfl (meet_cons rfl meet_nil))))))) (fun _ _ h => h) (by exact ⟨Nat.zero_le _, rfl, rfl, fun j h => absurd h (Nat.not_lt_zero _), by simp, by omega, by omega⟩) ?_
  intro ⟨clock, seq, late, i⟩ hI aC w hh
  letI := (sg (heapOf W) l a_l c_l site tick clock seq late i)
  rcases Bool.eq_false_or_eq_true late with hf_late | hf_late
  · replace hh := Here.move (s2 := (sg (heapOf W) l a_l c_l site tick clock seq late i)) e1 (meet_cons (by exact meetV (.slice a_l l.length c_l) rfl rfl) (meet_cons (by exact meetV (.int .i64 site) rfl rfl) (meet_cons (by exact meetV (.int .i64 ((i : Nat) : Int)) rfl rfl) (meet_cons (by exact meetV (.int .i64 seq) rfl rfl) (meet_cons (by exact meetV (.int .i64 tick) rfl rfl) (meet_cons (by exact meetV (.int .i64 clock) rfl rfl) (meet_cons (meetB rfl hf_late) meet_nil))))))) (fun _ _ h => h) (by first | exact Nat.zero_le _ | exact Nat.le_of_ble_eq_true rfl) (by exact sameC_none rfl) hh
    by_cases p0 : ((i : Nat) : Int) < ((l.length : Nat) : Int)
    · by_cases p1 : ValidP (l.getD (i) default)
      · by_cases p2 : (l.getD (i) default).2.2.1 = site
        · refine walk_to (F := F1) (T := C1) (fuel := 1000) (d := 10) mixed (allF_cons (FactOk.arrLen hl rfl rfl under27 rfl rfl) (allF_cons (FactOk.bi rfl rfl rfl rfl rfl rfl (boolT (by omega))) (allF_cons (FactOk.arrIxa hl (show i < l.length by omega) rfl rfl rfl under27 sizeSt rfl rfl rfl) (allF_cons (FactOk.arrLd hl (getSome (show i < l.length by omega)) rfl rfl aggSt sizeSt rfl rfl rfl) (allF_cons (arrFa1 hl (show i < l.length by omega) rfl rfl rfl rfl) (allF_cons (FactOk.arrLd1 (j := 1) hl (getSome (show i < l.length by omega)) rfl rfl aggInt rfl rfl rfl rfl) (allF_cons (FactOk.maxI rfl rfl rfl rfl rfl rfl) (allF_cons (arrFa2 hl (show i < l.length by omega) rfl rfl rfl rfl) (allF_cons (FactOk.arrLd1 (j := 2) hl (getSome (show i < l.length by omega)) rfl rfl aggInt rfl rfl rfl rfl) (allF_cons (FactOk.bi rfl rfl rfl rfl rfl rfl (boolT (by omega))) (allF_cons (arrFa3 hl (show i < l.length by omega) rfl rfl rfl rfl) (allF_cons (FactOk.arrLd1 (j := 3) hl (getSome (show i < l.length by omega)) rfl rfl aggInt rfl rfl rfl rfl) (allF_cons (FactOk.maxI rfl rfl rfl rfl rfl rfl) (allF_cons (FactOk.bi rfl rfl rfl rfl rfl rfl (intI (by omega) (by omega) (by omega))) allF_nil)))))))))))))) (allC_cons (callRValidT rfl rfl p1) allC_nil) ?_ hh
          exact ostop_backM (s1 := (sg (heapOf W) l a_l c_l site tick clock seq late i)) (sg := (fun (⟨clock, seq, late, i⟩ : Int × Int × Bool × Nat) => sg (heapOf W) l a_l c_l site tick clock seq late i)) (I := fun (⟨clock, seq, late, i⟩ : Int × Int × Bool × Nat) => i ≤ l.length ∧ clock + 1 = clkTo l i ∧ seq = cntTo l site i ∧ (∀ j, j < i → ValidP (l.getD j default)) ∧ (late = true ↔ ∃ j, j < i ∧ tick < (l.getD j default).1) ∧ 0 ≤ clock ∧ 0 ≤ seq) (μ := fun (⟨clock, seq, late, i⟩ : Int × Int × Bool × Nat) => l.length - i) (x := ⟨clock, seq, late, i⟩) ⟨(max clock (l.getD (i) default).2.1), (max seq (l.getD (i) default).2.2.2), true, i + 1⟩ e2 (meet_cons (by exact meetV (.slice a_l l.length c_l) rfl rfl) (meet_cons (by exact meetV (.int .i64 site) rfl rfl) (meet_cons (by exact meetV (.int .i64 ((i + 1 : Nat) : Int)) rfl rfl) (meet_cons (by exact meetV (.int .i64 (max seq (l.getD (i) default).2.2.2)) rfl rfl) (meet_cons (by exact meetV (.int .i64 tick) rfl rfl) (meet_cons (by exact meetV (.int .i64 (max clock (l.getD (i) default).2.1)) rfl rfl) (meet_cons rfl meet_nil))))))) (fun _ _ h => h) (by exact ⟨by omega, by rw [← clkTo_succ (by omega), ← hI.2.1]; omega, by rw [hI.2.2.1]; first | exact cntTo_yes (by omega) (by assumption) p1 | exact cntTo_no1 (by omega) (by assumption), fun j hj => by rcases Nat.lt_succ_iff_lt_or_eq.1 hj with h | rfl; exact hI.2.2.2.1 j h; exact p1, late_succ hI.2.2.2.2.1 (by first | exact ⟨fun _ => .inl hf_late, fun _ => rfl⟩ | exact ⟨fun _ => .inr (by omega), fun _ => rfl⟩ | exact ⟨fun h => (by cases h), fun h => (by rcases h with h | h; (rw [hf_late] at h; cases h); omega)⟩), by omega, by omega⟩) (by (try dsimp only); omega)
        · refine walk_to (F := F2) (T := C2) (fuel := 1000) (d := 10) mixed (allF_cons (FactOk.arrLen hl rfl rfl under27 rfl rfl) (allF_cons (FactOk.bi rfl rfl rfl rfl rfl rfl (boolT (by omega))) (allF_cons (FactOk.arrIxa hl (show i < l.length by omega) rfl rfl rfl under27 sizeSt rfl rfl rfl) (allF_cons (FactOk.arrLd hl (getSome (show i < l.length by omega)) rfl rfl aggSt sizeSt rfl rfl rfl) (allF_cons (arrFa1 hl (show i < l.length by omega) rfl rfl rfl rfl) (allF_cons (FactOk.arrLd1 (j := 1) hl (getSome (show i < l.length by omega)) rfl rfl aggInt rfl rfl rfl rfl) (allF_cons (FactOk.maxI rfl rfl rfl rfl rfl rfl) (allF_cons (arrFa2 hl (show i < l.length by omega) rfl rfl rfl rfl) (allF_cons (FactOk.arrLd1 (j := 2) hl (getSome (show i < l.length by omega)) rfl rfl aggInt rfl rfl rfl rfl) (allF_cons (FactOk.bi rfl rfl rfl rfl rfl rfl (boolF (by omega))) (allF_cons (FactOk.bi rfl rfl rfl rfl rfl rfl (intI (by omega) (by omega) (by omega))) allF_nil))))))))))) (allC_cons (callRValidT rfl rfl p1) allC_nil) ?_ hh
          exact ostop_backM (s1 := (sg (heapOf W) l a_l c_l site tick clock seq late i)) (sg := (fun (⟨clock, seq, late, i⟩ : Int × Int × Bool × Nat) => sg (heapOf W) l a_l c_l site tick clock seq late i)) (I := fun (⟨clock, seq, late, i⟩ : Int × Int × Bool × Nat) => i ≤ l.length ∧ clock + 1 = clkTo l i ∧ seq = cntTo l site i ∧ (∀ j, j < i → ValidP (l.getD j default)) ∧ (late = true ↔ ∃ j, j < i ∧ tick < (l.getD j default).1) ∧ 0 ≤ clock ∧ 0 ≤ seq) (μ := fun (⟨clock, seq, late, i⟩ : Int × Int × Bool × Nat) => l.length - i) (x := ⟨clock, seq, late, i⟩) ⟨(max clock (l.getD (i) default).2.1), seq, true, i + 1⟩ e3 (meet_cons (by exact meetV (.slice a_l l.length c_l) rfl rfl) (meet_cons (by exact meetV (.int .i64 site) rfl rfl) (meet_cons (by exact meetV (.int .i64 ((i + 1 : Nat) : Int)) rfl rfl) (meet_cons (by exact meetV (.int .i64 seq) rfl rfl) (meet_cons (by exact meetV (.int .i64 tick) rfl rfl) (meet_cons (by exact meetV (.int .i64 (max clock (l.getD (i) default).2.1)) rfl rfl) (meet_cons rfl meet_nil))))))) (fun _ _ h => h) (by exact ⟨by omega, by rw [← clkTo_succ (by omega), ← hI.2.1]; omega, by rw [hI.2.2.1]; first | exact cntTo_yes (by omega) (by assumption) p1 | exact cntTo_no1 (by omega) (by assumption), fun j hj => by rcases Nat.lt_succ_iff_lt_or_eq.1 hj with h | rfl; exact hI.2.2.2.1 j h; exact p1, late_succ hI.2.2.2.2.1 (by first | exact ⟨fun _ => .inl hf_late, fun _ => rfl⟩ | exact ⟨fun _ => .inr (by omega), fun _ => rfl⟩ | exact ⟨fun h => (by cases h), fun h => (by rcases h with h | h; (rw [hf_late] at h; cases h); omega)⟩), by omega, by omega⟩) (by (try dsimp only); omega)
      · refine walk_to (F := F3) (T := C3) (fuel := 1000) (d := 10) mixed (allF_cons (FactOk.arrLen hl rfl rfl under27 rfl rfl) (allF_cons (FactOk.bi rfl rfl rfl rfl rfl rfl (boolT (by omega))) (allF_cons (FactOk.arrIxa hl (show i < l.length by omega) rfl rfl rfl under27 sizeSt rfl rfl rfl) (allF_cons (FactOk.arrLd hl (getSome (show i < l.length by omega)) rfl rfl aggSt sizeSt rfl rfl rfl) allF_nil)))) (allC_cons (callRValidF rfl rfl p1) allC_nil) ?_ hh
        refine walk_leave (F := F0) (T := C0) (fuel := 1000) (d := 10) mixed allF_nil allC_nil ?_
        exact ostop_end e4 fun w2 hLow hIn => ⟨(by refine congrArg Ending.returned ?_; first | exact rn_bad (show i < l.length by omega) p1 | exact nextV_err (nextErr_arg (by omega)) (by decide) | exact rn_tick hI.2.2.2.1 (by omega) (by omega) (by omega) (by omega) | exact rn_stale hI.2.2.2.1 hI.1 (by omega) (by omega) (by omega) (by omega) (by omega) hI.2.2.2.2.1 hf_late | exact rn_full hI.2.2.2.1 hI.1 (by omega) (by omega) (by omega) (by omega) (by omega) hI.2.2.2.2.1 hf_late hI.2.1 hI.2.2.1 (by omega) | exact rn_ok hI.2.2.2.1 hI.1 (by omega) (by omega) (by omega) (by omega) (by omega) hI.2.2.2.2.1 hf_late hI.2.1 hI.2.2.1 (by omega) (by omega)), hLow⟩   -- returns .tuple ⟨[.agg ⟨[.int .i64 0, .int .i64 0, .int .i64 0, .int .i64 0]⟩, .int .i64 1]⟩
    · refine walk_to (F := F4) (T := C4) (fuel := 1000) (d := 10) mixed (allF_cons (FactOk.arrLen hl rfl rfl under27 rfl rfl) (allF_cons (FactOk.bi rfl rfl rfl rfl rfl rfl (boolF (by omega))) allF_nil)) allC_nil ?_ hh
      by_cases q0 : 1 ≤ site
      · by_cases q1 : site ≤ 8
        · by_cases q2 : 0 ≤ tick
          · by_cases q3 : tick ≤ 4000
            · refine walk_leave (F := F5) (T := C5) (fuel := 1000) (d := 10) mixed (allF_cons (FactOk.bi rfl rfl rfl rfl rfl rfl (boolT (by omega))) (allF_cons (FactOk.bi rfl rfl rfl rfl rfl rfl (boolT (by omega))) (allF_cons (FactOk.bi rfl rfl rfl rfl rfl rfl (boolT (by omega))) (allF_cons (FactOk.bi rfl rfl rfl rfl rfl rfl (boolT (by omega))) allF_nil)))) allC_nil ?_
              exact ostop_end e5 fun w2 hLow hIn => ⟨(by refine congrArg Ending.returned ?_; first | exact rn_bad (show i < l.length by omega) p1 | exact nextV_err (nextErr_arg (by omega)) (by decide) | exact rn_tick hI.2.2.2.1 (by omega) (by omega) (by omega) (by omega) | exact rn_stale hI.2.2.2.1 hI.1 (by omega) (by omega) (by omega) (by omega) (by omega) hI.2.2.2.2.1 hf_late | exact rn_full hI.2.2.2.1 hI.1 (by omega) (by omega) (by omega) (by omega) (by omega) hI.2.2.2.2.1 hf_late hI.2.1 hI.2.2.1 (by omega) | exact rn_ok hI.2.2.2.1 hI.1 (by omega) (by omega) (by omega) (by omega) (by omega) hI.2.2.2.2.1 hf_late hI.2.1 hI.2.2.1 (by omega) (by omega)), hLow⟩   -- returns .tuple ⟨[.agg ⟨[.int .i64 0, .int .i64 0, .int .i64 0, .int .i64 0]⟩, .int .i64 22]⟩
            · refine walk_leave (F := F6) (T := C6) (fuel := 1000) (d := 10) mixed (allF_cons (FactOk.bi rfl rfl rfl rfl rfl rfl (boolT (by omega))) (allF_cons (FactOk.bi rfl rfl rfl rfl rfl rfl (boolT (by omega))) (allF_cons (FactOk.bi rfl rfl rfl rfl rfl rfl (boolT (by omega))) (allF_cons (FactOk.bi rfl rfl rfl rfl rfl rfl (boolF (by omega))) allF_nil)))) allC_nil ?_
              exact ostop_end e6 fun w2 hLow hIn => ⟨(by refine congrArg Ending.returned ?_; first | exact rn_bad (show i < l.length by omega) p1 | exact nextV_err (nextErr_arg (by omega)) (by decide) | exact rn_tick hI.2.2.2.1 (by omega) (by omega) (by omega) (by omega) | exact rn_stale hI.2.2.2.1 hI.1 (by omega) (by omega) (by omega) (by omega) (by omega) hI.2.2.2.2.1 hf_late | exact rn_full hI.2.2.2.1 hI.1 (by omega) (by omega) (by omega) (by omega) (by omega) hI.2.2.2.2.1 hf_late hI.2.1 hI.2.2.1 (by omega) | exact rn_ok hI.2.2.2.1 hI.1 (by omega) (by omega) (by omega) (by omega) (by omega) hI.2.2.2.2.1 hf_late hI.2.1 hI.2.2.1 (by omega) (by omega)), hLow⟩   -- returns .tuple ⟨[.agg ⟨[.int .i64 0, .int .i64 0, .int .i64 0, .int .i64 0]⟩, .int .i64 19]⟩
          · refine walk_leave (F := F7) (T := C7) (fuel := 1000) (d := 10) mixed (allF_cons (FactOk.bi rfl rfl rfl rfl rfl rfl (boolT (by omega))) (allF_cons (FactOk.bi rfl rfl rfl rfl rfl rfl (boolT (by omega))) (allF_cons (FactOk.bi rfl rfl rfl rfl rfl rfl (boolF (by omega))) allF_nil))) allC_nil ?_
            exact ostop_end e7 fun w2 hLow hIn => ⟨(by refine congrArg Ending.returned ?_; first | exact rn_bad (show i < l.length by omega) p1 | exact nextV_err (nextErr_arg (by omega)) (by decide) | exact rn_tick hI.2.2.2.1 (by omega) (by omega) (by omega) (by omega) | exact rn_stale hI.2.2.2.1 hI.1 (by omega) (by omega) (by omega) (by omega) (by omega) hI.2.2.2.2.1 hf_late | exact rn_full hI.2.2.2.1 hI.1 (by omega) (by omega) (by omega) (by omega) (by omega) hI.2.2.2.2.1 hf_late hI.2.1 hI.2.2.1 (by omega) | exact rn_ok hI.2.2.2.1 hI.1 (by omega) (by omega) (by omega) (by omega) (by omega) hI.2.2.2.2.1 hf_late hI.2.1 hI.2.2.1 (by omega) (by omega)), hLow⟩   -- returns .tuple ⟨[.agg ⟨[.int .i64 0, .int .i64 0, .int .i64 0, .int .i64 0]⟩, .int .i64 19]⟩
        · refine walk_leave (F := F8) (T := C8) (fuel := 1000) (d := 10) mixed (allF_cons (FactOk.bi rfl rfl rfl rfl rfl rfl (boolT (by omega))) (allF_cons (FactOk.bi rfl rfl rfl rfl rfl rfl (boolF (by omega))) allF_nil)) allC_nil ?_
          exact ostop_end e8 fun w2 hLow hIn => ⟨(by refine congrArg Ending.returned ?_; first | exact rn_bad (show i < l.length by omega) p1 | exact nextV_err (nextErr_arg (by omega)) (by decide) | exact rn_tick hI.2.2.2.1 (by omega) (by omega) (by omega) (by omega) | exact rn_stale hI.2.2.2.1 hI.1 (by omega) (by omega) (by omega) (by omega) (by omega) hI.2.2.2.2.1 hf_late | exact rn_full hI.2.2.2.1 hI.1 (by omega) (by omega) (by omega) (by omega) (by omega) hI.2.2.2.2.1 hf_late hI.2.1 hI.2.2.1 (by omega) | exact rn_ok hI.2.2.2.1 hI.1 (by omega) (by omega) (by omega) (by omega) (by omega) hI.2.2.2.2.1 hf_late hI.2.1 hI.2.2.1 (by omega) (by omega)), hLow⟩   -- returns .tuple ⟨[.agg ⟨[.int .i64 0, .int .i64 0, .int .i64 0, .int .i64 0]⟩, .int .i64 1]⟩
      · refine walk_leave (F := F9) (T := C9) (fuel := 1000) (d := 10) mixed (allF_cons (FactOk.bi rfl rfl rfl rfl rfl rfl (boolF (by omega))) allF_nil) allC_nil ?_
        exact ostop_end e9 fun w2 hLow hIn => ⟨(by refine congrArg Ending.returned ?_; first | exact rn_bad (show i < l.length by omega) p1 | exact nextV_err (nextErr_arg (by omega)) (by decide) | exact rn_tick hI.2.2.2.1 (by omega) (by omega) (by omega) (by omega) | exact rn_stale hI.2.2.2.1 hI.1 (by omega) (by omega) (by omega) (by omega) (by omega) hI.2.2.2.2.1 hf_late | exact rn_full hI.2.2.2.1 hI.1 (by omega) (by omega) (by omega) (by omega) (by omega) hI.2.2.2.2.1 hf_late hI.2.1 hI.2.2.1 (by omega) | exact rn_ok hI.2.2.2.1 hI.1 (by omega) (by omega) (by omega) (by omega) (by omega) hI.2.2.2.2.1 hf_late hI.2.1 hI.2.2.1 (by omega) (by omega)), hLow⟩   -- returns .tuple ⟨[.agg ⟨[.int .i64 0, .int .i64 0, .int .i64 0, .int .i64 0]⟩, .int .i64 1]⟩
  · replace hh := Here.move (s2 := (sg (heapOf W) l a_l c_l site tick clock seq late i)) e10 (meet_cons (by exact meetV (.slice a_l l.length c_l) rfl rfl) (meet_cons (by exact meetV (.int .i64 site) rfl rfl) (meet_cons (by exact meetV (.int .i64 ((i : Nat) : Int)) rfl rfl) (meet_cons (by exact meetV (.int .i64 seq) rfl rfl) (meet_cons (by exact meetV (.int .i64 tick) rfl rfl) (meet_cons (by exact meetV (.int .i64 clock) rfl rfl) (meet_cons (meetB rfl hf_late) meet_nil))))))) (fun _ _ h => h) (by first | exact Nat.zero_le _ | exact Nat.le_of_ble_eq_true rfl) (by exact sameC_none rfl) hh
    by_cases p0 : ((i : Nat) : Int) < ((l.length : Nat) : Int)
    · by_cases p1 : ValidP (l.getD (i) default)
      · by_cases p2 : tick < (l.getD (i) default).1
        · by_cases p3 : (l.getD (i) default).2.2.1 = site
          · refine walk_to (F := F10) (T := C10) (fuel := 1000) (d := 10) mixed (allF_cons (FactOk.arrLen hl rfl rfl under27 rfl rfl) (allF_cons (FactOk.bi rfl rfl rfl rfl rfl rfl (boolT (by omega))) (allF_cons (FactOk.arrIxa hl (show i < l.length by omega) rfl rfl rfl under27 sizeSt rfl rfl rfl) (allF_cons (FactOk.arrLd hl (getSome (show i < l.length by omega)) rfl rfl aggSt sizeSt rfl rfl rfl) (allF_cons (arrFa1 hl (show i < l.length by omega) rfl rfl rfl rfl) (allF_cons (FactOk.arrLd1 (j := 1) hl (getSome (show i < l.length by omega)) rfl rfl aggInt rfl rfl rfl rfl) (allF_cons (FactOk.maxI rfl rfl rfl rfl rfl rfl) (allF_cons (arrFa0 hl (show i < l.length by omega) rfl rfl rfl rfl) (allF_cons (FactOk.arrLd1 (j := 0) hl (getSome (show i < l.length by omega)) rfl rfl aggInt rfl rfl rfl rfl) (allF_cons (FactOk.bi rfl rfl rfl rfl rfl rfl (boolT (by omega))) (allF_cons (arrFa2 hl (show i < l.length by omega) rfl rfl rfl rfl) (allF_cons (FactOk.arrLd1 (j := 2) hl (getSome (show i < l.length by omega)) rfl rfl aggInt rfl rfl rfl rfl) (allF_cons (FactOk.bi rfl rfl rfl rfl rfl rfl (boolT (by omega))) (allF_cons (arrFa3 hl (show i < l.length by omega) rfl rfl rfl rfl) (allF_cons (FactOk.arrLd1 (j := 3) hl (getSome (show i < l.length by omega)) rfl rfl aggInt rfl rfl rfl rfl) (allF_cons (FactOk.maxI rfl rfl rfl rfl rfl rfl) (allF_cons (FactOk.bi rfl rfl rfl rfl rfl rfl (intI (by omega) (by omega) (by omega))) allF_nil))))))))))))))))) (allC_cons (callRValidT rfl rfl p1) allC_nil) ?_ hh
            exact ostop_backM (s1 := (sg (heapOf W) l a_l c_l site tick clock seq late i)) (sg := (fun (⟨clock, seq, late, i⟩ : Int × Int × Bool × Nat) => sg (heapOf W) l a_l c_l site tick clock seq late i)) (I := fun (⟨clock, seq, late, i⟩ : Int × Int × Bool × Nat) => i ≤ l.length ∧ clock + 1 = clkTo l i ∧ seq = cntTo l site i ∧ (∀ j, j < i → ValidP (l.getD j default)) ∧ (late = true ↔ ∃ j, j < i ∧ tick < (l.getD j default).1) ∧ 0 ≤ clock ∧ 0 ≤ seq) (μ := fun (⟨clock, seq, late, i⟩ : Int × Int × Bool × Nat) => l.length - i) (x := ⟨clock, seq, late, i⟩) ⟨(max clock (l.getD (i) default).2.1), (max seq (l.getD (i) default).2.2.2), true, i + 1⟩ e11 (meet_cons (by exact meetV (.slice a_l l.length c_l) rfl rfl) (meet_cons (by exact meetV (.int .i64 site) rfl rfl) (meet_cons (by exact meetV (.int .i64 ((i + 1 : Nat) : Int)) rfl rfl) (meet_cons (by exact meetV (.int .i64 (max seq (l.getD (i) default).2.2.2)) rfl rfl) (meet_cons (by exact meetV (.int .i64 tick) rfl rfl) (meet_cons (by exact meetV (.int .i64 (max clock (l.getD (i) default).2.1)) rfl rfl) (meet_cons rfl meet_nil))))))) (fun _ _ h => h) (by exact ⟨by omega, by rw [← clkTo_succ (by omega), ← hI.2.1]; omega, by rw [hI.2.2.1]; first | exact cntTo_yes (by omega) (by assumption) p1 | exact cntTo_no1 (by omega) (by assumption), fun j hj => by rcases Nat.lt_succ_iff_lt_or_eq.1 hj with h | rfl; exact hI.2.2.2.1 j h; exact p1, late_succ hI.2.2.2.2.1 (by first | exact ⟨fun _ => .inl hf_late, fun _ => rfl⟩ | exact ⟨fun _ => .inr (by omega), fun _ => rfl⟩ | exact ⟨fun h => (by cases h), fun h => (by rcases h with h | h; (rw [hf_late] at h; cases h); omega)⟩), by omega, by omega⟩) (by (try dsimp only); omega)
          · refine walk_to (F := F11) (T := C11) (fuel := 1000) (d := 10) mixed (allF_cons (FactOk.arrLen hl rfl rfl under27 rfl rfl) (allF_cons (FactOk.bi rfl rfl rfl rfl rfl rfl (boolT (by omega))) (allF_cons (FactOk.arrIxa hl (show i < l.length by omega) rfl rfl rfl under27 sizeSt rfl rfl rfl) (allF_cons (FactOk.arrLd hl (getSome (show i < l.length by omega)) rfl rfl aggSt sizeSt rfl rfl rfl) (allF_cons (arrFa1 hl (show i < l.length by omega) rfl rfl rfl rfl) (allF_cons (FactOk.arrLd1 (j := 1) hl (getSome (show i < l.length by omega)) rfl rfl aggInt rfl rfl rfl rfl) (allF_cons (FactOk.maxI rfl rfl rfl rfl rfl rfl) (allF_cons (arrFa0 hl (show i < l.length by omega) rfl rfl rfl rfl) (allF_cons (FactOk.arrLd1 (j := 0) hl (getSome (show i < l.length by omega)) rfl rfl aggInt rfl rfl rfl rfl) (allF_cons (FactOk.bi rfl rfl rfl rfl rfl rfl (boolT (by omega))) (allF_cons (arrFa2 hl (show i < l.length by omega) rfl rfl rfl rfl) (allF_cons (FactOk.arrLd1 (j := 2) hl (getSome (show i < l.length by omega)) rfl rfl aggInt rfl rfl rfl rfl) (allF_cons (FactOk.bi rfl rfl rfl rfl rfl rfl (boolF (by omega))) (allF_cons (FactOk.bi rfl rfl rfl rfl rfl rfl (intI (by omega) (by omega) (by omega))) allF_nil)))))))))))))) (allC_cons (callRValidT rfl rfl p1) allC_nil) ?_ hh
            exact ostop_backM (s1 := (sg (heapOf W) l a_l c_l site tick clock seq late i)) (sg := (fun (⟨clock, seq, late, i⟩ : Int × Int × Bool × Nat) => sg (heapOf W) l a_l c_l site tick clock seq late i)) (I := fun (⟨clock, seq, late, i⟩ : Int × Int × Bool × Nat) => i ≤ l.length ∧ clock + 1 = clkTo l i ∧ seq = cntTo l site i ∧ (∀ j, j < i → ValidP (l.getD j default)) ∧ (late = true ↔ ∃ j, j < i ∧ tick < (l.getD j default).1) ∧ 0 ≤ clock ∧ 0 ≤ seq) (μ := fun (⟨clock, seq, late, i⟩ : Int × Int × Bool × Nat) => l.length - i) (x := ⟨clock, seq, late, i⟩) ⟨(max clock (l.getD (i) default).2.1), seq, true, i + 1⟩ e12 (meet_cons (by exact meetV (.slice a_l l.length c_l) rfl rfl) (meet_cons (by exact meetV (.int .i64 site) rfl rfl) (meet_cons (by exact meetV (.int .i64 ((i + 1 : Nat) : Int)) rfl rfl) (meet_cons (by exact meetV (.int .i64 seq) rfl rfl) (meet_cons (by exact meetV (.int .i64 tick) rfl rfl) (meet_cons (by exact meetV (.int .i64 (max clock (l.getD (i) default).2.1)) rfl rfl) (meet_cons rfl meet_nil))))))) (fun _ _ h => h) (by exact ⟨by omega, by rw [← clkTo_succ (by omega), ← hI.2.1]; omega, by rw [hI.2.2.1]; first | exact cntTo_yes (by omega) (by assumption) p1 | exact cntTo_no1 (by omega) (by assumption), fun j hj => by rcases Nat.lt_succ_iff_lt_or_eq.1 hj with h | rfl; exact hI.2.2.2.1 j h; exact p1, late_succ hI.2.2.2.2.1 (by first | exact ⟨fun _ => .inl hf_late, fun _ => rfl⟩ | exact ⟨fun _ => .inr (by omega), fun _ => rfl⟩ | exact ⟨fun h => (by cases h), fun h => (by rcases h with h | h; (rw [hf_late] at h; cases h); omega)⟩), by omega, by omega⟩) (by (try dsimp only); omega)
        · by_cases p3 : (l.getD (i) default).2.2.1 = site
          · refine walk_to (F := F12) (T := C12) (fuel := 1000) (d := 10) mixed (allF_cons (FactOk.arrLen hl rfl rfl under27 rfl rfl) (allF_cons (FactOk.bi rfl rfl rfl rfl rfl rfl (boolT (by omega))) (allF_cons (FactOk.arrIxa hl (show i < l.length by omega) rfl rfl rfl under27 sizeSt rfl rfl rfl) (allF_cons (FactOk.arrLd hl (getSome (show i < l.length by omega)) rfl rfl aggSt sizeSt rfl rfl rfl) (allF_cons (arrFa1 hl (show i < l.length by omega) rfl rfl rfl rfl) (allF_cons (FactOk.arrLd1 (j := 1) hl (getSome (show i < l.length by omega)) rfl rfl aggInt rfl rfl rfl rfl) (allF_cons (FactOk.maxI rfl rfl rfl rfl rfl rfl) (allF_cons (arrFa0 hl (show i < l.length by omega) rfl rfl rfl rfl) (allF_cons (FactOk.arrLd1 (j := 0) hl (getSome (show i < l.length by omega)) rfl rfl aggInt rfl rfl rfl rfl) (allF_cons (FactOk.bi rfl rfl rfl rfl rfl rfl (boolF (by omega))) (allF_cons (arrFa2 hl (show i < l.length by omega) rfl rfl rfl rfl) (allF_cons (FactOk.arrLd1 (j := 2) hl (getSome (show i < l.length by omega)) rfl rfl aggInt rfl rfl rfl rfl) (allF_cons (FactOk.bi rfl rfl rfl rfl rfl rfl (boolT (by omega))) (allF_cons (arrFa3 hl (show i < l.length by omega) rfl rfl rfl rfl) (allF_cons (FactOk.arrLd1 (j := 3) hl (getSome (show i < l.length by omega)) rfl rfl aggInt rfl rfl rfl rfl) (allF_cons (FactOk.maxI rfl rfl rfl rfl rfl rfl) (allF_cons (FactOk.bi rfl rfl rfl rfl rfl rfl (intI (by omega) (by omega) (by omega))) allF_nil))))))))))))))))) (allC_cons (callRValidT rfl rfl p1) allC_nil) ?_ hh
            exact ostop_backM (s1 := (sg (heapOf W) l a_l c_l site tick clock seq late i)) (sg := (fun (⟨clock, seq, late, i⟩ : Int × Int × Bool × Nat) => sg (heapOf W) l a_l c_l site tick clock seq late i)) (I := fun (⟨clock, seq, late, i⟩ : Int × Int × Bool × Nat) => i ≤ l.length ∧ clock + 1 = clkTo l i ∧ seq = cntTo l site i ∧ (∀ j, j < i → ValidP (l.getD j default)) ∧ (late = true ↔ ∃ j, j < i ∧ tick < (l.getD j default).1) ∧ 0 ≤ clock ∧ 0 ≤ seq) (μ := fun (⟨clock, seq, late, i⟩ : Int × Int × Bool × Nat) => l.length - i) (x := ⟨clock, seq, late, i⟩) ⟨(max clock (l.getD (i) default).2.1), (max seq (l.getD (i) default).2.2.2), false, i + 1⟩ e13 (meet_cons (by exact meetV (.slice a_l l.length c_l) rfl rfl) (meet_cons (by exact meetV (.int .i64 site) rfl rfl) (meet_cons (by exact meetV (.int .i64 ((i + 1 : Nat) : Int)) rfl rfl) (meet_cons (by exact meetV (.int .i64 (max seq (l.getD (i) default).2.2.2)) rfl rfl) (meet_cons (by exact meetV (.int .i64 tick) rfl rfl) (meet_cons (by exact meetV (.int .i64 (max clock (l.getD (i) default).2.1)) rfl rfl) (meet_cons rfl meet_nil))))))) (fun _ _ h => h) (by exact ⟨by omega, by rw [← clkTo_succ (by omega), ← hI.2.1]; omega, by rw [hI.2.2.1]; first | exact cntTo_yes (by omega) (by assumption) p1 | exact cntTo_no1 (by omega) (by assumption), fun j hj => by rcases Nat.lt_succ_iff_lt_or_eq.1 hj with h | rfl; exact hI.2.2.2.1 j h; exact p1, late_succ hI.2.2.2.2.1 (by first | exact ⟨fun _ => .inl hf_late, fun _ => rfl⟩ | exact ⟨fun _ => .inr (by omega), fun _ => rfl⟩ | exact ⟨fun h => (by cases h), fun h => (by rcases h with h | h; (rw [hf_late] at h; cases h); omega)⟩), by omega, by omega⟩) (by (try dsimp only); omega)
          · refine walk_to (F := F13) (T := C13) (fuel := 1000) (d := 10) mixed (allF_cons (FactOk.arrLen hl rfl rfl under27 rfl rfl) (allF_cons (FactOk.bi rfl rfl rfl rfl rfl rfl (boolT (by omega))) (allF_cons (FactOk.arrIxa hl (show i < l.length by omega) rfl rfl rfl under27 sizeSt rfl rfl rfl) (allF_cons (FactOk.arrLd hl (getSome (show i < l.length by omega)) rfl rfl aggSt sizeSt rfl rfl rfl) (allF_cons (arrFa1 hl (show i < l.length by omega) rfl rfl rfl rfl) (allF_cons (FactOk.arrLd1 (j := 1) hl (getSome (show i < l.length by omega)) rfl rfl aggInt rfl rfl rfl rfl) (allF_cons (FactOk.maxI rfl rfl rfl rfl rfl rfl) (allF_cons (arrFa0 hl (show i < l.length by omega) rfl rfl rfl rfl) (allF_cons (FactOk.arrLd1 (j := 0) hl (getSome (show i < l.length by omega)) rfl rfl aggInt rfl rfl rfl rfl) (allF_cons (FactOk.bi rfl rfl rfl rfl rfl rfl (boolF (by omega))) (allF_cons (arrFa2 hl (show i < l.length by omega) rfl rfl rfl rfl) (allF_cons (FactOk.arrLd1 (j := 2) hl (getSome (show i < l.length by omega)) rfl rfl aggInt rfl rfl rfl rfl) (allF_cons (FactOk.bi rfl rfl rfl rfl rfl rfl (boolF (by omega))) (allF_cons (FactOk.bi rfl rfl rfl rfl rfl rfl (intI (by omega) (by omega) (by omega))) allF_nil)))))))))))))) (allC_cons (callRValidT rfl rfl p1) allC_nil) ?_ hh
            exact ostop_backM (s1 := (sg (heapOf W) l a_l c_l site tick clock seq late i)) (sg := (fun (⟨clock, seq, late, i⟩ : Int × Int × Bool × Nat) => sg (heapOf W) l a_l c_l site tick clock seq late i)) (I := fun (⟨clock, seq, late, i⟩ : Int × Int × Bool × Nat) => i ≤ l.length ∧ clock + 1 = clkTo l i ∧ seq = cntTo l site i ∧ (∀ j, j < i → ValidP (l.getD j default)) ∧ (late = true ↔ ∃ j, j < i ∧ tick < (l.getD j default).1) ∧ 0 ≤ clock ∧ 0 ≤ seq) (μ := fun (⟨clock, seq, late, i⟩ : Int × Int × Bool × Nat) => l.length - i) (x := ⟨clock, seq, late, i⟩) ⟨(max clock (l.getD (i) default).2.1), seq, false, i + 1⟩ e14 (meet_cons (by exact meetV (.slice a_l l.length c_l) rfl rfl) (meet_cons (by exact meetV (.int .i64 site) rfl rfl) (meet_cons (by exact meetV (.int .i64 ((i + 1 : Nat) : Int)) rfl rfl) (meet_cons (by exact meetV (.int .i64 seq) rfl rfl) (meet_cons (by exact meetV (.int .i64 tick) rfl rfl) (meet_cons (by exact meetV (.int .i64 (max clock (l.getD (i) default).2.1)) rfl rfl) (meet_cons rfl meet_nil))))))) (fun _ _ h => h) (by exact ⟨by omega, by rw [← clkTo_succ (by omega), ← hI.2.1]; omega, by rw [hI.2.2.1]; first | exact cntTo_yes (by omega) (by assumption) p1 | exact cntTo_no1 (by omega) (by assumption), fun j hj => by rcases Nat.lt_succ_iff_lt_or_eq.1 hj with h | rfl; exact hI.2.2.2.1 j h; exact p1, late_succ hI.2.2.2.2.1 (by first | exact ⟨fun _ => .inl hf_late, fun _ => rfl⟩ | exact ⟨fun _ => .inr (by omega), fun _ => rfl⟩ | exact ⟨fun h => (by cases h), fun h => (by rcases h with h | h; (rw [hf_late] at h; cases h); omega)⟩), by omega, by omega⟩) (by (try dsimp only); omega)
      · refine walk_to (F := F3) (T := C3) (fuel := 1000) (d := 10) mixed (allF_cons (FactOk.arrLen hl rfl rfl under27 rfl rfl) (allF_cons (FactOk.bi rfl rfl rfl rfl rfl rfl (boolT (by omega))) (allF_cons (FactOk.arrIxa hl (show i < l.length by omega) rfl rfl rfl under27 sizeSt rfl rfl rfl) (allF_cons (FactOk.arrLd hl (getSome (show i < l.length by omega)) rfl rfl aggSt sizeSt rfl rfl rfl) allF_nil)))) (allC_cons (callRValidF rfl rfl p1) allC_nil) ?_ hh
        refine walk_leave (F := F0) (T := C0) (fuel := 1000) (d := 10) mixed allF_nil allC_nil ?_
        exact ostop_end e15 fun w2 hLow hIn => ⟨(by refine congrArg Ending.returned ?_; first | exact rn_bad (show i < l.length by omega) p1 | exact nextV_err (nextErr_arg (by omega)) (by decide) | exact rn_tick hI.2.2.2.1 (by omega) (by omega) (by omega) (by omega) | exact rn_stale hI.2.2.2.1 hI.1 (by omega) (by omega) (by omega) (by omega) (by omega) hI.2.2.2.2.1 hf_late | exact rn_full hI.2.2.2.1 hI.1 (by omega) (by omega) (by omega) (by omega) (by omega) hI.2.2.2.2.1 hf_late hI.2.1 hI.2.2.1 (by omega) | exact rn_ok hI.2.2.2.1 hI.1 (by omega) (by omega) (by omega) (by omega) (by omega) hI.2.2.2.2.1 hf_late hI.2.1 hI.2.2.1 (by omega) (by omega)), hLow⟩   -- returns .tuple ⟨[.agg ⟨[.int .i64 0, .int .i64 0, .int .i64 0, .int .i64 0]⟩, .int .i64 1]⟩
    · refine walk_to (F := F4) (T := C4) (fuel := 1000) (d := 10) mixed (allF_cons (FactOk.arrLen hl rfl rfl under27 rfl rfl) (allF_cons (FactOk.bi rfl rfl rfl rfl rfl rfl (boolF (by omega))) allF_nil)) allC_nil ?_ hh
      by_cases q0 : 1 ≤ site
      · by_cases q1 : site ≤ 8
        · by_cases q2 : 0 ≤ tick
          · by_cases q3 : tick ≤ 4000
            · by_cases q4 : 1000 ≤ seq
              · refine walk_leave (F := F14) (T := C14) (fuel := 1000) (d := 10) mixed (allF_cons (FactOk.bi rfl rfl rfl rfl rfl rfl (boolT (by omega))) (allF_cons (FactOk.bi rfl rfl rfl rfl rfl rfl (boolT (by omega))) (allF_cons (FactOk.bi rfl rfl rfl rfl rfl rfl (boolT (by omega))) (allF_cons (FactOk.bi rfl rfl rfl rfl rfl rfl (boolT (by omega))) (allF_cons (FactOk.bi rfl rfl rfl rfl rfl rfl (boolT (by omega))) allF_nil))))) allC_nil ?_
                exact ostop_end e16 fun w2 hLow hIn => ⟨(by refine congrArg Ending.returned ?_; first | exact rn_bad (show i < l.length by omega) p1 | exact nextV_err (nextErr_arg (by omega)) (by decide) | exact rn_tick hI.2.2.2.1 (by omega) (by omega) (by omega) (by omega) | exact rn_stale hI.2.2.2.1 hI.1 (by omega) (by omega) (by omega) (by omega) (by omega) hI.2.2.2.2.1 hf_late | exact rn_full hI.2.2.2.1 hI.1 (by omega) (by omega) (by omega) (by omega) (by omega) hI.2.2.2.2.1 hf_late hI.2.1 hI.2.2.1 (by omega) | exact rn_ok hI.2.2.2.1 hI.1 (by omega) (by omega) (by omega) (by omega) (by omega) hI.2.2.2.2.1 hf_late hI.2.1 hI.2.2.1 (by omega) (by omega)), hLow⟩   -- returns .tuple ⟨[.agg ⟨[.int .i64 0, .int .i64 0, .int .i64 0, .int .i64 0]⟩, .int .i64 15]⟩
              · by_cases q5 : 1000000 ≤ clock
                · refine walk_leave (F := F15) (T := C15) (fuel := 1000) (d := 10) mixed (allF_cons (FactOk.bi rfl rfl rfl rfl rfl rfl (boolT (by omega))) (allF_cons (FactOk.bi rfl rfl rfl rfl rfl rfl (boolT (by omega))) (allF_cons (FactOk.bi rfl rfl rfl rfl rfl rfl (boolT (by omega))) (allF_cons (FactOk.bi rfl rfl rfl rfl rfl rfl (boolT (by omega))) (allF_cons (FactOk.bi rfl rfl rfl rfl rfl rfl (boolF (by omega))) (allF_cons (FactOk.bi rfl rfl rfl rfl rfl rfl (boolT (by omega))) allF_nil)))))) allC_nil ?_
                  exact ostop_end e17 fun w2 hLow hIn => ⟨(by refine congrArg Ending.returned ?_; first | exact rn_bad (show i < l.length by omega) p1 | exact nextV_err (nextErr_arg (by omega)) (by decide) | exact rn_tick hI.2.2.2.1 (by omega) (by omega) (by omega) (by omega) | exact rn_stale hI.2.2.2.1 hI.1 (by omega) (by omega) (by omega) (by omega) (by omega) hI.2.2.2.2.1 hf_late | exact rn_full hI.2.2.2.1 hI.1 (by omega) (by omega) (by omega) (by omega) (by omega) hI.2.2.2.2.1 hf_late hI.2.1 hI.2.2.1 (by omega) | exact rn_ok hI.2.2.2.1 hI.1 (by omega) (by omega) (by omega) (by omega) (by omega) hI.2.2.2.2.1 hf_late hI.2.1 hI.2.2.1 (by omega) (by omega)), hLow⟩   -- returns .tuple ⟨[.agg ⟨[.int .i64 0, .int .i64 0, .int .i64 0, .int .i64 0]⟩, .int .i64 15]⟩
                · refine walk_leave (F := F16) (T := C16) (fuel := 1000) (d := 10) mixed (allF_cons (FactOk.bi rfl rfl rfl rfl rfl rfl (boolT (by omega))) (allF_cons (FactOk.bi rfl rfl rfl rfl rfl rfl (boolT (by omega))) (allF_cons (FactOk.bi rfl rfl rfl rfl rfl rfl (boolT (by omega))) (allF_cons (FactOk.bi rfl rfl rfl rfl rfl rfl (boolT (by omega))) (allF_cons (FactOk.bi rfl rfl rfl rfl rfl rfl (boolF (by omega))) (allF_cons (FactOk.bi rfl rfl rfl rfl rfl rfl (boolF (by omega))) (allF_cons (FactOk.bi rfl rfl rfl rfl rfl rfl (intI (by omega) (by omega) (by omega))) (allF_cons (FactOk.bi rfl rfl rfl rfl rfl rfl (intI (by omega) (by omega) (by omega))) allF_nil)))))))) allC_nil ?_
                  exact ostop_end e18 fun w2 hLow hIn => ⟨(by refine congrArg Ending.returned ?_; first | exact rn_bad (show i < l.length by omega) p1 | exact nextV_err (nextErr_arg (by omega)) (by decide) | exact rn_tick hI.2.2.2.1 (by omega) (by omega) (by omega) (by omega) | exact rn_stale hI.2.2.2.1 hI.1 (by omega) (by omega) (by omega) (by omega) (by omega) hI.2.2.2.2.1 hf_late | exact rn_full hI.2.2.2.1 hI.1 (by omega) (by omega) (by omega) (by omega) (by omega) hI.2.2.2.2.1 hf_late hI.2.1 hI.2.2.1 (by omega) | exact rn_ok hI.2.2.2.1 hI.1 (by omega) (by omega) (by omega) (by omega) (by omega) hI.2.2.2.2.1 hf_late hI.2.1 hI.2.2.1 (by omega) (by omega)), hLow⟩   -- returns .tuple ⟨[.agg ⟨[symv 2, symv 20, symv 1, symv 21]⟩, .int .i64 0]⟩
            · refine walk_leave (F := F6) (T := C6) (fuel := 1000) (d := 10) mixed (allF_cons (FactOk.bi rfl rfl rfl rfl rfl rfl (boolT (by omega))) (allF_cons (FactOk.bi rfl rfl rfl rfl rfl rfl (boolT (by omega))) (allF_cons (FactOk.bi rfl rfl rfl rfl rfl rfl (boolT (by omega))) (allF_cons (FactOk.bi rfl rfl rfl rfl rfl rfl (boolF (by omega))) allF_nil)))) allC_nil ?_
              exact ostop_end e19 fun w2 hLow hIn => ⟨(by refine congrArg Ending.returned ?_; first | exact rn_bad (show i < l.length by omega) p1 | exact nextV_err (nextErr_arg (by omega)) (by decide) | exact rn_tick hI.2.2.2.1 (by omega) (by omega) (by omega) (by omega) | exact rn_stale hI.2.2.2.1 hI.1 (by omega) (by omega) (by omega) (by omega) (by omega) hI.2.2.2.2.1 hf_late | exact rn_full hI.2.2.2.1 hI.1 (by omega) (by omega) (by omega) (by omega) (by omega) hI.2.2.2.2.1 hf_late hI.2.1 hI.2.2.1 (by omega) | exact rn_ok hI.2.2.2.1 hI.1 (by omega) (by omega) (by omega) (by omega) (by omega) hI.2.2.2.2.1 hf_late hI.2.1 hI.2.2.1 (by omega) (by omega)), hLow⟩   -- returns .tuple ⟨[.agg ⟨[.int .i64 0, .int .i64 0, .int .i64 0, .int .i64 0]⟩, .int .i64 19]⟩
          · refine walk_leave (F := F7) (T := C7) (fuel := 1000) (d := 10) mixed (allF_cons (FactOk.bi rfl rfl rfl rfl rfl rfl (boolT (by omega))) (allF_cons (FactOk.bi rfl rfl rfl rfl rfl rfl (boolT (by omega))) (allF_cons (FactOk.bi rfl rfl rfl rfl rfl rfl (boolF (by omega))) allF_nil))) allC_nil ?_
            exact ostop_end e20 fun w2 hLow hIn => ⟨(by refine congrArg Ending.returned ?_; first | exact rn_bad (show i < l.length by omega) p1 | exact nextV_err (nextErr_arg (by omega)) (by decide) | exact rn_tick hI.2.2.2.1 (by omega) (by omega) (by omega) (by omega) | exact rn_stale hI.2.2.2.1 hI.1 (by omega) (by omega) (by omega) (by omega) (by omega) hI.2.2.2.2.1 hf_late | exact rn_full hI.2.2.2.1 hI.1 (by omega) (by omega) (by omega) (by omega) (by omega) hI.2.2.2.2.1 hf_late hI.2.1 hI.2.2.1 (by omega) | exact rn_ok hI.2.2.2.1 hI.1 (by omega) (by omega) (by omega) (by omega) (by omega) hI.2.2.2.2.1 hf_late hI.2.1 hI.2.2.1 (by omega) (by omega)), hLow⟩   -- returns .tuple ⟨[.agg ⟨[.int .i64 0, .int .i64 0, .int .i64 0, .int .i64 0]⟩, .int .i64 19]⟩
        · refine walk_leave (F := F8) (T := C8) (fuel := 1000) (d := 10) mixed (allF_cons (FactOk.bi rfl rfl rfl rfl rfl rfl (boolT (by omega))) (allF_cons (FactOk.bi rfl rfl rfl rfl rfl rfl (boolF (by omega))) allF_nil)) allC_nil ?_
          exact ostop_end e21 fun w2 hLow hIn => ⟨(by refine congrArg Ending.returned ?_; first | exact rn_bad (show i < l.length by omega) p1 | exact nextV_err (nextErr_arg (by omega)) (by decide) | exact rn_tick hI.2.2.2.1 (by omega) (by omega) (by omega) (by omega) | exact rn_stale hI.2.2.2.1 hI.1 (by omega) (by omega) (by omega) (by omega) (by omega) hI.2.2.2.2.1 hf_late | exact rn_full hI.2.2.2.1 hI.1 (by omega) (by omega) (by omega) (by omega) (by omega) hI.2.2.2.2.1 hf_late hI.2.1 hI.2.2.1 (by omega) | exact rn_ok hI.2.2.2.1 hI.1 (by omega) (by omega) (by omega) (by omega) (by omega) hI.2.2.2.2.1 hf_late hI.2.1 hI.2.2.1 (by omega) (by omega)), hLow⟩   -- returns .tuple ⟨[.agg ⟨[.int .i64 0, .int .i64 0, .int .i64 0, .int .i64 0]⟩, .int .i64 1]⟩
      · refine walk_leave (F := F9) (T := C9) (fuel := 1000) (d := 10) mixed (allF_cons (FactOk.bi rfl rfl rfl rfl rfl rfl (boolF (by omega))) allF_nil) allC_nil ?_
        exact ostop_end e22 fun w2 hLow hIn => ⟨(by refine congrArg Ending.returned ?_; first | exact rn_bad (show i < l.length by omega) p1 | exact nextV_err (nextErr_arg (by omega)) (by decide) | exact rn_tick hI.2.2.2.1 (by omega) (by omega) (by omega) (by omega) | exact rn_stale hI.2.2.2.1 hI.1 (by omega) (by omega) (by omega) (by omega) (by omega) hI.2.2.2.2.1 hf_late | exact rn_full hI.2.2.2.1 hI.1 (by omega) (by omega) (by omega) (by omega) (by omega) hI.2.2.2.2.1 hf_late hI.2.1 hI.2.2.1 (by omega) | exact rn_ok hI.2.2.2.1 hI.1 (by omega) (by omega) (by omega) (by omega) (by omega) hI.2.2.2.2.1 hf_late hI.2.1 hI.2.2.1 (by omega) (by omega)), hLow⟩   -- returns .tuple ⟨[.agg ⟨[.int .i64 0, .int .i64 0, .int .i64 0, .int .i64 0]⟩, .int .i64 1]⟩
end RNext
end AE
end Go.Proofs.YtheaofepenbcgaaGreatDoor

/- Missing of the reference -/
namespace Go.Proofs.YtheaofepenbcgaaGreatDoor
open Go Go.Proofs Go.RowKit
namespace AE
namespace RMiss
set_option maxRecDepth 100000
noncomputable def body : Code := (Tryz.f20.body).getD .skip
def N : Nat := 64
noncomputable abbrev at' (N : Nat) (F : List (FOp × Value)) (C : List (FuncId × List Value × Value)) (c : Code) (s : ASt) : Option Stop := evalTo Tryz.prog F C N 1000 10 c s
noncomputable abbrev leave' (N : Nat) (F : List (FOp × Value)) (C : List (FuncId × List Value × Value)) (ks : List KI) (o : Option Stop) : Option Stop := evalLeave Tryz.prog F C N 1000 10 ks o
noncomputable abbrev unr' (N : Nat) (F : List (FOp × Value)) (C : List (FuncId × List Value × Value)) (m : Nat) (o : Option Stop) : Option Stop := evalUnroll Tryz.prog F C N 1000 10 m o
noncomputable abbrev res' (N : Nat) (F : List (FOp × Value)) (C : List (FuncId × List Value × Value)) (ks : List KI) (x : AX) (s : ASt) : Option Stop := evalRes Tryz.prog F C N 1000 10 ks x s
noncomputable abbrev ops' (N : Nat) (F : List (FOp × Value)) (C : List (FuncId × List Value × Value)) (r : List Oper) (ops : Array Oper) (ks : List KI) (s : ASt) : Option Stop := evalOps Tryz.prog F C N 1000 10 r ops ks s
def s0 : ASt := { sl := slots [(1, symv 1), (0, symv 0)], ms := [], A := start }
def F0 : List (FOp × Value) := [(.bin .geq 3 (symv 1) (.int .i64 1), .bool true),
    (.bin .leq 3 (symv 1) (.int .i64 8), .bool true)]
def C0 : List (FuncId × List Value × Value) := [(22, [symv 0], .agg ⟨[symv 2, symv 3, symv 4, symv 5, symv 6, symv 7, symv 8, symv 9]⟩)]
noncomputable def bks0 : List Bk := [⟨.cells [symv 2, symv 3, symv 4, symv 5, symv 6, symv 7, symv 8, symv 9], 38, 0⟩]
def head0 : Sl := slots [(7, symv 11), (6, .pointer (some ⟨0, 0, none⟩)), (5, symv 10), (4, .slice none 0 0), (1, symv 1), (0, symv 0)]
noncomputable abbrev at0 := at' 64 F0 C0 body s0
theorem e0 : headObs head0 bks0 at0 = some [(symv 0, symv 0), (symv 1, symv 1), (.int .i64 1, symv 11), (.slice none 0 0, symv 10), (symv 2, symv 2), (symv 3, symv 3), (symv 4, symv 4), (symv 5, symv 5), (symv 6, symv 6), (symv 7, symv 7), (symv 8, symv 8), (symv 9, symv 9)] := by kernel_rfl
def F1 : List (FOp × Value) := [(.bin .sub 3 (symv 1) (.int .i64 1), .int .i64 0),
    (.bin .leq 3 (symv 11) (symv 2), .bool true)]
def C1 : List (FuncId × List Value × Value) := []
noncomputable def bks1 : List Bk := [⟨.cells [symv 2, symv 3, symv 4, symv 5, symv 6, symv 7, symv 8, symv 9], 38, 0⟩]
def head1 : Sl := slots [(9, symv 13), (8, symv 12), (7, symv 11), (6, .pointer (some ⟨0, 0, none⟩)), (5, symv 10), (4, .slice none 0 0), (1, symv 1), (0, symv 0)]
noncomputable abbrev at1 := at' 64 F1 C1 (stopCode at0) (headSt head0 bks0)
theorem e1 : headObs head1 bks1 at1 = some [(symv 0, symv 0), (symv 1, symv 1), (symv 11, symv 11), (symv 10, symv 10), (.int .i64 0, symv 13), (.bool false, symv 12), (symv 2, symv 2), (symv 3, symv 3), (symv 4, symv 4), (symv 5, symv 5), (symv 6, symv 6), (symv 7, symv 7), (symv 8, symv 8), (symv 9, symv 9)] := by kernel_rfl
def headB2 : Sl := slots [(9, symv 13), (8, .bool true), (7, symv 11), (6, .pointer (some ⟨0, 0, none⟩)), (5, symv 10), (4, .slice none 0 0), (1, symv 1), (0, symv 0)]
theorem e2 : trAll (headSt head1 bks1) headB2 bks1 = some [(symv 0, symv 0), (symv 1, symv 1), (symv 11, symv 11), (symv 10, symv 10), (symv 13, symv 13), (symv 12, .bool true), (symv 2, symv 2), (symv 3, symv 3), (symv 4, symv 4), (symv 5, symv 5), (symv 6, symv 6), (symv 7, symv 7), (symv 8, symv 8), (symv 9, symv 9)] := by kernel_rfl
def F2 : List (FOp × Value) := [(.len #[22] 3 (symv 0), symv 14),
    (.bin .lss 3 (symv 13) (symv 14), .bool true),
    (.ixa 22 (symv 0) (symv 13), symv 15),
    (.ld 24 (symv 15), .agg ⟨[symv 16, symv 17, symv 18, symv 19]⟩),
    (.bin .add 3 (symv 13) (.int .i64 1), symv 20)]
def C2 : List (FuncId × List Value × Value) := [(11, [.agg ⟨[symv 16, symv 17, symv 18, symv 19]⟩], .bool true)]
theorem e3 : backObs head1 bks1 (at' 64 F2 C2 (stopCode at1) (headSt headB2 bks1)) = some [(symv 0, symv 0), (symv 1, symv 1), (symv 11, symv 11), (symv 10, symv 10), (symv 20, symv 13), (.bool true, symv 12), (symv 2, symv 2), (symv 3, symv 3), (symv 4, symv 4), (symv 5, symv 5), (symv 6, symv 6), (symv 7, symv 7), (symv 8, symv 8), (symv 9, symv 9)] := by kernel_rfl
def F3 : List (FOp × Value) := [(.len #[22] 3 (symv 0), symv 14),
    (.bin .lss 3 (symv 13) (symv 14), .bool true),
    (.ixa 22 (symv 0) (symv 13), symv 15),
    (.ld 24 (symv 15), .agg ⟨[symv 16, symv 17, symv 18, symv 19]⟩),
    (.bin .add 3 (symv 13) (.int .i64 1), symv 20)]
def C3 : List (FuncId × List Value × Value) := [(11, [.agg ⟨[symv 16, symv 17, symv 18, symv 19]⟩], .bool false)]
theorem e4 : backObs head1 bks1 (at' 64 F3 C3 (stopCode at1) (headSt headB2 bks1)) = some [(symv 0, symv 0), (symv 1, symv 1), (symv 11, symv 11), (symv 10, symv 10), (symv 20, symv 13), (.bool true, symv 12), (symv 2, symv 2), (symv 3, symv 3), (symv 4, symv 4), (symv 5, symv 5), (symv 6, symv 6), (symv 7, symv 7), (symv 8, symv 8), (symv 9, symv 9)] := by kernel_rfl
def F4 : List (FOp × Value) := [(.len #[22] 3 (symv 0), symv 14),
    (.bin .lss 3 (symv 13) (symv 14), .bool false)]
def C4 : List (FuncId × List Value × Value) := []
def F5 : List (FOp × Value) := [(.bin .add 3 (symv 11) (.int .i64 1), symv 21)]
def C5 : List (FuncId × List Value × Value) := []
theorem e5 : backObs head0 bks0 (leave' 64 F5 C5 (stopKs at1) (at' 64 F4 C4 (stopCode at1) (headSt headB2 bks1))) = some [(symv 0, symv 0), (symv 1, symv 1), (symv 21, symv 11), (symv 10, symv 10), (symv 2, symv 2), (symv 3, symv 3), (symv 4, symv 4), (symv 5, symv 5), (symv 6, symv 6), (symv 7, symv 7), (symv 8, symv 8), (symv 9, symv 9)] := by kernel_rfl
def headB6 : Sl := slots [(9, symv 13), (8, .bool false), (7, symv 11), (6, .pointer (some ⟨0, 0, none⟩)), (5, symv 10), (4, .slice none 0 0), (1, symv 1), (0, symv 0)]
theorem e6 : trAll (headSt head1 bks1) headB6 bks1 = some [(symv 0, symv 0), (symv 1, symv 1), (symv 11, symv 11), (symv 10, symv 10), (symv 13, symv 13), (symv 12, .bool false), (symv 2, symv 2), (symv 3, symv 3), (symv 4, symv 4), (symv 5, symv 5), (symv 6, symv 6), (symv 7, symv 7), (symv 8, symv 8), (symv 9, symv 9)] := by kernel_rfl
def F6 : List (FOp × Value) := [(.len #[22] 3 (symv 0), symv 14),
    (.bin .lss 3 (symv 13) (symv 14), .bool true),
    (.ixa 22 (symv 0) (symv 13), symv 15),
    (.ld 24 (symv 15), .agg ⟨[symv 16, symv 17, symv 18, symv 19]⟩),
    (.fa 24 (symv 15) 2, symv 22),
    (.ld 3 (symv 22), symv 18),
    (.bin .eql 3 (symv 18) (symv 1), .bool true),
    (.fa 24 (symv 15) 3, symv 23),
    (.ld 3 (symv 23), symv 19),
    (.bin .eql 3 (symv 19) (symv 11), .bool true),
    (.bin .add 3 (symv 13) (.int .i64 1), symv 20)]
def C6 : List (FuncId × List Value × Value) := [(11, [.agg ⟨[symv 16, symv 17, symv 18, symv 19]⟩], .bool true)]
theorem e7 : backObs head1 bks1 (at' 64 F6 C6 (stopCode at1) (headSt headB6 bks1)) = some [(symv 0, symv 0), (symv 1, symv 1), (symv 11, symv 11), (symv 10, symv 10), (symv 20, symv 13), (.bool true, symv 12), (symv 2, symv 2), (symv 3, symv 3), (symv 4, symv 4), (symv 5, symv 5), (symv 6, symv 6), (symv 7, symv 7), (symv 8, symv 8), (symv 9, symv 9)] := by kernel_rfl
def F7 : List (FOp × Value) := [(.len #[22] 3 (symv 0), symv 14),
    (.bin .lss 3 (symv 13) (symv 14), .bool true),
    (.ixa 22 (symv 0) (symv 13), symv 15),
    (.ld 24 (symv 15), .agg ⟨[symv 16, symv 17, symv 18, symv 19]⟩),
    (.fa 24 (symv 15) 2, symv 22),
    (.ld 3 (symv 22), symv 18),
    (.bin .eql 3 (symv 18) (symv 1), .bool true),
    (.fa 24 (symv 15) 3, symv 23),
    (.ld 3 (symv 23), symv 19),
    (.bin .eql 3 (symv 19) (symv 11), .bool false),
    (.bin .add 3 (symv 13) (.int .i64 1), symv 20)]
def C7 : List (FuncId × List Value × Value) := [(11, [.agg ⟨[symv 16, symv 17, symv 18, symv 19]⟩], .bool true)]
theorem e8 : backObs head1 bks1 (at' 64 F7 C7 (stopCode at1) (headSt headB6 bks1)) = some [(symv 0, symv 0), (symv 1, symv 1), (symv 11, symv 11), (symv 10, symv 10), (symv 20, symv 13), (.bool false, symv 12), (symv 2, symv 2), (symv 3, symv 3), (symv 4, symv 4), (symv 5, symv 5), (symv 6, symv 6), (symv 7, symv 7), (symv 8, symv 8), (symv 9, symv 9)] := by kernel_rfl
def F8 : List (FOp × Value) := [(.len #[22] 3 (symv 0), symv 14),
    (.bin .lss 3 (symv 13) (symv 14), .bool true),
    (.ixa 22 (symv 0) (symv 13), symv 15),
    (.ld 24 (symv 15), .agg ⟨[symv 16, symv 17, symv 18, symv 19]⟩),
    (.fa 24 (symv 15) 2, symv 22),
    (.ld 3 (symv 22), symv 18),
    (.bin .eql 3 (symv 18) (symv 1), .bool false),
    (.bin .add 3 (symv 13) (.int .i64 1), symv 20)]
def C8 : List (FuncId × List Value × Value) := [(11, [.agg ⟨[symv 16, symv 17, symv 18, symv 19]⟩], .bool true)]
theorem e9 : backObs head1 bks1 (at' 64 F8 C8 (stopCode at1) (headSt headB6 bks1)) = some [(symv 0, symv 0), (symv 1, symv 1), (symv 11, symv 11), (symv 10, symv 10), (symv 20, symv 13), (.bool false, symv 12), (symv 2, symv 2), (symv 3, symv 3), (symv 4, symv 4), (symv 5, symv 5), (symv 6, symv 6), (symv 7, symv 7), (symv 8, symv 8), (symv 9, symv 9)] := by kernel_rfl
theorem e10 : backObs head1 bks1 (at' 64 F3 C3 (stopCode at1) (headSt headB6 bks1)) = some [(symv 0, symv 0), (symv 1, symv 1), (symv 11, symv 11), (symv 10, symv 10), (symv 20, symv 13), (.bool false, symv 12), (symv 2, symv 2), (symv 3, symv 3), (symv 4, symv 4), (symv 5, symv 5), (symv 6, symv 6), (symv 7, symv 7), (symv 8, symv 8), (symv 9, symv 9)] := by kernel_rfl
def F9 : List (FOp × Value) := []
def C9 : List (FuncId × List Value × Value) := []
theorem e11 : cellsAt (stopSt (leave' 64 F9 C9 (stopKs at1) (at' 64 F4 C4 (stopCode at1) (headSt headB6 bks1)))).A 1 (.slice (some ⟨1, 0, none⟩) 1 1) = some [symv 11] := by kernel_rfl
theorem e12 : appOf 36 (leave' 64 F9 C9 (stopKs at1) (at' 64 F4 C4 (stopCode at1) (headSt headB6 bks1))) = some (symv 10, .slice (some ⟨1, 0, none⟩) 1 1) := by kernel_rfl
noncomputable abbrev so0 := leave' 64 F9 C9 (stopKs at1) (at' 64 F4 C4 (stopCode at1) (headSt headB6 bks1))
noncomputable def bk0 : List Bk := [⟨.cells [symv 2, symv 3, symv 4, symv 5, symv 6, symv 7, symv 8, symv 9], 38, 0⟩]
def hd0 : Sl := slots [(7, symv 11), (6, .pointer (some ⟨0, 0, none⟩)), (5, symv 10), (4, .slice none 0 0), (1, symv 1), (0, symv 0)]
def hp0 : Sl := match aput 64 hd0 (some 62) (symv 24) with | some s => s | none => .nil
theorem e13 : trAll (stopSt so0) hd0 bk0 = some [(symv 0, symv 0), (symv 1, symv 1), (symv 11, symv 11), (symv 10, symv 10), (symv 2, symv 2), (symv 3, symv 3), (symv 4, symv 4), (symv 5, symv 5), (symv 6, symv 6), (symv 7, symv 7), (symv 8, symv 8), (symv 9, symv 9)] := by kernel_rfl
theorem e14 : aput 64 hd0 (stopDst so0) (symv 24) = some hp0 := by kernel_rfl
theorem e15 : backObs head0 bks0 (ops' 64 F5 C5 (stopRest so0) (stopOps so0) (stopKs so0) { sl := hp0, ms := [], A := mkAS bk0 }) = some [(symv 0, symv 0), (symv 1, symv 1), (symv 21, symv 11), (symv 24, symv 10), (symv 2, symv 2), (symv 3, symv 3), (symv 4, symv 4), (symv 5, symv 5), (symv 6, symv 6), (symv 7, symv 7), (symv 8, symv 8), (symv 9, symv 9)] := by kernel_rfl
def F10 : List (FOp × Value) := [(.bin .sub 3 (symv 1) (.int .i64 1), .int .i64 0),
    (.bin .leq 3 (symv 11) (symv 2), .bool false)]
def C10 : List (FuncId × List Value × Value) := []
theorem e16 : endVal Tryz.prog Tryz.f20 (leave' 64 F9 C9 (stopKs at0) (at' 64 F10 C10 (stopCode at0) (headSt head0 bks0))) = some (symv 10) := by kernel_rfl
def F11 : List (FOp × Value) := [(.bin .sub 3 (symv 1) (.int .i64 1), .int .i64 1),
    (.bin .leq 3 (symv 11) (symv 3), .bool true)]
def C11 : List (FuncId × List Value × Value) := []
noncomputable def bks2 : List Bk := [⟨.cells [symv 2, symv 3, symv 4, symv 5, symv 6, symv 7, symv 8, symv 9], 38, 0⟩]
def head2 : Sl := slots [(9, symv 26), (8, symv 25), (7, symv 11), (6, .pointer (some ⟨0, 0, none⟩)), (5, symv 10), (4, .slice none 0 0), (1, symv 1), (0, symv 0)]
noncomputable abbrev at2 := at' 64 F11 C11 (stopCode at0) (headSt head0 bks0)
theorem e17 : headObs head2 bks2 at2 = some [(symv 0, symv 0), (symv 1, symv 1), (symv 11, symv 11), (symv 10, symv 10), (.int .i64 0, symv 26), (.bool false, symv 25), (symv 2, symv 2), (symv 3, symv 3), (symv 4, symv 4), (symv 5, symv 5), (symv 6, symv 6), (symv 7, symv 7), (symv 8, symv 8), (symv 9, symv 9)] := by kernel_rfl
def headB18 : Sl := slots [(9, symv 26), (8, .bool true), (7, symv 11), (6, .pointer (some ⟨0, 0, none⟩)), (5, symv 10), (4, .slice none 0 0), (1, symv 1), (0, symv 0)]
theorem e18 : trAll (headSt head2 bks2) headB18 bks2 = some [(symv 0, symv 0), (symv 1, symv 1), (symv 11, symv 11), (symv 10, symv 10), (symv 26, symv 26), (symv 25, .bool true), (symv 2, symv 2), (symv 3, symv 3), (symv 4, symv 4), (symv 5, symv 5), (symv 6, symv 6), (symv 7, symv 7), (symv 8, symv 8), (symv 9, symv 9)] := by kernel_rfl
def F12 : List (FOp × Value) := [(.len #[22] 3 (symv 0), symv 14),
    (.bin .lss 3 (symv 26) (symv 14), .bool true),
    (.ixa 22 (symv 0) (symv 26), symv 27),
    (.ld 24 (symv 27), .agg ⟨[symv 28, symv 29, symv 30, symv 31]⟩),
    (.bin .add 3 (symv 26) (.int .i64 1), symv 32)]
def C12 : List (FuncId × List Value × Value) := [(11, [.agg ⟨[symv 28, symv 29, symv 30, symv 31]⟩], .bool true)]
theorem e19 : backObs head2 bks2 (at' 64 F12 C12 (stopCode at2) (headSt headB18 bks2)) = some [(symv 0, symv 0), (symv 1, symv 1), (symv 11, symv 11), (symv 10, symv 10), (symv 32, symv 26), (.bool true, symv 25), (symv 2, symv 2), (symv 3, symv 3), (symv 4, symv 4), (symv 5, symv 5), (symv 6, symv 6), (symv 7, symv 7), (symv 8, symv 8), (symv 9, symv 9)] := by kernel_rfl
def F13 : List (FOp × Value) := [(.len #[22] 3 (symv 0), symv 14),
    (.bin .lss 3 (symv 26) (symv 14), .bool true),
    (.ixa 22 (symv 0) (symv 26), symv 27),
    (.ld 24 (symv 27), .agg ⟨[symv 28, symv 29, symv 30, symv 31]⟩),
    (.bin .add 3 (symv 26) (.int .i64 1), symv 32)]
def C13 : List (FuncId × List Value × Value) := [(11, [.agg ⟨[symv 28, symv 29, symv 30, symv 31]⟩], .bool false)]
theorem e20 : backObs head2 bks2 (at' 64 F13 C13 (stopCode at2) (headSt headB18 bks2)) = some [(symv 0, symv 0), (symv 1, symv 1), (symv 11, symv 11), (symv 10, symv 10), (symv 32, symv 26), (.bool true, symv 25), (symv 2, symv 2), (symv 3, symv 3), (symv 4, symv 4), (symv 5, symv 5), (symv 6, symv 6), (symv 7, symv 7), (symv 8, symv 8), (symv 9, symv 9)] := by kernel_rfl
def F14 : List (FOp × Value) := [(.len #[22] 3 (symv 0), symv 14),
    (.bin .lss 3 (symv 26) (symv 14), .bool false)]
def C14 : List (FuncId × List Value × Value) := []
theorem e21 : backObs head0 bks0 (leave' 64 F5 C5 (stopKs at2) (at' 64 F14 C14 (stopCode at2) (headSt headB18 bks2))) = some [(symv 0, symv 0), (symv 1, symv 1), (symv 21, symv 11), (symv 10, symv 10), (symv 2, symv 2), (symv 3, symv 3), (symv 4, symv 4), (symv 5, symv 5), (symv 6, symv 6), (symv 7, symv 7), (symv 8, symv 8), (symv 9, symv 9)] := by kernel_rfl
def headB22 : Sl := slots [(9, symv 26), (8, .bool false), (7, symv 11), (6, .pointer (some ⟨0, 0, none⟩)), (5, symv 10), (4, .slice none 0 0), (1, symv 1), (0, symv 0)]
theorem e22 : trAll (headSt head2 bks2) headB22 bks2 = some [(symv 0, symv 0), (symv 1, symv 1), (symv 11, symv 11), (symv 10, symv 10), (symv 26, symv 26), (symv 25, .bool false), (symv 2, symv 2), (symv 3, symv 3), (symv 4, symv 4), (symv 5, symv 5), (symv 6, symv 6), (symv 7, symv 7), (symv 8, symv 8), (symv 9, symv 9)] := by kernel_rfl
def F15 : List (FOp × Value) := [(.len #[22] 3 (symv 0), symv 14),
    (.bin .lss 3 (symv 26) (symv 14), .bool true),
    (.ixa 22 (symv 0) (symv 26), symv 27),
    (.ld 24 (symv 27), .agg ⟨[symv 28, symv 29, symv 30, symv 31]⟩),
    (.fa 24 (symv 27) 2, symv 33),
    (.ld 3 (symv 33), symv 30),
    (.bin .eql 3 (symv 30) (symv 1), .bool true),
    (.fa 24 (symv 27) 3, symv 34),
    (.ld 3 (symv 34), symv 31),
    (.bin .eql 3 (symv 31) (symv 11), .bool true),
    (.bin .add 3 (symv 26) (.int .i64 1), symv 32)]
def C15 : List (FuncId × List Value × Value) := [(11, [.agg ⟨[symv 28, symv 29, symv 30, symv 31]⟩], .bool true)]
theorem e23 : backObs head2 bks2 (at' 64 F15 C15 (stopCode at2) (headSt headB22 bks2)) = some [(symv 0, symv 0), (symv 1, symv 1), (symv 11, symv 11), (symv 10, symv 10), (symv 32, symv 26), (.bool true, symv 25), (symv 2, symv 2), (symv 3, symv 3), (symv 4, symv 4), (symv 5, symv 5), (symv 6, symv 6), (symv 7, symv 7), (symv 8, symv 8), (symv 9, symv 9)] := by kernel_rfl
def F16 : List (FOp × Value) := [(.len #[22] 3 (symv 0), symv 14),
    (.bin .lss 3 (symv 26) (symv 14), .bool true),
    (.ixa 22 (symv 0) (symv 26), symv 27),
    (.ld 24 (symv 27), .agg ⟨[symv 28, symv 29, symv 30, symv 31]⟩),
    (.fa 24 (symv 27) 2, symv 33),
    (.ld 3 (symv 33), symv 30),
    (.bin .eql 3 (symv 30) (symv 1), .bool true),
    (.fa 24 (symv 27) 3, symv 34),
    (.ld 3 (symv 34), symv 31),
    (.bin .eql 3 (symv 31) (symv 11), .bool false),
    (.bin .add 3 (symv 26) (.int .i64 1), symv 32)]
def C16 : List (FuncId × List Value × Value) := [(11, [.agg ⟨[symv 28, symv 29, symv 30, symv 31]⟩], .bool true)]
theorem e24 : backObs head2 bks2 (at' 64 F16 C16 (stopCode at2) (headSt headB22 bks2)) = some [(symv 0, symv 0), (symv 1, symv 1), (symv 11, symv 11), (symv 10, symv 10), (symv 32, symv 26), (.bool false, symv 25), (symv 2, symv 2), (symv 3, symv 3), (symv 4, symv 4), (symv 5, symv 5), (symv 6, symv 6), (symv 7, symv 7), (symv 8, symv 8), (symv 9, symv 9)] := by kernel_rfl
def F17 : List (FOp × Value) := [(.len #[22] 3 (symv 0), symv 14),
    (.bin .lss 3 (symv 26) (symv 14), .bool true),
    (.ixa 22 (symv 0) (symv 26), symv 27),
    (.ld 24 (symv 27), .agg ⟨[symv 28, symv 29, symv 30, symv 31]⟩),
    (.fa 24 (symv 27) 2, symv 33),
    (.ld 3 (symv 33), symv 30),
    (.bin .eql 3 (symv 30) (symv 1), .bool false),
    (.bin .add 3 (symv 26) (.int .i64 1), symv 32)]
def C17 : List (FuncId × List Value × Value) := [(11, [.agg ⟨[symv 28, symv 29, symv 30, symv 31]⟩], .bool true)]
theorem e25 : backObs head2 bks2 (at' 64 F17 C17 (stopCode at2) (headSt headB22 bks2)) = some [(symv 0, symv 0), (symv 1, symv 1), (symv 11, symv 11), (symv 10, symv 10), (symv 32, symv 26), (.bool false, symv 25), (symv 2, symv 2), (symv 3, symv 3), (symv 4, symv 4), (symv 5, symv 5), (symv 6, symv 6), (symv 7, symv 7), (symv 8, symv 8), (symv 9, symv 9)] := by kernel_rfl
theorem e26 : backObs head2 bks2 (at' 64 F13 C13 (stopCode at2) (headSt headB22 bks2)) = some [(symv 0, symv 0), (symv 1, symv 1), (symv 11, symv 11), (symv 10, symv 10), (symv 32, symv 26), (.bool false, symv 25), (symv 2, symv 2), (symv 3, symv 3), (symv 4, symv 4), (symv 5, symv 5), (symv 6, symv 6), (symv 7, symv 7), (symv 8, symv 8), (symv 9, symv 9)] := by kernel_rfl
theorem e27 : cellsAt (stopSt (leave' 64 F9 C9 (stopKs at2) (at' 64 F14 C14 (stopCode at2) (headSt headB22 bks2)))).A 1 (.slice (some ⟨1, 0, none⟩) 1 1) = some [symv 11] := by kernel_rfl
theorem e28 : appOf 36 (leave' 64 F9 C9 (stopKs at2) (at' 64 F14 C14 (stopCode at2) (headSt headB22 bks2))) = some (symv 10, .slice (some ⟨1, 0, none⟩) 1 1) := by kernel_rfl
noncomputable abbrev so1 := leave' 64 F9 C9 (stopKs at2) (at' 64 F14 C14 (stopCode at2) (headSt headB22 bks2))
noncomputable def bk1 : List Bk := [⟨.cells [symv 2, symv 3, symv 4, symv 5, symv 6, symv 7, symv 8, symv 9], 38, 0⟩]
def hd1 : Sl := slots [(7, symv 11), (6, .pointer (some ⟨0, 0, none⟩)), (5, symv 10), (4, .slice none 0 0), (1, symv 1), (0, symv 0)]
def hp1 : Sl := match aput 64 hd1 (some 62) (symv 24) with | some s => s | none => .nil
theorem e29 : trAll (stopSt so1) hd1 bk1 = some [(symv 0, symv 0), (symv 1, symv 1), (symv 11, symv 11), (symv 10, symv 10), (symv 2, symv 2), (symv 3, symv 3), (symv 4, symv 4), (symv 5, symv 5), (symv 6, symv 6), (symv 7, symv 7), (symv 8, symv 8), (symv 9, symv 9)] := by kernel_rfl
theorem e30 : aput 64 hd1 (stopDst so1) (symv 24) = some hp1 := by kernel_rfl
theorem e31 : backObs head0 bks0 (ops' 64 F5 C5 (stopRest so1) (stopOps so1) (stopKs so1) { sl := hp1, ms := [], A := mkAS bk1 }) = some [(symv 0, symv 0), (symv 1, symv 1), (symv 21, symv 11), (symv 24, symv 10), (symv 2, symv 2), (symv 3, symv 3), (symv 4, symv 4), (symv 5, symv 5), (symv 6, symv 6), (symv 7, symv 7), (symv 8, symv 8), (symv 9, symv 9)] := by kernel_rfl
def F18 : List (FOp × Value) := [(.bin .sub 3 (symv 1) (.int .i64 1), .int .i64 1),
    (.bin .leq 3 (symv 11) (symv 3), .bool false)]
def C18 : List (FuncId × List Value × Value) := []
theorem e32 : endVal Tryz.prog Tryz.f20 (leave' 64 F9 C9 (stopKs at0) (at' 64 F18 C18 (stopCode at0) (headSt head0 bks0))) = some (symv 10) := by kernel_rfl
def F19 : List (FOp × Value) := [(.bin .sub 3 (symv 1) (.int .i64 1), .int .i64 2),
    (.bin .leq 3 (symv 11) (symv 4), .bool true)]
def C19 : List (FuncId × List Value × Value) := []
noncomputable def bks3 : List Bk := [⟨.cells [symv 2, symv 3, symv 4, symv 5, symv 6, symv 7, symv 8, symv 9], 38, 0⟩]
def head3 : Sl := slots [(9, symv 36), (8, symv 35), (7, symv 11), (6, .pointer (some ⟨0, 0, none⟩)), (5, symv 10), (4, .slice none 0 0), (1, symv 1), (0, symv 0)]
noncomputable abbrev at3 := at' 64 F19 C19 (stopCode at0) (headSt head0 bks0)
theorem e33 : headObs head3 bks3 at3 = some [(symv 0, symv 0), (symv 1, symv 1), (symv 11, symv 11), (symv 10, symv 10), (.int .i64 0, symv 36), (.bool false, symv 35), (symv 2, symv 2), (symv 3, symv 3), (symv 4, symv 4), (symv 5, symv 5), (symv 6, symv 6), (symv 7, symv 7), (symv 8, symv 8), (symv 9, symv 9)] := by kernel_rfl
def headB34 : Sl := slots [(9, symv 36), (8, .bool true), (7, symv 11), (6, .pointer (some ⟨0, 0, none⟩)), (5, symv 10), (4, .slice none 0 0), (1, symv 1), (0, symv 0)]
theorem e34 : trAll (headSt head3 bks3) headB34 bks3 = some [(symv 0, symv 0), (symv 1, symv 1), (symv 11, symv 11), (symv 10, symv 10), (symv 36, symv 36), (symv 35, .bool true), (symv 2, symv 2), (symv 3, symv 3), (symv 4, symv 4), (symv 5, symv 5), (symv 6, symv 6), (symv 7, symv 7), (symv 8, symv 8), (symv 9, symv 9)] := by kernel_rfl
def F20 : List (FOp × Value) := [(.len #[22] 3 (symv 0), symv 14),
    (.bin .lss 3 (symv 36) (symv 14), .bool true),
    (.ixa 22 (symv 0) (symv 36), symv 37),
    (.ld 24 (symv 37), .agg ⟨[symv 38, symv 39, symv 40, symv 41]⟩),
    (.bin .add 3 (symv 36) (.int .i64 1), symv 42)]
def C20 : List (FuncId × List Value × Value) := [(11, [.agg ⟨[symv 38, symv 39, symv 40, symv 41]⟩], .bool true)]
theorem e35 : backObs head3 bks3 (at' 64 F20 C20 (stopCode at3) (headSt headB34 bks3)) = some [(symv 0, symv 0), (symv 1, symv 1), (symv 11, symv 11), (symv 10, symv 10), (symv 42, symv 36), (.bool true, symv 35), (symv 2, symv 2), (symv 3, symv 3), (symv 4, symv 4), (symv 5, symv 5), (symv 6, symv 6), (symv 7, symv 7), (symv 8, symv 8), (symv 9, symv 9)] := by kernel_rfl
def F21 : List (FOp × Value) := [(.len #[22] 3 (symv 0), symv 14),
    (.bin .lss 3 (symv 36) (symv 14), .bool true),
    (.ixa 22 (symv 0) (symv 36), symv 37),
    (.ld 24 (symv 37), .agg ⟨[symv 38, symv 39, symv 40, symv 41]⟩),
    (.bin .add 3 (symv 36) (.int .i64 1), symv 42)]
def C21 : List (FuncId × List Value × Value) := [(11, [.agg ⟨[symv 38, symv 39, symv 40, symv 41]⟩], .bool false)]
theorem e36 : backObs head3 bks3 (at' 64 F21 C21 (stopCode at3) (headSt headB34 bks3)) = some [(symv 0, symv 0), (symv 1, symv 1), (symv 11, symv 11), (symv 10, symv 10), (symv 42, symv 36), (.bool true, symv 35), (symv 2, symv 2), (symv 3, symv 3), (symv 4, symv 4), (symv 5, symv 5), (symv 6, symv 6), (symv 7, symv 7), (symv 8, symv 8), (symv 9, symv 9)] := by kernel_rfl
def F22 : List (FOp × Value) := [(.len #[22] 3 (symv 0), symv 14),
    (.bin .lss 3 (symv 36) (symv 14), .bool false)]
def C22 : List (FuncId × List Value × Value) := []
theorem e37 : backObs head0 bks0 (leave' 64 F5 C5 (stopKs at3) (at' 64 F22 C22 (stopCode at3) (headSt headB34 bks3))) = some [(symv 0, symv 0), (symv 1, symv 1), (symv 21, symv 11), (symv 10, symv 10), (symv 2, symv 2), (symv 3, symv 3), (symv 4, symv 4), (symv 5, symv 5), (symv 6, symv 6), (symv 7, symv 7), (symv 8, symv 8), (symv 9, symv 9)] := by kernel_rfl
def headB38 : Sl := slots [(9, symv 36), (8, .bool false), (7, symv 11), (6, .pointer (some ⟨0, 0, none⟩)), (5, symv 10), (4, .slice none 0 0), (1, symv 1), (0, symv 0)]
theorem e38 : trAll (headSt head3 bks3) headB38 bks3 = some [(symv 0, symv 0), (symv 1, symv 1), (symv 11, symv 11), (symv 10, symv 10), (symv 36, symv 36), (symv 35, .bool false), (symv 2, symv 2), (symv 3, symv 3), (symv 4, symv 4), (symv 5, symv 5), (symv 6, symv 6), (symv 7, symv 7), (symv 8, symv 8), (symv 9, symv 9)] := by kernel_rfl
def F23 : List (FOp × Value) := [(.len #[22] 3 (symv 0), symv 14),
    (.bin .lss 3 (symv 36) (symv 14), .bool true),
    (.ixa 22 (symv 0) (symv 36), symv 37),
    (.ld 24 (symv 37), .agg ⟨[symv 38, symv 39, symv 40, symv 41]⟩),
    (.fa 24 (symv 37) 2, symv 43),
    (.ld 3 (symv 43), symv 40),
    (.bin .eql 3 (symv 40) (symv 1), .bool true),
    (.fa 24 (symv 37) 3, symv 44),
    (.ld 3 (symv 44), symv 41),
    (.bin .eql 3 (symv 41) (symv 11), .bool true),
    (.bin .add 3 (symv 36) (.int .i64 1), symv 42)]
def C23 : List (FuncId × List Value × Value) := [(11, [.agg ⟨[symv 38, symv 39, symv 40, symv 41]⟩], .bool true)]
theorem e39 : backObs head3 bks3 (at' 64 F23 C23 (stopCode at3) (headSt headB38 bks3)) = some [(symv 0, symv 0), (symv 1, symv 1), (symv 11, symv 11), (symv 10, symv 10), (symv 42, symv 36), (.bool true, symv 35), (symv 2, symv 2), (symv 3, symv 3), (symv 4, symv 4), (symv 5, symv 5), (symv 6, symv 6), (symv 7, symv 7), (symv 8, symv 8), (symv 9, symv 9)] := by kernel_rfl
def F24 : List (FOp × Value) := [(.len #[22] 3 (symv 0), symv 14),
    (.bin .lss 3 (symv 36) (symv 14), .bool true),
    (.ixa 22 (symv 0) (symv 36), symv 37),
    (.ld 24 (symv 37), .agg ⟨[symv 38, symv 39, symv 40, symv 41]⟩),
    (.fa 24 (symv 37) 2, symv 43),
    (.ld 3 (symv 43), symv 40),
    (.bin .eql 3 (symv 40) (symv 1), .bool true),
    (.fa 24 (symv 37) 3, symv 44),
    (.ld 3 (symv 44), symv 41),
    (.bin .eql 3 (symv 41) (symv 11), .bool false),
    (.bin .add 3 (symv 36) (.int .i64 1), symv 42)]
def C24 : List (FuncId × List Value × Value) := [(11, [.agg ⟨[symv 38, symv 39, symv 40, symv 41]⟩], .bool true)]
theorem e40 : backObs head3 bks3 (at' 64 F24 C24 (stopCode at3) (headSt headB38 bks3)) = some [(symv 0, symv 0), (symv 1, symv 1), (symv 11, symv 11), (symv 10, symv 10), (symv 42, symv 36), (.bool false, symv 35), (symv 2, symv 2), (symv 3, symv 3), (symv 4, symv 4), (symv 5, symv 5), (symv 6, symv 6), (symv 7, symv 7), (symv 8, symv 8), (symv 9, symv 9)] := by kernel_rfl
def F25 : List (FOp × Value) := [(.len #[22] 3 (symv 0), symv 14),
    (.bin .lss 3 (symv 36) (symv 14), .bool true),
    (.ixa 22 (symv 0) (symv 36), symv 37),
    (.ld 24 (symv 37), .agg ⟨[symv 38, symv 39, symv 40, symv 41]⟩),
    (.fa 24 (symv 37) 2, symv 43),
    (.ld 3 (symv 43), symv 40),
    (.bin .eql 3 (symv 40) (symv 1), .bool false),
    (.bin .add 3 (symv 36) (.int .i64 1), symv 42)]
def C25 : List (FuncId × List Value × Value) := [(11, [.agg ⟨[symv 38, symv 39, symv 40, symv 41]⟩], .bool true)]
theorem e41 : backObs head3 bks3 (at' 64 F25 C25 (stopCode at3) (headSt headB38 bks3)) = some [(symv 0, symv 0), (symv 1, symv 1), (symv 11, symv 11), (symv 10, symv 10), (symv 42, symv 36), (.bool false, symv 35), (symv 2, symv 2), (symv 3, symv 3), (symv 4, symv 4), (symv 5, symv 5), (symv 6, symv 6), (symv 7, symv 7), (symv 8, symv 8), (symv 9, symv 9)] := by kernel_rfl
theorem e42 : backObs head3 bks3 (at' 64 F21 C21 (stopCode at3) (headSt headB38 bks3)) = some [(symv 0, symv 0), (symv 1, symv 1), (symv 11, symv 11), (symv 10, symv 10), (symv 42, symv 36), (.bool false, symv 35), (symv 2, symv 2), (symv 3, symv 3), (symv 4, symv 4), (symv 5, symv 5), (symv 6, symv 6), (symv 7, symv 7), (symv 8, symv 8), (symv 9, symv 9)] := by kernel_rfl
theorem e43 : cellsAt (stopSt (leave' 64 F9 C9 (stopKs at3) (at' 64 F22 C22 (stopCode at3) (headSt headB38 bks3)))).A 1 (.slice (some ⟨1, 0, none⟩) 1 1) = some [symv 11] := by kernel_rfl
theorem e44 : appOf 36 (leave' 64 F9 C9 (stopKs at3) (at' 64 F22 C22 (stopCode at3) (headSt headB38 bks3))) = some (symv 10, .slice (some ⟨1, 0, none⟩) 1 1) := by kernel_rfl
noncomputable abbrev so2 := leave' 64 F9 C9 (stopKs at3) (at' 64 F22 C22 (stopCode at3) (headSt headB38 bks3))
noncomputable def bk2 : List Bk := [⟨.cells [symv 2, symv 3, symv 4, symv 5, symv 6, symv 7, symv 8, symv 9], 38, 0⟩]
def hd2 : Sl := slots [(7, symv 11), (6, .pointer (some ⟨0, 0, none⟩)), (5, symv 10), (4, .slice none 0 0), (1, symv 1), (0, symv 0)]
def hp2 : Sl := match aput 64 hd2 (some 62) (symv 24) with | some s => s | none => .nil
theorem e45 : trAll (stopSt so2) hd2 bk2 = some [(symv 0, symv 0), (symv 1, symv 1), (symv 11, symv 11), (symv 10, symv 10), (symv 2, symv 2), (symv 3, symv 3), (symv 4, symv 4), (symv 5, symv 5), (symv 6, symv 6), (symv 7, symv 7), (symv 8, symv 8), (symv 9, symv 9)] := by kernel_rfl
theorem e46 : aput 64 hd2 (stopDst so2) (symv 24) = some hp2 := by kernel_rfl
theorem e47 : backObs head0 bks0 (ops' 64 F5 C5 (stopRest so2) (stopOps so2) (stopKs so2) { sl := hp2, ms := [], A := mkAS bk2 }) = some [(symv 0, symv 0), (symv 1, symv 1), (symv 21, symv 11), (symv 24, symv 10), (symv 2, symv 2), (symv 3, symv 3), (symv 4, symv 4), (symv 5, symv 5), (symv 6, symv 6), (symv 7, symv 7), (symv 8, symv 8), (symv 9, symv 9)] := by kernel_rfl
def F26 : List (FOp × Value) := [(.bin .sub 3 (symv 1) (.int .i64 1), .int .i64 2),
    (.bin .leq 3 (symv 11) (symv 4), .bool false)]
def C26 : List (FuncId × List Value × Value) := []
theorem e48 : endVal Tryz.prog Tryz.f20 (leave' 64 F9 C9 (stopKs at0) (at' 64 F26 C26 (stopCode at0) (headSt head0 bks0))) = some (symv 10) := by kernel_rfl
def F27 : List (FOp × Value) := [(.bin .sub 3 (symv 1) (.int .i64 1), .int .i64 3),
    (.bin .leq 3 (symv 11) (symv 5), .bool true)]
def C27 : List (FuncId × List Value × Value) := []
noncomputable def bks4 : List Bk := [⟨.cells [symv 2, symv 3, symv 4, symv 5, symv 6, symv 7, symv 8, symv 9], 38, 0⟩]
def head4 : Sl := slots [(9, symv 46), (8, symv 45), (7, symv 11), (6, .pointer (some ⟨0, 0, none⟩)), (5, symv 10), (4, .slice none 0 0), (1, symv 1), (0, symv 0)]
noncomputable abbrev at4 := at' 64 F27 C27 (stopCode at0) (headSt head0 bks0)
theorem e49 : headObs head4 bks4 at4 = some [(symv 0, symv 0), (symv 1, symv 1), (symv 11, symv 11), (symv 10, symv 10), (.int .i64 0, symv 46), (.bool false, symv 45), (symv 2, symv 2), (symv 3, symv 3), (symv 4, symv 4), (symv 5, symv 5), (symv 6, symv 6), (symv 7, symv 7), (symv 8, symv 8), (symv 9, symv 9)] := by kernel_rfl
def headB50 : Sl := slots [(9, symv 46), (8, .bool true), (7, symv 11), (6, .pointer (some ⟨0, 0, none⟩)), (5, symv 10), (4, .slice none 0 0), (1, symv 1), (0, symv 0)]
theorem e50 : trAll (headSt head4 bks4) headB50 bks4 = some [(symv 0, symv 0), (symv 1, symv 1), (symv 11, symv 11), (symv 10, symv 10), (symv 46, symv 46), (symv 45, .bool true), (symv 2, symv 2), (symv 3, symv 3), (symv 4, symv 4), (symv 5, symv 5), (symv 6, symv 6), (symv 7, symv 7), (symv 8, symv 8), (symv 9, symv 9)] := by kernel_rfl
def F28 : List (FOp × Value) := [(.len #[22] 3 (symv 0), symv 14),
    (.bin .lss 3 (symv 46) (symv 14), .bool true),
    (.ixa 22 (symv 0) (symv 46), symv 47),
    (.ld 24 (symv 47), .agg ⟨[symv 48, symv 49, symv 50, symv 51]⟩),
    (.bin .add 3 (symv 46) (.int .i64 1), symv 52)]
def C28 : List (FuncId × List Value × Value) := [(11, [.agg ⟨[symv 48, symv 49, symv 50, symv 51]⟩], .bool true)]
theorem e51 : backObs head4 bks4 (at' 64 F28 C28 (stopCode at4) (headSt headB50 bks4)) = some [(symv 0, symv 0), (symv 1, symv 1), (symv 11, symv 11), (symv 10, symv 10), (symv 52, symv 46), (.bool true, symv 45), (symv 2, symv 2), (symv 3, symv 3), (symv 4, symv 4), (symv 5, symv 5), (symv 6, symv 6), (symv 7, symv 7), (symv 8, symv 8), (symv 9, symv 9)] := by kernel_rfl
def F29 : List (FOp × Value) := [(.len #[22] 3 (symv 0), symv 14),
    (.bin .lss 3 (symv 46) (symv 14), .bool true),
    (.ixa 22 (symv 0) (symv 46), symv 47),
    (.ld 24 (symv 47), .agg ⟨[symv 48, symv 49, symv 50, symv 51]⟩),
    (.bin .add 3 (symv 46) (.int .i64 1), symv 52)]
def C29 : List (FuncId × List Value × Value) := [(11, [.agg ⟨[symv 48, symv 49, symv 50, symv 51]⟩], .bool false)]
theorem e52 : backObs head4 bks4 (at' 64 F29 C29 (stopCode at4) (headSt headB50 bks4)) = some [(symv 0, symv 0), (symv 1, symv 1), (symv 11, symv 11), (symv 10, symv 10), (symv 52, symv 46), (.bool true, symv 45), (symv 2, symv 2), (symv 3, symv 3), (symv 4, symv 4), (symv 5, symv 5), (symv 6, symv 6), (symv 7, symv 7), (symv 8, symv 8), (symv 9, symv 9)] := by kernel_rfl
def F30 : List (FOp × Value) := [(.len #[22] 3 (symv 0), symv 14),
    (.bin .lss 3 (symv 46) (symv 14), .bool false)]
def C30 : List (FuncId × List Value × Value) := []
theorem e53 : backObs head0 bks0 (leave' 64 F5 C5 (stopKs at4) (at' 64 F30 C30 (stopCode at4) (headSt headB50 bks4))) = some [(symv 0, symv 0), (symv 1, symv 1), (symv 21, symv 11), (symv 10, symv 10), (symv 2, symv 2), (symv 3, symv 3), (symv 4, symv 4), (symv 5, symv 5), (symv 6, symv 6), (symv 7, symv 7), (symv 8, symv 8), (symv 9, symv 9)] := by kernel_rfl
def headB54 : Sl := slots [(9, symv 46), (8, .bool false), (7, symv 11), (6, .pointer (some ⟨0, 0, none⟩)), (5, symv 10), (4, .slice none 0 0), (1, symv 1), (0, symv 0)]
theorem e54 : trAll (headSt head4 bks4) headB54 bks4 = some [(symv 0, symv 0), (symv 1, symv 1), (symv 11, symv 11), (symv 10, symv 10), (symv 46, symv 46), (symv 45, .bool false), (symv 2, symv 2), (symv 3, symv 3), (symv 4, symv 4), (symv 5, symv 5), (symv 6, symv 6), (symv 7, symv 7), (symv 8, symv 8), (symv 9, symv 9)] := by kernel_rfl
def F31 : List (FOp × Value) := [(.len #[22] 3 (symv 0), symv 14),
    (.bin .lss 3 (symv 46) (symv 14), .bool true),
    (.ixa 22 (symv 0) (symv 46), symv 47),
    (.ld 24 (symv 47), .agg ⟨[symv 48, symv 49, symv 50, symv 51]⟩),
    (.fa 24 (symv 47) 2, symv 53),
    (.ld 3 (symv 53), symv 50),
    (.bin .eql 3 (symv 50) (symv 1), .bool true),
    (.fa 24 (symv 47) 3, symv 54),
    (.ld 3 (symv 54), symv 51),
    (.bin .eql 3 (symv 51) (symv 11), .bool true),
    (.bin .add 3 (symv 46) (.int .i64 1), symv 52)]
def C31 : List (FuncId × List Value × Value) := [(11, [.agg ⟨[symv 48, symv 49, symv 50, symv 51]⟩], .bool true)]
theorem e55 : backObs head4 bks4 (at' 64 F31 C31 (stopCode at4) (headSt headB54 bks4)) = some [(symv 0, symv 0), (symv 1, symv 1), (symv 11, symv 11), (symv 10, symv 10), (symv 52, symv 46), (.bool true, symv 45), (symv 2, symv 2), (symv 3, symv 3), (symv 4, symv 4), (symv 5, symv 5), (symv 6, symv 6), (symv 7, symv 7), (symv 8, symv 8), (symv 9, symv 9)] := by kernel_rfl
def F32 : List (FOp × Value) := [(.len #[22] 3 (symv 0), symv 14),
    (.bin .lss 3 (symv 46) (symv 14), .bool true),
    (.ixa 22 (symv 0) (symv 46), symv 47),
    (.ld 24 (symv 47), .agg ⟨[symv 48, symv 49, symv 50, symv 51]⟩),
    (.fa 24 (symv 47) 2, symv 53),
    (.ld 3 (symv 53), symv 50),
    (.bin .eql 3 (symv 50) (symv 1), .bool true),
    (.fa 24 (symv 47) 3, symv 54),
    (.ld 3 (symv 54), symv 51),
    (.bin .eql 3 (symv 51) (symv 11), .bool false),
    (.bin .add 3 (symv 46) (.int .i64 1), symv 52)]
def C32 : List (FuncId × List Value × Value) := [(11, [.agg ⟨[symv 48, symv 49, symv 50, symv 51]⟩], .bool true)]
theorem e56 : backObs head4 bks4 (at' 64 F32 C32 (stopCode at4) (headSt headB54 bks4)) = some [(symv 0, symv 0), (symv 1, symv 1), (symv 11, symv 11), (symv 10, symv 10), (symv 52, symv 46), (.bool false, symv 45), (symv 2, symv 2), (symv 3, symv 3), (symv 4, symv 4), (symv 5, symv 5), (symv 6, symv 6), (symv 7, symv 7), (symv 8, symv 8), (symv 9, symv 9)] := by kernel_rfl
def F33 : List (FOp × Value) := [(.len #[22] 3 (symv 0), symv 14),
    (.bin .lss 3 (symv 46) (symv 14), .bool true),
    (.ixa 22 (symv 0) (symv 46), symv 47),
    (.ld 24 (symv 47), .agg ⟨[symv 48, symv 49, symv 50, symv 51]⟩),
    (.fa 24 (symv 47) 2, symv 53),
    (.ld 3 (symv 53), symv 50),
    (.bin .eql 3 (symv 50) (symv 1), .bool false),
    (.bin .add 3 (symv 46) (.int .i64 1), symv 52)]
def C33 : List (FuncId × List Value × Value) := [(11, [.agg ⟨[symv 48, symv 49, symv 50, symv 51]⟩], .bool true)]
theorem e57 : backObs head4 bks4 (at' 64 F33 C33 (stopCode at4) (headSt headB54 bks4)) = some [(symv 0, symv 0), (symv 1, symv 1), (symv 11, symv 11), (symv 10, symv 10), (symv 52, symv 46), (.bool false, symv 45), (symv 2, symv 2), (symv 3, symv 3), (symv 4, symv 4), (symv 5, symv 5), (symv 6, symv 6), (symv 7, symv 7), (symv 8, symv 8), (symv 9, symv 9)] := by kernel_rfl
theorem e58 : backObs head4 bks4 (at' 64 F29 C29 (stopCode at4) (headSt headB54 bks4)) = some [(symv 0, symv 0), (symv 1, symv 1), (symv 11, symv 11), (symv 10, symv 10), (symv 52, symv 46), (.bool false, symv 45), (symv 2, symv 2), (symv 3, symv 3), (symv 4, symv 4), (symv 5, symv 5), (symv 6, symv 6), (symv 7, symv 7), (symv 8, symv 8), (symv 9, symv 9)] := by kernel_rfl
theorem e59 : cellsAt (stopSt (leave' 64 F9 C9 (stopKs at4) (at' 64 F30 C30 (stopCode at4) (headSt headB54 bks4)))).A 1 (.slice (some ⟨1, 0, none⟩) 1 1) = some [symv 11] := by kernel_rfl
theorem e60 : appOf 36 (leave' 64 F9 C9 (stopKs at4) (at' 64 F30 C30 (stopCode at4) (headSt headB54 bks4))) = some (symv 10, .slice (some ⟨1, 0, none⟩) 1 1) := by kernel_rfl
noncomputable abbrev so3 := leave' 64 F9 C9 (stopKs at4) (at' 64 F30 C30 (stopCode at4) (headSt headB54 bks4))
noncomputable def bk3 : List Bk := [⟨.cells [symv 2, symv 3, symv 4, symv 5, symv 6, symv 7, symv 8, symv 9], 38, 0⟩]
def hd3 : Sl := slots [(7, symv 11), (6, .pointer (some ⟨0, 0, none⟩)), (5, symv 10), (4, .slice none 0 0), (1, symv 1), (0, symv 0)]
def hp3 : Sl := match aput 64 hd3 (some 62) (symv 24) with | some s => s | none => .nil
theorem e61 : trAll (stopSt so3) hd3 bk3 = some [(symv 0, symv 0), (symv 1, symv 1), (symv 11, symv 11), (symv 10, symv 10), (symv 2, symv 2), (symv 3, symv 3), (symv 4, symv 4), (symv 5, symv 5), (symv 6, symv 6), (symv 7, symv 7), (symv 8, symv 8), (symv 9, symv 9)] := by kernel_rfl
theorem e62 : aput 64 hd3 (stopDst so3) (symv 24) = some hp3 := by kernel_rfl
theorem e63 : backObs head0 bks0 (ops' 64 F5 C5 (stopRest so3) (stopOps so3) (stopKs so3) { sl := hp3, ms := [], A := mkAS bk3 }) = some [(symv 0, symv 0), (symv 1, symv 1), (symv 21, symv 11), (symv 24, symv 10), (symv 2, symv 2), (symv 3, symv 3), (symv 4, symv 4), (symv 5, symv 5), (symv 6, symv 6), (symv 7, symv 7), (symv 8, symv 8), (symv 9, symv 9)] := by kernel_rfl
def F34 : List (FOp × Value) := [(.bin .sub 3 (symv 1) (.int .i64 1), .int .i64 3),
    (.bin .leq 3 (symv 11) (symv 5), .bool false)]
def C34 : List (FuncId × List Value × Value) := []
theorem e64 : endVal Tryz.prog Tryz.f20 (leave' 64 F9 C9 (stopKs at0) (at' 64 F34 C34 (stopCode at0) (headSt head0 bks0))) = some (symv 10) := by kernel_rfl
def F35 : List (FOp × Value) := [(.bin .sub 3 (symv 1) (.int .i64 1), .int .i64 4),
    (.bin .leq 3 (symv 11) (symv 6), .bool true)]
def C35 : List (FuncId × List Value × Value) := []
noncomputable def bks5 : List Bk := [⟨.cells [symv 2, symv 3, symv 4, symv 5, symv 6, symv 7, symv 8, symv 9], 38, 0⟩]
def head5 : Sl := slots [(9, symv 56), (8, symv 55), (7, symv 11), (6, .pointer (some ⟨0, 0, none⟩)), (5, symv 10), (4, .slice none 0 0), (1, symv 1), (0, symv 0)]
noncomputable abbrev at5 := at' 64 F35 C35 (stopCode at0) (headSt head0 bks0)
theorem e65 : headObs head5 bks5 at5 = some [(symv 0, symv 0), (symv 1, symv 1), (symv 11, symv 11), (symv 10, symv 10), (.int .i64 0, symv 56), (.bool false, symv 55), (symv 2, symv 2), (symv 3, symv 3), (symv 4, symv 4), (symv 5, symv 5), (symv 6, symv 6), (symv 7, symv 7), (symv 8, symv 8), (symv 9, symv 9)] := by kernel_rfl
def headB66 : Sl := slots [(9, symv 56), (8, .bool true), (7, symv 11), (6, .pointer (some ⟨0, 0, none⟩)), (5, symv 10), (4, .slice none 0 0), (1, symv 1), (0, symv 0)]
theorem e66 : trAll (headSt head5 bks5) headB66 bks5 = some [(symv 0, symv 0), (symv 1, symv 1), (symv 11, symv 11), (symv 10, symv 10), (symv 56, symv 56), (symv 55, .bool true), (symv 2, symv 2), (symv 3, symv 3), (symv 4, symv 4), (symv 5, symv 5), (symv 6, symv 6), (symv 7, symv 7), (symv 8, symv 8), (symv 9, symv 9)] := by kernel_rfl
def F36 : List (FOp × Value) := [(.len #[22] 3 (symv 0), symv 14),
    (.bin .lss 3 (symv 56) (symv 14), .bool true),
    (.ixa 22 (symv 0) (symv 56), symv 57),
    (.ld 24 (symv 57), .agg ⟨[symv 58, symv 59, symv 60, symv 61]⟩),
    (.bin .add 3 (symv 56) (.int .i64 1), symv 62)]
def C36 : List (FuncId × List Value × Value) := [(11, [.agg ⟨[symv 58, symv 59, symv 60, symv 61]⟩], .bool true)]
theorem e67 : backObs head5 bks5 (at' 64 F36 C36 (stopCode at5) (headSt headB66 bks5)) = some [(symv 0, symv 0), (symv 1, symv 1), (symv 11, symv 11), (symv 10, symv 10), (symv 62, symv 56), (.bool true, symv 55), (symv 2, symv 2), (symv 3, symv 3), (symv 4, symv 4), (symv 5, symv 5), (symv 6, symv 6), (symv 7, symv 7), (symv 8, symv 8), (symv 9, symv 9)] := by kernel_rfl
def F37 : List (FOp × Value) := [(.len #[22] 3 (symv 0), symv 14),
    (.bin .lss 3 (symv 56) (symv 14), .bool true),
    (.ixa 22 (symv 0) (symv 56), symv 57),
    (.ld 24 (symv 57), .agg ⟨[symv 58, symv 59, symv 60, symv 61]⟩),
    (.bin .add 3 (symv 56) (.int .i64 1), symv 62)]
def C37 : List (FuncId × List Value × Value) := [(11, [.agg ⟨[symv 58, symv 59, symv 60, symv 61]⟩], .bool false)]
theorem e68 : backObs head5 bks5 (at' 64 F37 C37 (stopCode at5) (headSt headB66 bks5)) = some [(symv 0, symv 0), (symv 1, symv 1), (symv 11, symv 11), (symv 10, symv 10), (symv 62, symv 56), (.bool true, symv 55), (symv 2, symv 2), (symv 3, symv 3), (symv 4, symv 4), (symv 5, symv 5), (symv 6, symv 6), (symv 7, symv 7), (symv 8, symv 8), (symv 9, symv 9)] := by kernel_rfl
def F38 : List (FOp × Value) := [(.len #[22] 3 (symv 0), symv 14),
    (.bin .lss 3 (symv 56) (symv 14), .bool false)]
def C38 : List (FuncId × List Value × Value) := []
theorem e69 : backObs head0 bks0 (leave' 64 F5 C5 (stopKs at5) (at' 64 F38 C38 (stopCode at5) (headSt headB66 bks5))) = some [(symv 0, symv 0), (symv 1, symv 1), (symv 21, symv 11), (symv 10, symv 10), (symv 2, symv 2), (symv 3, symv 3), (symv 4, symv 4), (symv 5, symv 5), (symv 6, symv 6), (symv 7, symv 7), (symv 8, symv 8), (symv 9, symv 9)] := by kernel_rfl
def headB70 : Sl := slots [(9, symv 56), (8, .bool false), (7, symv 11), (6, .pointer (some ⟨0, 0, none⟩)), (5, symv 10), (4, .slice none 0 0), (1, symv 1), (0, symv 0)]
theorem e70 : trAll (headSt head5 bks5) headB70 bks5 = some [(symv 0, symv 0), (symv 1, symv 1), (symv 11, symv 11), (symv 10, symv 10), (symv 56, symv 56), (symv 55, .bool false), (symv 2, symv 2), (symv 3, symv 3), (symv 4, symv 4), (symv 5, symv 5), (symv 6, symv 6), (symv 7, symv 7), (symv 8, symv 8), (symv 9, symv 9)] := by kernel_rfl
def F39 : List (FOp × Value) := [(.len #[22] 3 (symv 0), symv 14),
    (.bin .lss 3 (symv 56) (symv 14), .bool true),
    (.ixa 22 (symv 0) (symv 56), symv 57),
    (.ld 24 (symv 57), .agg ⟨[symv 58, symv 59, symv 60, symv 61]⟩),
    (.fa 24 (symv 57) 2, symv 63),
    (.ld 3 (symv 63), symv 60),
    (.bin .eql 3 (symv 60) (symv 1), .bool true),
    (.fa 24 (symv 57) 3, symv 64),
    (.ld 3 (symv 64), symv 61),
    (.bin .eql 3 (symv 61) (symv 11), .bool true),
    (.bin .add 3 (symv 56) (.int .i64 1), symv 62)]
def C39 : List (FuncId × List Value × Value) := [(11, [.agg ⟨[symv 58, symv 59, symv 60, symv 61]⟩], .bool true)]
theorem e71 : backObs head5 bks5 (at' 64 F39 C39 (stopCode at5) (headSt headB70 bks5)) = some [(symv 0, symv 0), (symv 1, symv 1), (symv 11, symv 11), (symv 10, symv 10), (symv 62, symv 56), (.bool true, symv 55), (symv 2, symv 2), (symv 3, symv 3), (symv 4, symv 4), (symv 5, symv 5), (symv 6, symv 6), (symv 7, symv 7), (symv 8, symv 8), (symv 9, symv 9)] := by kernel_rfl
def F40 : List (FOp × Value) := [(.len #[22] 3 (symv 0), symv 14),
    (.bin .lss 3 (symv 56) (symv 14), .bool true),
    (.ixa 22 (symv 0) (symv 56), symv 57),
    (.ld 24 (symv 57), .agg ⟨[symv 58, symv 59, symv 60, symv 61]⟩),
    (.fa 24 (symv 57) 2, symv 63),
    (.ld 3 (symv 63), symv 60),
    (.bin .eql 3 (symv 60) (symv 1), .bool true),
    (.fa 24 (symv 57) 3, symv 64),
    (.ld 3 (symv 64), symv 61),
    (.bin .eql 3 (symv 61) (symv 11), .bool false),
    (.bin .add 3 (symv 56) (.int .i64 1), symv 62)]
def C40 : List (FuncId × List Value × Value) := [(11, [.agg ⟨[symv 58, symv 59, symv 60, symv 61]⟩], .bool true)]
theorem e72 : backObs head5 bks5 (at' 64 F40 C40 (stopCode at5) (headSt headB70 bks5)) = some [(symv 0, symv 0), (symv 1, symv 1), (symv 11, symv 11), (symv 10, symv 10), (symv 62, symv 56), (.bool false, symv 55), (symv 2, symv 2), (symv 3, symv 3), (symv 4, symv 4), (symv 5, symv 5), (symv 6, symv 6), (symv 7, symv 7), (symv 8, symv 8), (symv 9, symv 9)] := by kernel_rfl
def F41 : List (FOp × Value) := [(.len #[22] 3 (symv 0), symv 14),
    (.bin .lss 3 (symv 56) (symv 14), .bool true),
    (.ixa 22 (symv 0) (symv 56), symv 57),
    (.ld 24 (symv 57), .agg ⟨[symv 58, symv 59, symv 60, symv 61]⟩),
    (.fa 24 (symv 57) 2, symv 63),
    (.ld 3 (symv 63), symv 60),
    (.bin .eql 3 (symv 60) (symv 1), .bool false),
    (.bin .add 3 (symv 56) (.int .i64 1), symv 62)]
def C41 : List (FuncId × List Value × Value) := [(11, [.agg ⟨[symv 58, symv 59, symv 60, symv 61]⟩], .bool true)]
theorem e73 : backObs head5 bks5 (at' 64 F41 C41 (stopCode at5) (headSt headB70 bks5)) = some [(symv 0, symv 0), (symv 1, symv 1), (symv 11, symv 11), (symv 10, symv 10), (symv 62, symv 56), (.bool false, symv 55), (symv 2, symv 2), (symv 3, symv 3), (symv 4, symv 4), (symv 5, symv 5), (symv 6, symv 6), (symv 7, symv 7), (symv 8, symv 8), (symv 9, symv 9)] := by kernel_rfl
theorem e74 : backObs head5 bks5 (at' 64 F37 C37 (stopCode at5) (headSt headB70 bks5)) = some [(symv 0, symv 0), (symv 1, symv 1), (symv 11, symv 11), (symv 10, symv 10), (symv 62, symv 56), (.bool false, symv 55), (symv 2, symv 2), (symv 3, symv 3), (symv 4, symv 4), (symv 5, symv 5), (symv 6, symv 6), (symv 7, symv 7), (symv 8, symv 8), (symv 9, symv 9)] := by kernel_rfl
theorem e75 : cellsAt (stopSt (leave' 64 F9 C9 (stopKs at5) (at' 64 F38 C38 (stopCode at5) (headSt headB70 bks5)))).A 1 (.slice (some ⟨1, 0, none⟩) 1 1) = some [symv 11] := by kernel_rfl
theorem e76 : appOf 36 (leave' 64 F9 C9 (stopKs at5) (at' 64 F38 C38 (stopCode at5) (headSt headB70 bks5))) = some (symv 10, .slice (some ⟨1, 0, none⟩) 1 1) := by kernel_rfl
noncomputable abbrev so4 := leave' 64 F9 C9 (stopKs at5) (at' 64 F38 C38 (stopCode at5) (headSt headB70 bks5))
noncomputable def bk4 : List Bk := [⟨.cells [symv 2, symv 3, symv 4, symv 5, symv 6, symv 7, symv 8, symv 9], 38, 0⟩]
def hd4 : Sl := slots [(7, symv 11), (6, .pointer (some ⟨0, 0, none⟩)), (5, symv 10), (4, .slice none 0 0), (1, symv 1), (0, symv 0)]
def hp4 : Sl := match aput 64 hd4 (some 62) (symv 24) with | some s => s | none => .nil
theorem e77 : trAll (stopSt so4) hd4 bk4 = some [(symv 0, symv 0), (symv 1, symv 1), (symv 11, symv 11), (symv 10, symv 10), (symv 2, symv 2), (symv 3, symv 3), (symv 4, symv 4), (symv 5, symv 5), (symv 6, symv 6), (symv 7, symv 7), (symv 8, symv 8), (symv 9, symv 9)] := by kernel_rfl
theorem e78 : aput 64 hd4 (stopDst so4) (symv 24) = some hp4 := by kernel_rfl
theorem e79 : backObs head0 bks0 (ops' 64 F5 C5 (stopRest so4) (stopOps so4) (stopKs so4) { sl := hp4, ms := [], A := mkAS bk4 }) = some [(symv 0, symv 0), (symv 1, symv 1), (symv 21, symv 11), (symv 24, symv 10), (symv 2, symv 2), (symv 3, symv 3), (symv 4, symv 4), (symv 5, symv 5), (symv 6, symv 6), (symv 7, symv 7), (symv 8, symv 8), (symv 9, symv 9)] := by kernel_rfl
def F42 : List (FOp × Value) := [(.bin .sub 3 (symv 1) (.int .i64 1), .int .i64 4),
    (.bin .leq 3 (symv 11) (symv 6), .bool false)]
def C42 : List (FuncId × List Value × Value) := []
theorem e80 : endVal Tryz.prog Tryz.f20 (leave' 64 F9 C9 (stopKs at0) (at' 64 F42 C42 (stopCode at0) (headSt head0 bks0))) = some (symv 10) := by kernel_rfl
def F43 : List (FOp × Value) := [(.bin .sub 3 (symv 1) (.int .i64 1), .int .i64 5),
    (.bin .leq 3 (symv 11) (symv 7), .bool true)]
def C43 : List (FuncId × List Value × Value) := []
noncomputable def bks6 : List Bk := [⟨.cells [symv 2, symv 3, symv 4, symv 5, symv 6, symv 7, symv 8, symv 9], 38, 0⟩]
def head6 : Sl := slots [(9, symv 66), (8, symv 65), (7, symv 11), (6, .pointer (some ⟨0, 0, none⟩)), (5, symv 10), (4, .slice none 0 0), (1, symv 1), (0, symv 0)]
noncomputable abbrev at6 := at' 64 F43 C43 (stopCode at0) (headSt head0 bks0)
theorem e81 : headObs head6 bks6 at6 = some [(symv 0, symv 0), (symv 1, symv 1), (symv 11, symv 11), (symv 10, symv 10), (.int .i64 0, symv 66), (.bool false, symv 65), (symv 2, symv 2), (symv 3, symv 3), (symv 4, symv 4), (symv 5, symv 5), (symv 6, symv 6), (symv 7, symv 7), (symv 8, symv 8), (symv 9, symv 9)] := by kernel_rfl
def headB82 : Sl := slots [(9, symv 66), (8, .bool true), (7, symv 11), (6, .pointer (some ⟨0, 0, none⟩)), (5, symv 10), (4, .slice none 0 0), (1, symv 1), (0, symv 0)]
theorem e82 : trAll (headSt head6 bks6) headB82 bks6 = some [(symv 0, symv 0), (symv 1, symv 1), (symv 11, symv 11), (symv 10, symv 10), (symv 66, symv 66), (symv 65, .bool true), (symv 2, symv 2), (symv 3, symv 3), (symv 4, symv 4), (symv 5, symv 5), (symv 6, symv 6), (symv 7, symv 7), (symv 8, symv 8), (symv 9, symv 9)] := by kernel_rfl
def F44 : List (FOp × Value) := [(.len #[22] 3 (symv 0), symv 14),
    (.bin .lss 3 (symv 66) (symv 14), .bool true),
    (.ixa 22 (symv 0) (symv 66), symv 67),
    (.ld 24 (symv 67), .agg ⟨[symv 68, symv 69, symv 70, symv 71]⟩),
    (.bin .add 3 (symv 66) (.int .i64 1), symv 72)]
def C44 : List (FuncId × List Value × Value) := [(11, [.agg ⟨[symv 68, symv 69, symv 70, symv 71]⟩], .bool true)]
theorem e83 : backObs head6 bks6 (at' 64 F44 C44 (stopCode at6) (headSt headB82 bks6)) = some [(symv 0, symv 0), (symv 1, symv 1), (symv 11, symv 11), (symv 10, symv 10), (symv 72, symv 66), (.bool true, symv 65), (symv 2, symv 2), (symv 3, symv 3), (symv 4, symv 4), (symv 5, symv 5), (symv 6, symv 6), (symv 7, symv 7), (symv 8, symv 8), (symv 9, symv 9)] := by kernel_rfl
def F45 : List (FOp × Value) := [(.len #[22] 3 (symv 0), symv 14),
    (.bin .lss 3 (symv 66) (symv 14), .bool true),
    (.ixa 22 (symv 0) (symv 66), symv 67),
    (.ld 24 (symv 67), .agg ⟨[symv 68, symv 69, symv 70, symv 71]⟩),
    (.bin .add 3 (symv 66) (.int .i64 1), symv 72)]
def C45 : List (FuncId × List Value × Value) := [(11, [.agg ⟨[symv 68, symv 69, symv 70, symv 71]⟩], .bool false)]
theorem e84 : backObs head6 bks6 (at' 64 F45 C45 (stopCode at6) (headSt headB82 bks6)) = some [(symv 0, symv 0), (symv 1, symv 1), (symv 11, symv 11), (symv 10, symv 10), (symv 72, symv 66), (.bool true, symv 65), (symv 2, symv 2), (symv 3, symv 3), (symv 4, symv 4), (symv 5, symv 5), (symv 6, symv 6), (symv 7, symv 7), (symv 8, symv 8), (symv 9, symv 9)] := by kernel_rfl
def F46 : List (FOp × Value) := [(.len #[22] 3 (symv 0), symv 14),
    (.bin .lss 3 (symv 66) (symv 14), .bool false)]
def C46 : List (FuncId × List Value × Value) := []
theorem e85 : backObs head0 bks0 (leave' 64 F5 C5 (stopKs at6) (at' 64 F46 C46 (stopCode at6) (headSt headB82 bks6))) = some [(symv 0, symv 0), (symv 1, symv 1), (symv 21, symv 11), (symv 10, symv 10), (symv 2, symv 2), (symv 3, symv 3), (symv 4, symv 4), (symv 5, symv 5), (symv 6, symv 6), (symv 7, symv 7), (symv 8, symv 8), (symv 9, symv 9)] := by kernel_rfl
def headB86 : Sl := slots [(9, symv 66), (8, .bool false), (7, symv 11), (6, .pointer (some ⟨0, 0, none⟩)), (5, symv 10), (4, .slice none 0 0), (1, symv 1), (0, symv 0)]
theorem e86 : trAll (headSt head6 bks6) headB86 bks6 = some [(symv 0, symv 0), (symv 1, symv 1), (symv 11, symv 11), (symv 10, symv 10), (symv 66, symv 66), (symv 65, .bool false), (symv 2, symv 2), (symv 3, symv 3), (symv 4, symv 4), (symv 5, symv 5), (symv 6, symv 6), (symv 7, symv 7), (symv 8, symv 8), (symv 9, symv 9)] := by kernel_rfl
def F47 : List (FOp × Value) := [(.len #[22] 3 (symv 0), symv 14),
    (.bin .lss 3 (symv 66) (symv 14), .bool true),
    (.ixa 22 (symv 0) (symv 66), symv 67),
    (.ld 24 (symv 67), .agg ⟨[symv 68, symv 69, symv 70, symv 71]⟩),
    (.fa 24 (symv 67) 2, symv 73),
    (.ld 3 (symv 73), symv 70),
    (.bin .eql 3 (symv 70) (symv 1), .bool true),
    (.fa 24 (symv 67) 3, symv 74),
    (.ld 3 (symv 74), symv 71),
    (.bin .eql 3 (symv 71) (symv 11), .bool true),
    (.bin .add 3 (symv 66) (.int .i64 1), symv 72)]
def C47 : List (FuncId × List Value × Value) := [(11, [.agg ⟨[symv 68, symv 69, symv 70, symv 71]⟩], .bool true)]
theorem e87 : backObs head6 bks6 (at' 64 F47 C47 (stopCode at6) (headSt headB86 bks6)) = some [(symv 0, symv 0), (symv 1, symv 1), (symv 11, symv 11), (symv 10, symv 10), (symv 72, symv 66), (.bool true, symv 65), (symv 2, symv 2), (symv 3, symv 3), (symv 4, symv 4), (symv 5, symv 5), (symv 6, symv 6), (symv 7, symv 7), (symv 8, symv 8), (symv 9, symv 9)] := by kernel_rfl
def F48 : List (FOp × Value) := [(.len #[22] 3 (symv 0), symv 14),
    (.bin .lss 3 (symv 66) (symv 14), .bool true),
    (.ixa 22 (symv 0) (symv 66), symv 67),
    (.ld 24 (symv 67), .agg ⟨[symv 68, symv 69, symv 70, symv 71]⟩),
    (.fa 24 (symv 67) 2, symv 73),
    (.ld 3 (symv 73), symv 70),
    (.bin .eql 3 (symv 70) (symv 1), .bool true),
    (.fa 24 (symv 67) 3, symv 74),
    (.ld 3 (symv 74), symv 71),
    (.bin .eql 3 (symv 71) (symv 11), .bool false),
    (.bin .add 3 (symv 66) (.int .i64 1), symv 72)]
def C48 : List (FuncId × List Value × Value) := [(11, [.agg ⟨[symv 68, symv 69, symv 70, symv 71]⟩], .bool true)]
theorem e88 : backObs head6 bks6 (at' 64 F48 C48 (stopCode at6) (headSt headB86 bks6)) = some [(symv 0, symv 0), (symv 1, symv 1), (symv 11, symv 11), (symv 10, symv 10), (symv 72, symv 66), (.bool false, symv 65), (symv 2, symv 2), (symv 3, symv 3), (symv 4, symv 4), (symv 5, symv 5), (symv 6, symv 6), (symv 7, symv 7), (symv 8, symv 8), (symv 9, symv 9)] := by kernel_rfl
def F49 : List (FOp × Value) := [(.len #[22] 3 (symv 0), symv 14),
    (.bin .lss 3 (symv 66) (symv 14), .bool true),
    (.ixa 22 (symv 0) (symv 66), symv 67),
    (.ld 24 (symv 67), .agg ⟨[symv 68, symv 69, symv 70, symv 71]⟩),
    (.fa 24 (symv 67) 2, symv 73),
    (.ld 3 (symv 73), symv 70),
    (.bin .eql 3 (symv 70) (symv 1), .bool false),
    (.bin .add 3 (symv 66) (.int .i64 1), symv 72)]
def C49 : List (FuncId × List Value × Value) := [(11, [.agg ⟨[symv 68, symv 69, symv 70, symv 71]⟩], .bool true)]
theorem e89 : backObs head6 bks6 (at' 64 F49 C49 (stopCode at6) (headSt headB86 bks6)) = some [(symv 0, symv 0), (symv 1, symv 1), (symv 11, symv 11), (symv 10, symv 10), (symv 72, symv 66), (.bool false, symv 65), (symv 2, symv 2), (symv 3, symv 3), (symv 4, symv 4), (symv 5, symv 5), (symv 6, symv 6), (symv 7, symv 7), (symv 8, symv 8), (symv 9, symv 9)] := by kernel_rfl
theorem e90 : backObs head6 bks6 (at' 64 F45 C45 (stopCode at6) (headSt headB86 bks6)) = some [(symv 0, symv 0), (symv 1, symv 1), (symv 11, symv 11), (symv 10, symv 10), (symv 72, symv 66), (.bool false, symv 65), (symv 2, symv 2), (symv 3, symv 3), (symv 4, symv 4), (symv 5, symv 5), (symv 6, symv 6), (symv 7, symv 7), (symv 8, symv 8), (symv 9, symv 9)] := by kernel_rfl
theorem e91 : cellsAt (stopSt (leave' 64 F9 C9 (stopKs at6) (at' 64 F46 C46 (stopCode at6) (headSt headB86 bks6)))).A 1 (.slice (some ⟨1, 0, none⟩) 1 1) = some [symv 11] := by kernel_rfl
theorem e92 : appOf 36 (leave' 64 F9 C9 (stopKs at6) (at' 64 F46 C46 (stopCode at6) (headSt headB86 bks6))) = some (symv 10, .slice (some ⟨1, 0, none⟩) 1 1) := by kernel_rfl
noncomputable abbrev so5 := leave' 64 F9 C9 (stopKs at6) (at' 64 F46 C46 (stopCode at6) (headSt headB86 bks6))
noncomputable def bk5 : List Bk := [⟨.cells [symv 2, symv 3, symv 4, symv 5, symv 6, symv 7, symv 8, symv 9], 38, 0⟩]
def hd5 : Sl := slots [(7, symv 11), (6, .pointer (some ⟨0, 0, none⟩)), (5, symv 10), (4, .slice none 0 0), (1, symv 1), (0, symv 0)]
def hp5 : Sl := match aput 64 hd5 (some 62) (symv 24) with | some s => s | none => .nil
theorem e93 : trAll (stopSt so5) hd5 bk5 = some [(symv 0, symv 0), (symv 1, symv 1), (symv 11, symv 11), (symv 10, symv 10), (symv 2, symv 2), (symv 3, symv 3), (symv 4, symv 4), (symv 5, symv 5), (symv 6, symv 6), (symv 7, symv 7), (symv 8, symv 8), (symv 9, symv 9)] := by kernel_rfl
theorem e94 : aput 64 hd5 (stopDst so5) (symv 24) = some hp5 := by kernel_rfl
theorem e95 : backObs head0 bks0 (ops' 64 F5 C5 (stopRest so5) (stopOps so5) (stopKs so5) { sl := hp5, ms := [], A := mkAS bk5 }) = some [(symv 0, symv 0), (symv 1, symv 1), (symv 21, symv 11), (symv 24, symv 10), (symv 2, symv 2), (symv 3, symv 3), (symv 4, symv 4), (symv 5, symv 5), (symv 6, symv 6), (symv 7, symv 7), (symv 8, symv 8), (symv 9, symv 9)] := by kernel_rfl
def F50 : List (FOp × Value) := [(.bin .sub 3 (symv 1) (.int .i64 1), .int .i64 5),
    (.bin .leq 3 (symv 11) (symv 7), .bool false)]
def C50 : List (FuncId × List Value × Value) := []
theorem e96 : endVal Tryz.prog Tryz.f20 (leave' 64 F9 C9 (stopKs at0) (at' 64 F50 C50 (stopCode at0) (headSt head0 bks0))) = some (symv 10) := by kernel_rfl
def F51 : List (FOp × Value) := [(.bin .sub 3 (symv 1) (.int .i64 1), .int .i64 6),
    (.bin .leq 3 (symv 11) (symv 8), .bool true)]
def C51 : List (FuncId × List Value × Value) := []
noncomputable def bks7 : List Bk := [⟨.cells [symv 2, symv 3, symv 4, symv 5, symv 6, symv 7, symv 8, symv 9], 38, 0⟩]
def head7 : Sl := slots [(9, symv 76), (8, symv 75), (7, symv 11), (6, .pointer (some ⟨0, 0, none⟩)), (5, symv 10), (4, .slice none 0 0), (1, symv 1), (0, symv 0)]
noncomputable abbrev at7 := at' 64 F51 C51 (stopCode at0) (headSt head0 bks0)
theorem e97 : headObs head7 bks7 at7 = some [(symv 0, symv 0), (symv 1, symv 1), (symv 11, symv 11), (symv 10, symv 10), (.int .i64 0, symv 76), (.bool false, symv 75), (symv 2, symv 2), (symv 3, symv 3), (symv 4, symv 4), (symv 5, symv 5), (symv 6, symv 6), (symv 7, symv 7), (symv 8, symv 8), (symv 9, symv 9)] := by kernel_rfl
def headB98 : Sl := slots [(9, symv 76), (8, .bool true), (7, symv 11), (6, .pointer (some ⟨0, 0, none⟩)), (5, symv 10), (4, .slice none 0 0), (1, symv 1), (0, symv 0)]
theorem e98 : trAll (headSt head7 bks7) headB98 bks7 = some [(symv 0, symv 0), (symv 1, symv 1), (symv 11, symv 11), (symv 10, symv 10), (symv 76, symv 76), (symv 75, .bool true), (symv 2, symv 2), (symv 3, symv 3), (symv 4, symv 4), (symv 5, symv 5), (symv 6, symv 6), (symv 7, symv 7), (symv 8, symv 8), (symv 9, symv 9)] := by kernel_rfl
def F52 : List (FOp × Value) := [(.len #[22] 3 (symv 0), symv 14),
    (.bin .lss 3 (symv 76) (symv 14), .bool true),
    (.ixa 22 (symv 0) (symv 76), symv 77),
    (.ld 24 (symv 77), .agg ⟨[symv 78, symv 79, symv 80, symv 81]⟩),
    (.bin .add 3 (symv 76) (.int .i64 1), symv 82)]
def C52 : List (FuncId × List Value × Value) := [(11, [.agg ⟨[symv 78, symv 79, symv 80, symv 81]⟩], .bool true)]
theorem e99 : backObs head7 bks7 (at' 64 F52 C52 (stopCode at7) (headSt headB98 bks7)) = some [(symv 0, symv 0), (symv 1, symv 1), (symv 11, symv 11), (symv 10, symv 10), (symv 82, symv 76), (.bool true, symv 75), (symv 2, symv 2), (symv 3, symv 3), (symv 4, symv 4), (symv 5, symv 5), (symv 6, symv 6), (symv 7, symv 7), (symv 8, symv 8), (symv 9, symv 9)] := by kernel_rfl
def F53 : List (FOp × Value) := [(.len #[22] 3 (symv 0), symv 14),
    (.bin .lss 3 (symv 76) (symv 14), .bool true),
    (.ixa 22 (symv 0) (symv 76), symv 77),
    (.ld 24 (symv 77), .agg ⟨[symv 78, symv 79, symv 80, symv 81]⟩),
    (.bin .add 3 (symv 76) (.int .i64 1), symv 82)]
def C53 : List (FuncId × List Value × Value) := [(11, [.agg ⟨[symv 78, symv 79, symv 80, symv 81]⟩], .bool false)]
theorem e100 : backObs head7 bks7 (at' 64 F53 C53 (stopCode at7) (headSt headB98 bks7)) = some [(symv 0, symv 0), (symv 1, symv 1), (symv 11, symv 11), (symv 10, symv 10), (symv 82, symv 76), (.bool true, symv 75), (symv 2, symv 2), (symv 3, symv 3), (symv 4, symv 4), (symv 5, symv 5), (symv 6, symv 6), (symv 7, symv 7), (symv 8, symv 8), (symv 9, symv 9)] := by kernel_rfl
def F54 : List (FOp × Value) := [(.len #[22] 3 (symv 0), symv 14),
    (.bin .lss 3 (symv 76) (symv 14), .bool false)]
def C54 : List (FuncId × List Value × Value) := []
theorem e101 : backObs head0 bks0 (leave' 64 F5 C5 (stopKs at7) (at' 64 F54 C54 (stopCode at7) (headSt headB98 bks7))) = some [(symv 0, symv 0), (symv 1, symv 1), (symv 21, symv 11), (symv 10, symv 10), (symv 2, symv 2), (symv 3, symv 3), (symv 4, symv 4), (symv 5, symv 5), (symv 6, symv 6), (symv 7, symv 7), (symv 8, symv 8), (symv 9, symv 9)] := by kernel_rfl
def headB102 : Sl := slots [(9, symv 76), (8, .bool false), (7, symv 11), (6, .pointer (some ⟨0, 0, none⟩)), (5, symv 10), (4, .slice none 0 0), (1, symv 1), (0, symv 0)]
theorem e102 : trAll (headSt head7 bks7) headB102 bks7 = some [(symv 0, symv 0), (symv 1, symv 1), (symv 11, symv 11), (symv 10, symv 10), (symv 76, symv 76), (symv 75, .bool false), (symv 2, symv 2), (symv 3, symv 3), (symv 4, symv 4), (symv 5, symv 5), (symv 6, symv 6), (symv 7, symv 7), (symv 8, symv 8), (symv 9, symv 9)] := by kernel_rfl
def F55 : List (FOp × Value) := [(.len #[22] 3 (symv 0), symv 14),
    (.bin .lss 3 (symv 76) (symv 14), .bool true),
    (.ixa 22 (symv 0) (symv 76), symv 77),
    (.ld 24 (symv 77), .agg ⟨[symv 78, symv 79, symv 80, symv 81]⟩),
    (.fa 24 (symv 77) 2, symv 83),
    (.ld 3 (symv 83), symv 80),
    (.bin .eql 3 (symv 80) (symv 1), .bool true),
    (.fa 24 (symv 77) 3, symv 84),
    (.ld 3 (symv 84), symv 81),
    (.bin .eql 3 (symv 81) (symv 11), .bool true),
    (.bin .add 3 (symv 76) (.int .i64 1), symv 82)]
def C55 : List (FuncId × List Value × Value) := [(11, [.agg ⟨[symv 78, symv 79, symv 80, symv 81]⟩], .bool true)]
theorem e103 : backObs head7 bks7 (at' 64 F55 C55 (stopCode at7) (headSt headB102 bks7)) = some [(symv 0, symv 0), (symv 1, symv 1), (symv 11, symv 11), (symv 10, symv 10), (symv 82, symv 76), (.bool true, symv 75), (symv 2, symv 2), (symv 3, symv 3), (symv 4, symv 4), (symv 5, symv 5), (symv 6, symv 6), (symv 7, symv 7), (symv 8, symv 8), (symv 9, symv 9)] := by kernel_rfl
def F56 : List (FOp × Value) := [(.len #[22] 3 (symv 0), symv 14),
    (.bin .lss 3 (symv 76) (symv 14), .bool true),
    (.ixa 22 (symv 0) (symv 76), symv 77),
    (.ld 24 (symv 77), .agg ⟨[symv 78, symv 79, symv 80, symv 81]⟩),
    (.fa 24 (symv 77) 2, symv 83),
    (.ld 3 (symv 83), symv 80),
    (.bin .eql 3 (symv 80) (symv 1), .bool true),
    (.fa 24 (symv 77) 3, symv 84),
    (.ld 3 (symv 84), symv 81),
    (.bin .eql 3 (symv 81) (symv 11), .bool false),
    (.bin .add 3 (symv 76) (.int .i64 1), symv 82)]
def C56 : List (FuncId × List Value × Value) := [(11, [.agg ⟨[symv 78, symv 79, symv 80, symv 81]⟩], .bool true)]
theorem e104 : backObs head7 bks7 (at' 64 F56 C56 (stopCode at7) (headSt headB102 bks7)) = some [(symv 0, symv 0), (symv 1, symv 1), (symv 11, symv 11), (symv 10, symv 10), (symv 82, symv 76), (.bool false, symv 75), (symv 2, symv 2), (symv 3, symv 3), (symv 4, symv 4), (symv 5, symv 5), (symv 6, symv 6), (symv 7, symv 7), (symv 8, symv 8), (symv 9, symv 9)] := by kernel_rfl
def F57 : List (FOp × Value) := [(.len #[22] 3 (symv 0), symv 14),
    (.bin .lss 3 (symv 76) (symv 14), .bool true),
    (.ixa 22 (symv 0) (symv 76), symv 77),
    (.ld 24 (symv 77), .agg ⟨[symv 78, symv 79, symv 80, symv 81]⟩),
    (.fa 24 (symv 77) 2, symv 83),
    (.ld 3 (symv 83), symv 80),
    (.bin .eql 3 (symv 80) (symv 1), .bool false),
    (.bin .add 3 (symv 76) (.int .i64 1), symv 82)]
def C57 : List (FuncId × List Value × Value) := [(11, [.agg ⟨[symv 78, symv 79, symv 80, symv 81]⟩], .bool true)]
theorem e105 : backObs head7 bks7 (at' 64 F57 C57 (stopCode at7) (headSt headB102 bks7)) = some [(symv 0, symv 0), (symv 1, symv 1), (symv 11, symv 11), (symv 10, symv 10), (symv 82, symv 76), (.bool false, symv 75), (symv 2, symv 2), (symv 3, symv 3), (symv 4, symv 4), (symv 5, symv 5), (symv 6, symv 6), (symv 7, symv 7), (symv 8, symv 8), (symv 9, symv 9)] := by kernel_rfl
theorem e106 : backObs head7 bks7 (at' 64 F53 C53 (stopCode at7) (headSt headB102 bks7)) = some [(symv 0, symv 0), (symv 1, symv 1), (symv 11, symv 11), (symv 10, symv 10), (symv 82, symv 76), (.bool false, symv 75), (symv 2, symv 2), (symv 3, symv 3), (symv 4, symv 4), (symv 5, symv 5), (symv 6, symv 6), (symv 7, symv 7), (symv 8, symv 8), (symv 9, symv 9)] := by kernel_rfl
theorem e107 : cellsAt (stopSt (leave' 64 F9 C9 (stopKs at7) (at' 64 F54 C54 (stopCode at7) (headSt headB102 bks7)))).A 1 (.slice (some ⟨1, 0, none⟩) 1 1) = some [symv 11] := by kernel_rfl
theorem e108 : appOf 36 (leave' 64 F9 C9 (stopKs at7) (at' 64 F54 C54 (stopCode at7) (headSt headB102 bks7))) = some (symv 10, .slice (some ⟨1, 0, none⟩) 1 1) := by kernel_rfl
noncomputable abbrev so6 := leave' 64 F9 C9 (stopKs at7) (at' 64 F54 C54 (stopCode at7) (headSt headB102 bks7))
noncomputable def bk6 : List Bk := [⟨.cells [symv 2, symv 3, symv 4, symv 5, symv 6, symv 7, symv 8, symv 9], 38, 0⟩]
def hd6 : Sl := slots [(7, symv 11), (6, .pointer (some ⟨0, 0, none⟩)), (5, symv 10), (4, .slice none 0 0), (1, symv 1), (0, symv 0)]
def hp6 : Sl := match aput 64 hd6 (some 62) (symv 24) with | some s => s | none => .nil
theorem e109 : trAll (stopSt so6) hd6 bk6 = some [(symv 0, symv 0), (symv 1, symv 1), (symv 11, symv 11), (symv 10, symv 10), (symv 2, symv 2), (symv 3, symv 3), (symv 4, symv 4), (symv 5, symv 5), (symv 6, symv 6), (symv 7, symv 7), (symv 8, symv 8), (symv 9, symv 9)] := by kernel_rfl
theorem e110 : aput 64 hd6 (stopDst so6) (symv 24) = some hp6 := by kernel_rfl
theorem e111 : backObs head0 bks0 (ops' 64 F5 C5 (stopRest so6) (stopOps so6) (stopKs so6) { sl := hp6, ms := [], A := mkAS bk6 }) = some [(symv 0, symv 0), (symv 1, symv 1), (symv 21, symv 11), (symv 24, symv 10), (symv 2, symv 2), (symv 3, symv 3), (symv 4, symv 4), (symv 5, symv 5), (symv 6, symv 6), (symv 7, symv 7), (symv 8, symv 8), (symv 9, symv 9)] := by kernel_rfl
def F58 : List (FOp × Value) := [(.bin .sub 3 (symv 1) (.int .i64 1), .int .i64 6),
    (.bin .leq 3 (symv 11) (symv 8), .bool false)]
def C58 : List (FuncId × List Value × Value) := []
theorem e112 : endVal Tryz.prog Tryz.f20 (leave' 64 F9 C9 (stopKs at0) (at' 64 F58 C58 (stopCode at0) (headSt head0 bks0))) = some (symv 10) := by kernel_rfl
def F59 : List (FOp × Value) := [(.bin .sub 3 (symv 1) (.int .i64 1), .int .i64 7),
    (.bin .leq 3 (symv 11) (symv 9), .bool true)]
def C59 : List (FuncId × List Value × Value) := []
noncomputable def bks8 : List Bk := [⟨.cells [symv 2, symv 3, symv 4, symv 5, symv 6, symv 7, symv 8, symv 9], 38, 0⟩]
def head8 : Sl := slots [(9, symv 86), (8, symv 85), (7, symv 11), (6, .pointer (some ⟨0, 0, none⟩)), (5, symv 10), (4, .slice none 0 0), (1, symv 1), (0, symv 0)]
noncomputable abbrev at8 := at' 64 F59 C59 (stopCode at0) (headSt head0 bks0)
theorem e113 : headObs head8 bks8 at8 = some [(symv 0, symv 0), (symv 1, symv 1), (symv 11, symv 11), (symv 10, symv 10), (.int .i64 0, symv 86), (.bool false, symv 85), (symv 2, symv 2), (symv 3, symv 3), (symv 4, symv 4), (symv 5, symv 5), (symv 6, symv 6), (symv 7, symv 7), (symv 8, symv 8), (symv 9, symv 9)] := by kernel_rfl
def headB114 : Sl := slots [(9, symv 86), (8, .bool true), (7, symv 11), (6, .pointer (some ⟨0, 0, none⟩)), (5, symv 10), (4, .slice none 0 0), (1, symv 1), (0, symv 0)]
theorem e114 : trAll (headSt head8 bks8) headB114 bks8 = some [(symv 0, symv 0), (symv 1, symv 1), (symv 11, symv 11), (symv 10, symv 10), (symv 86, symv 86), (symv 85, .bool true), (symv 2, symv 2), (symv 3, symv 3), (symv 4, symv 4), (symv 5, symv 5), (symv 6, symv 6), (symv 7, symv 7), (symv 8, symv 8), (symv 9, symv 9)] := by kernel_rfl
def F60 : List (FOp × Value) := [(.len #[22] 3 (symv 0), symv 14),
    (.bin .lss 3 (symv 86) (symv 14), .bool true),
    (.ixa 22 (symv 0) (symv 86), symv 87),
    (.ld 24 (symv 87), .agg ⟨[symv 88, symv 89, symv 90, symv 91]⟩),
    (.bin .add 3 (symv 86) (.int .i64 1), symv 92)]
def C60 : List (FuncId × List Value × Value) := [(11, [.agg ⟨[symv 88, symv 89, symv 90, symv 91]⟩], .bool true)]
theorem e115 : backObs head8 bks8 (at' 64 F60 C60 (stopCode at8) (headSt headB114 bks8)) = some [(symv 0, symv 0), (symv 1, symv 1), (symv 11, symv 11), (symv 10, symv 10), (symv 92, symv 86), (.bool true, symv 85), (symv 2, symv 2), (symv 3, symv 3), (symv 4, symv 4), (symv 5, symv 5), (symv 6, symv 6), (symv 7, symv 7), (symv 8, symv 8), (symv 9, symv 9)] := by kernel_rfl
def F61 : List (FOp × Value) := [(.len #[22] 3 (symv 0), symv 14),
    (.bin .lss 3 (symv 86) (symv 14), .bool true),
    (.ixa 22 (symv 0) (symv 86), symv 87),
    (.ld 24 (symv 87), .agg ⟨[symv 88, symv 89, symv 90, symv 91]⟩),
    (.bin .add 3 (symv 86) (.int .i64 1), symv 92)]
def C61 : List (FuncId × List Value × Value) := [(11, [.agg ⟨[symv 88, symv 89, symv 90, symv 91]⟩], .bool false)]
theorem e116 : backObs head8 bks8 (at' 64 F61 C61 (stopCode at8) (headSt headB114 bks8)) = some [(symv 0, symv 0), (symv 1, symv 1), (symv 11, symv 11), (symv 10, symv 10), (symv 92, symv 86), (.bool true, symv 85), (symv 2, symv 2), (symv 3, symv 3), (symv 4, symv 4), (symv 5, symv 5), (symv 6, symv 6), (symv 7, symv 7), (symv 8, symv 8), (symv 9, symv 9)] := by kernel_rfl
def F62 : List (FOp × Value) := [(.len #[22] 3 (symv 0), symv 14),
    (.bin .lss 3 (symv 86) (symv 14), .bool false)]
def C62 : List (FuncId × List Value × Value) := []
theorem e117 : backObs head0 bks0 (leave' 64 F5 C5 (stopKs at8) (at' 64 F62 C62 (stopCode at8) (headSt headB114 bks8))) = some [(symv 0, symv 0), (symv 1, symv 1), (symv 21, symv 11), (symv 10, symv 10), (symv 2, symv 2), (symv 3, symv 3), (symv 4, symv 4), (symv 5, symv 5), (symv 6, symv 6), (symv 7, symv 7), (symv 8, symv 8), (symv 9, symv 9)] := by kernel_rfl
def headB118 : Sl := slots [(9, symv 86), (8, .bool false), (7, symv 11), (6, .pointer (some ⟨0, 0, none⟩)), (5, symv 10), (4, .slice none 0 0), (1, symv 1), (0, symv 0)]
theorem e118 : trAll (headSt head8 bks8) headB118 bks8 = some [(symv 0, symv 0), (symv 1, symv 1), (symv 11, symv 11), (symv 10, symv 10), (symv 86, symv 86), (symv 85, .bool false), (symv 2, symv 2), (symv 3, symv 3), (symv 4, symv 4), (symv 5, symv 5), (symv 6, symv 6), (symv 7, symv 7), (symv 8, symv 8), (symv 9, symv 9)] := by kernel_rfl
def F63 : List (FOp × Value) := [(.len #[22] 3 (symv 0), symv 14),
    (.bin .lss 3 (symv 86) (symv 14), .bool true),
    (.ixa 22 (symv 0) (symv 86), symv 87),
    (.ld 24 (symv 87), .agg ⟨[symv 88, symv 89, symv 90, symv 91]⟩),
    (.fa 24 (symv 87) 2, symv 93),
    (.ld 3 (symv 93), symv 90),
    (.bin .eql 3 (symv 90) (symv 1), .bool true),
    (.fa 24 (symv 87) 3, symv 94),
    (.ld 3 (symv 94), symv 91),
    (.bin .eql 3 (symv 91) (symv 11), .bool true),
    (.bin .add 3 (symv 86) (.int .i64 1), symv 92)]
def C63 : List (FuncId × List Value × Value) := [(11, [.agg ⟨[symv 88, symv 89, symv 90, symv 91]⟩], .bool true)]
theorem e119 : backObs head8 bks8 (at' 64 F63 C63 (stopCode at8) (headSt headB118 bks8)) = some [(symv 0, symv 0), (symv 1, symv 1), (symv 11, symv 11), (symv 10, symv 10), (symv 92, symv 86), (.bool true, symv 85), (symv 2, symv 2), (symv 3, symv 3), (symv 4, symv 4), (symv 5, symv 5), (symv 6, symv 6), (symv 7, symv 7), (symv 8, symv 8), (symv 9, symv 9)] := by kernel_rfl
def F64 : List (FOp × Value) := [(.len #[22] 3 (symv 0), symv 14),
    (.bin .lss 3 (symv 86) (symv 14), .bool true),
    (.ixa 22 (symv 0) (symv 86), symv 87),
    (.ld 24 (symv 87), .agg ⟨[symv 88, symv 89, symv 90, symv 91]⟩),
    (.fa 24 (symv 87) 2, symv 93),
    (.ld 3 (symv 93), symv 90),
    (.bin .eql 3 (symv 90) (symv 1), .bool true),
    (.fa 24 (symv 87) 3, symv 94),
    (.ld 3 (symv 94), symv 91),
    (.bin .eql 3 (symv 91) (symv 11), .bool false),
    (.bin .add 3 (symv 86) (.int .i64 1), symv 92)]
def C64 : List (FuncId × List Value × Value) := [(11, [.agg ⟨[symv 88, symv 89, symv 90, symv 91]⟩], .bool true)]
theorem e120 : backObs head8 bks8 (at' 64 F64 C64 (stopCode at8) (headSt headB118 bks8)) = some [(symv 0, symv 0), (symv 1, symv 1), (symv 11, symv 11), (symv 10, symv 10), (symv 92, symv 86), (.bool false, symv 85), (symv 2, symv 2), (symv 3, symv 3), (symv 4, symv 4), (symv 5, symv 5), (symv 6, symv 6), (symv 7, symv 7), (symv 8, symv 8), (symv 9, symv 9)] := by kernel_rfl
def F65 : List (FOp × Value) := [(.len #[22] 3 (symv 0), symv 14),
    (.bin .lss 3 (symv 86) (symv 14), .bool true),
    (.ixa 22 (symv 0) (symv 86), symv 87),
    (.ld 24 (symv 87), .agg ⟨[symv 88, symv 89, symv 90, symv 91]⟩),
    (.fa 24 (symv 87) 2, symv 93),
    (.ld 3 (symv 93), symv 90),
    (.bin .eql 3 (symv 90) (symv 1), .bool false),
    (.bin .add 3 (symv 86) (.int .i64 1), symv 92)]
def C65 : List (FuncId × List Value × Value) := [(11, [.agg ⟨[symv 88, symv 89, symv 90, symv 91]⟩], .bool true)]
theorem e121 : backObs head8 bks8 (at' 64 F65 C65 (stopCode at8) (headSt headB118 bks8)) = some [(symv 0, symv 0), (symv 1, symv 1), (symv 11, symv 11), (symv 10, symv 10), (symv 92, symv 86), (.bool false, symv 85), (symv 2, symv 2), (symv 3, symv 3), (symv 4, symv 4), (symv 5, symv 5), (symv 6, symv 6), (symv 7, symv 7), (symv 8, symv 8), (symv 9, symv 9)] := by kernel_rfl
theorem e122 : backObs head8 bks8 (at' 64 F61 C61 (stopCode at8) (headSt headB118 bks8)) = some [(symv 0, symv 0), (symv 1, symv 1), (symv 11, symv 11), (symv 10, symv 10), (symv 92, symv 86), (.bool false, symv 85), (symv 2, symv 2), (symv 3, symv 3), (symv 4, symv 4), (symv 5, symv 5), (symv 6, symv 6), (symv 7, symv 7), (symv 8, symv 8), (symv 9, symv 9)] := by kernel_rfl
theorem e123 : cellsAt (stopSt (leave' 64 F9 C9 (stopKs at8) (at' 64 F62 C62 (stopCode at8) (headSt headB118 bks8)))).A 1 (.slice (some ⟨1, 0, none⟩) 1 1) = some [symv 11] := by kernel_rfl
theorem e124 : appOf 36 (leave' 64 F9 C9 (stopKs at8) (at' 64 F62 C62 (stopCode at8) (headSt headB118 bks8))) = some (symv 10, .slice (some ⟨1, 0, none⟩) 1 1) := by kernel_rfl
noncomputable abbrev so7 := leave' 64 F9 C9 (stopKs at8) (at' 64 F62 C62 (stopCode at8) (headSt headB118 bks8))
noncomputable def bk7 : List Bk := [⟨.cells [symv 2, symv 3, symv 4, symv 5, symv 6, symv 7, symv 8, symv 9], 38, 0⟩]
def hd7 : Sl := slots [(7, symv 11), (6, .pointer (some ⟨0, 0, none⟩)), (5, symv 10), (4, .slice none 0 0), (1, symv 1), (0, symv 0)]
def hp7 : Sl := match aput 64 hd7 (some 62) (symv 24) with | some s => s | none => .nil
theorem e125 : trAll (stopSt so7) hd7 bk7 = some [(symv 0, symv 0), (symv 1, symv 1), (symv 11, symv 11), (symv 10, symv 10), (symv 2, symv 2), (symv 3, symv 3), (symv 4, symv 4), (symv 5, symv 5), (symv 6, symv 6), (symv 7, symv 7), (symv 8, symv 8), (symv 9, symv 9)] := by kernel_rfl
theorem e126 : aput 64 hd7 (stopDst so7) (symv 24) = some hp7 := by kernel_rfl
theorem e127 : backObs head0 bks0 (ops' 64 F5 C5 (stopRest so7) (stopOps so7) (stopKs so7) { sl := hp7, ms := [], A := mkAS bk7 }) = some [(symv 0, symv 0), (symv 1, symv 1), (symv 21, symv 11), (symv 24, symv 10), (symv 2, symv 2), (symv 3, symv 3), (symv 4, symv 4), (symv 5, symv 5), (symv 6, symv 6), (symv 7, symv 7), (symv 8, symv 8), (symv 9, symv 9)] := by kernel_rfl
def F66 : List (FOp × Value) := [(.bin .sub 3 (symv 1) (.int .i64 1), .int .i64 7),
    (.bin .leq 3 (symv 11) (symv 9), .bool false)]
def C66 : List (FuncId × List Value × Value) := []
theorem e128 : endVal Tryz.prog Tryz.f20 (leave' 64 F9 C9 (stopKs at0) (at' 64 F66 C66 (stopCode at0) (headSt head0 bks0))) = some (symv 10) := by kernel_rfl
def F67 : List (FOp × Value) := [(.bin .geq 3 (symv 1) (.int .i64 1), .bool true),
    (.bin .leq 3 (symv 1) (.int .i64 8), .bool false)]
def C67 : List (FuncId × List Value × Value) := []
theorem e129 : endVal Tryz.prog Tryz.f20 (at' 64 F67 C67 body s0) = some (.slice none 0 0) := by kernel_rfl
def F68 : List (FOp × Value) := [(.bin .geq 3 (symv 1) (.int .i64 1), .bool false)]
def C68 : List (FuncId × List Value × Value) := []
theorem e130 : endVal Tryz.prog Tryz.f20 (at' 64 F68 C68 body s0) = some (.slice none 0 0) := by kernel_rfl
end RMiss
end AE
end Go.Proofs.YtheaofepenbcgaaGreatDoor

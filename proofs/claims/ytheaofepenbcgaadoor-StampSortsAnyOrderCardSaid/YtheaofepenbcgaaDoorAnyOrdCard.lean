/- Proved: the tied card of StampSortsAnyOrder: for all stamps the law returns true, and its argument reads as it did. No condition beyond the own cells of the row. -/
import Derived.Test.YtheaofepenbcgaaDoorAnyOrdCard3
import Derived.Test.YtheaofepenbcgaaDoorTie
import Derived.Test.YtheaofepenbcgaaDoorCards

/- StampSortsAnyOrder: the law for all stamps -/
namespace Go.Proofs.YtheaofepenbcgaaDoor
open Go Go.Proofs Go.RowKit
namespace AE
-- stops at: voxel/voxellaw24.StampSortsAnyOrder: STUCK law.go:100 operands [symv 3, .slice (some ⟨0, 0, none⟩) 1 1]
-- stops at: a call with an effect
-- stops at: a call with an effect
namespace AnyOrdG
noncomputable def body : Code := (Tryd.f5.body).getD .skip
def N : Nat := 91
noncomputable abbrev at' (N : Nat) (F : List (FOp × Value)) (C : List (FuncId × List Value × Value)) (c : Code) (s : ASt) : Option Stop := evalTo Tryd.prog F C N 1000 10 c s
noncomputable abbrev leave' (N : Nat) (F : List (FOp × Value)) (C : List (FuncId × List Value × Value)) (ks : List KI) (o : Option Stop) : Option Stop := evalLeave Tryd.prog F C N 1000 10 ks o
noncomputable abbrev unr' (N : Nat) (F : List (FOp × Value)) (C : List (FuncId × List Value × Value)) (m : Nat) (o : Option Stop) : Option Stop := evalUnroll Tryd.prog F C N 1000 10 m o
noncomputable abbrev res' (N : Nat) (F : List (FOp × Value)) (C : List (FuncId × List Value × Value)) (ks : List KI) (x : AX) (s : ASt) : Option Stop := evalRes Tryd.prog F C N 1000 10 ks x s
noncomputable abbrev ops' (N : Nat) (F : List (FOp × Value)) (C : List (FuncId × List Value × Value)) (r : List Oper) (ops : Array Oper) (ks : List KI) (s : ASt) : Option Stop := evalOps Tryd.prog F C N 1000 10 r ops ks s
def s0 : ASt := { sl := slots [(0, symv 0)], ms := [], A := start }
def F0 : List (FOp × Value) := [(.len #[27] 3 (symv 0), symv 1),
    (.bin .gtr 3 (symv 1) (.int .i64 60), .bool true)]
def C0 : List (FuncId × List Value × Value) := [(6, [], .bool true)]
set_option maxRecDepth 100000 in
theorem e0 : endVal Tryd.prog Tryd.f5 (at' 91 F0 C0 body s0) = some (.bool true) := by kernel_rfl
def F1 : List (FOp × Value) := [(.len #[27] 3 (symv 0), symv 1),
    (.bin .gtr 3 (symv 1) (.int .i64 60), .bool false),
    (.bin .sub 3 (symv 1) (.int .i64 1), symv 2)]
def C1 : List (FuncId × List Value × Value) := [(6, [], .bool true)]
-- loop 0: slots [(19, symv 2), (18, symv 1), (17, symv 0), (15, .bool false), (14, symv 1), (13, symv 0), (12, .bool true), (5, symv 2), (4, .slice none 0 0), (3, .bool true), (2, .bool false), (0, symv 0)] blocks 0 ms [] []
noncomputable def bks0 : List Bk := []
def head0 : Sl := slots [(5, symv 4), (4, symv 3), (3, .bool true), (2, .bool false), (0, symv 0)]
noncomputable abbrev at0 := at' 91 F1 C1 body s0
set_option maxRecDepth 100000 in
theorem e1 : headObs head0 bks0 at0 = some [(symv 0, symv 0), (symv 2, symv 4), (.slice none 0 0, symv 3)] := by kernel_rfl
def F2 : List (FOp × Value) := [(.bin .geq 3 (symv 4) (.int .i64 0), .bool true),
    (.ixa 27 (symv 0) (symv 4), symv 5),
    (.ld 23 (symv 5), .agg ⟨[symv 6, symv 7, symv 8, symv 9]⟩)]
def C2 : List (FuncId × List Value × Value) := []
set_option maxRecDepth 100000 in
theorem e2 : cellsAt (stopSt (at' 91 F2 C2 (stopCode at0) (headSt head0 bks0))).A 4 (.slice (some ⟨0, 0, none⟩) 1 1) = some [symv 6, symv 7, symv 8, symv 9] := by kernel_rfl
set_option maxRecDepth 100000 in
theorem e3 : appOf 27 (at' 91 F2 C2 (stopCode at0) (headSt head0 bks0)) = some (symv 3, .slice (some ⟨0, 0, none⟩) 1 1) := by kernel_rfl
noncomputable abbrev so0 := at' 91 F2 C2 (stopCode at0) (headSt head0 bks0)
noncomputable def bk0 : List Bk := []
def hd0 : Sl := slots [(5, symv 4), (4, symv 3), (3, .bool true), (2, .bool false), (0, symv 0)]
def hp0 : Sl := match aput 91 hd0 (some 30) (symv 10) with | some s => s | none => .nil
set_option maxRecDepth 100000 in
theorem e4 : trAll (stopSt so0) hd0 bk0 = some [(symv 0, symv 0), (symv 4, symv 4), (symv 3, symv 3)] := by kernel_rfl
set_option maxRecDepth 100000 in
theorem e5 : aput 91 hd0 (stopDst so0) (symv 10) = some hp0 := by kernel_rfl
def F3 : List (FOp × Value) := [(.bin .sub 3 (symv 4) (.int .i64 1), symv 11)]
def C3 : List (FuncId × List Value × Value) := []
set_option maxRecDepth 100000 in
theorem e6 : backObs head0 bks0 (ops' 91 F3 C3 (stopRest so0) (stopOps so0) (stopKs so0) { sl := hp0, ms := [], A := mkAS bk0 }) = some [(symv 0, symv 0), (symv 11, symv 4), (symv 10, symv 3)] := by kernel_rfl
def F4 : List (FOp × Value) := [(.bin .geq 3 (symv 4) (.int .i64 0), .bool false)]
def C4 : List (FuncId × List Value × Value) := []
def F5 : List (FOp × Value) := []
def C5 : List (FuncId × List Value × Value) := []
set_option maxRecDepth 100000 in
theorem e7 : callAt Tryd.prog (leave' 91 F5 C5 (stopKs at0) (at' 91 F4 C4 (stopCode at0) (headSt head0 bks0))) = some (11, [symv 0]) := by kernel_rfl
noncomputable abbrev so1 := leave' 91 F5 C5 (stopKs at0) (at' 91 F4 C4 (stopCode at0) (headSt head0 bks0))
noncomputable def bk1 : List Bk := []
def hd1 : Sl := slots [(4, symv 3), (3, .bool true), (2, .bool false), (0, symv 0)]
def hp1 : Sl := match aput 91 hd1 (some 32) (symv 10) with | some s => s | none => .nil
set_option maxRecDepth 100000 in
theorem e8 : trAll (stopSt so1) hd1 bk1 = some [(symv 0, symv 0), (symv 3, symv 3)] := by kernel_rfl
set_option maxRecDepth 100000 in
theorem e9 : aput 91 hd1 (stopDst so1) (symv 10) = some hp1 := by kernel_rfl
set_option maxRecDepth 100000 in
theorem e10 : callAt Tryd.prog (ops' 91 F5 C5 (stopRest so1) (stopOps so1) (stopKs so1) { sl := hp1, ms := [], A := mkAS bk1 }) = some (11, [symv 3]) := by kernel_rfl
noncomputable abbrev so2 := ops' 91 F5 C5 (stopRest so1) (stopOps so1) (stopKs so1) { sl := hp1, ms := [], A := mkAS bk1 }
noncomputable def bk2 : List Bk := []
def hd2 : Sl := slots [(33, symv 10), (6, symv 10), (3, .bool true), (2, .bool false), (0, symv 0)]
def hp2 : Sl := match aput 91 hd2 (some 35) (symv 12) with | some s => s | none => .nil
set_option maxRecDepth 100000 in
theorem e11 : trAll (stopSt so2) hd2 bk2 = some [(symv 0, symv 0), (symv 10, symv 10), (symv 10, symv 10)] := by kernel_rfl
set_option maxRecDepth 100000 in
theorem e12 : aput 91 hd2 (stopDst so2) (symv 12) = some hp2 := by kernel_rfl
def F6 : List (FOp × Value) := []
def C6 : List (FuncId × List Value × Value) := [(12, [symv 10, symv 12], .bool true)]
-- loop 1: slots [(36, .bool true), (35, symv 12), (33, symv 10), (8, .int .i64 0), (7, .bool true), (6, symv 10), (3, .bool true), (2, .bool false), (0, symv 0)] blocks 0 ms [] []
noncomputable def bks1 : List Bk := []
def head1 : Sl := slots [(8, symv 13), (7, .bool true), (6, symv 10), (3, .bool true), (0, symv 0)]
noncomputable abbrev at1 := ops' 91 F6 C6 (stopRest so2) (stopOps so2) (stopKs so2) { sl := hp2, ms := [], A := mkAS bk2 }
set_option maxRecDepth 100000 in
theorem e13 : headObs head1 bks1 at1 = some [(symv 0, symv 0), (.int .i64 0, symv 13), (symv 10, symv 10)] := by kernel_rfl
def F7 : List (FOp × Value) := [(.len #[27] 3 (symv 0), symv 1),
    (.bin .lss 3 (symv 13) (symv 1), .bool true)]
def C7 : List (FuncId × List Value × Value) := []
-- loop 2: slots [(40, .bool true), (39, symv 1), (38, symv 0), (37, symv 13), (10, .int .i64 0), (9, .bool false), (8, symv 13), (7, .bool true), (6, symv 10), (3, .bool true), (0, symv 0)] blocks 0 ms [] []
noncomputable def bks2 : List Bk := []
def head2 : Sl := slots [(10, symv 15), (9, symv 14), (8, symv 13), (7, .bool true), (6, symv 10), (3, .bool true), (0, symv 0)]
noncomputable abbrev at2 := at' 91 F7 C7 (stopCode at1) (headSt head1 bks1)
set_option maxRecDepth 100000 in
theorem e14 : headObs head2 bks2 at2 = some [(symv 0, symv 0), (.bool false, symv 14), (symv 13, symv 13), (symv 10, symv 10), (.int .i64 0, symv 15)] := by kernel_rfl
def headB15 : Sl := slots [(10, symv 15), (9, .bool true), (8, symv 13), (7, .bool true), (6, symv 10), (3, .bool true), (0, symv 0)]
set_option maxRecDepth 100000 in
theorem e15 : trAll (headSt head2 bks2) headB15 bks2 = some [(symv 0, symv 0), (symv 14, .bool true), (symv 13, symv 13), (symv 10, symv 10), (symv 15, symv 15)] := by kernel_rfl
def F8 : List (FOp × Value) := [(.len #[27] 3 (symv 10), symv 16),
    (.bin .lss 3 (symv 15) (symv 16), .bool true),
    (.bin .add 3 (symv 15) (.int .i64 1), symv 17)]
def C8 : List (FuncId × List Value × Value) := []
set_option maxRecDepth 100000 in
theorem e16 : backObs head2 bks2 (at' 91 F8 C8 (stopCode at2) (headSt headB15 bks2)) = some [(symv 0, symv 0), (.bool true, symv 14), (symv 13, symv 13), (symv 10, symv 10), (symv 17, symv 15)] := by kernel_rfl
def F9 : List (FOp × Value) := [(.len #[27] 3 (symv 10), symv 16),
    (.bin .lss 3 (symv 15) (symv 16), .bool false)]
def C9 : List (FuncId × List Value × Value) := []
def F10 : List (FOp × Value) := [(.bin .add 3 (symv 13) (.int .i64 1), symv 18)]
def C10 : List (FuncId × List Value × Value) := []
set_option maxRecDepth 100000 in
theorem e17 : backObs head1 bks1 (leave' 91 F10 C10 (stopKs at2) (at' 91 F9 C9 (stopCode at2) (headSt headB15 bks2))) = some [(symv 0, symv 0), (symv 18, symv 13), (symv 10, symv 10)] := by kernel_rfl
def headB18 : Sl := slots [(10, symv 15), (9, .bool false), (8, symv 13), (7, .bool true), (6, symv 10), (3, .bool true), (0, symv 0)]
set_option maxRecDepth 100000 in
theorem e18 : trAll (headSt head2 bks2) headB18 bks2 = some [(symv 0, symv 0), (symv 14, .bool false), (symv 13, symv 13), (symv 10, symv 10), (symv 15, symv 15)] := by kernel_rfl
def F11 : List (FOp × Value) := [(.len #[27] 3 (symv 10), symv 16),
    (.bin .lss 3 (symv 15) (symv 16), .bool true),
    (.ixa 27 (symv 10) (symv 15), symv 19),
    (.ld 23 (symv 19), .agg ⟨[symv 20, symv 21, symv 22, symv 23]⟩),
    (.ixa 27 (symv 0) (symv 13), symv 24),
    (.ld 23 (symv 24), .agg ⟨[symv 25, symv 26, symv 27, symv 28]⟩),
    (.bin .eql 23 (.agg ⟨[symv 20, symv 21, symv 22, symv 23]⟩) (.agg ⟨[symv 25, symv 26, symv 27, symv 28]⟩), .bool true),
    (.bin .add 3 (symv 15) (.int .i64 1), symv 17)]
def C11 : List (FuncId × List Value × Value) := []
set_option maxRecDepth 100000 in
theorem e19 : backObs head2 bks2 (at' 91 F11 C11 (stopCode at2) (headSt headB18 bks2)) = some [(symv 0, symv 0), (.bool true, symv 14), (symv 13, symv 13), (symv 10, symv 10), (symv 17, symv 15)] := by kernel_rfl
def F12 : List (FOp × Value) := [(.len #[27] 3 (symv 10), symv 16),
    (.bin .lss 3 (symv 15) (symv 16), .bool true),
    (.ixa 27 (symv 10) (symv 15), symv 19),
    (.ld 23 (symv 19), .agg ⟨[symv 20, symv 21, symv 22, symv 23]⟩),
    (.ixa 27 (symv 0) (symv 13), symv 24),
    (.ld 23 (symv 24), .agg ⟨[symv 25, symv 26, symv 27, symv 28]⟩),
    (.bin .eql 23 (.agg ⟨[symv 20, symv 21, symv 22, symv 23]⟩) (.agg ⟨[symv 25, symv 26, symv 27, symv 28]⟩), .bool false),
    (.bin .add 3 (symv 15) (.int .i64 1), symv 17)]
def C12 : List (FuncId × List Value × Value) := []
set_option maxRecDepth 100000 in
theorem e20 : backObs head2 bks2 (at' 91 F12 C12 (stopCode at2) (headSt headB18 bks2)) = some [(symv 0, symv 0), (.bool false, symv 14), (symv 13, symv 13), (symv 10, symv 10), (symv 17, symv 15)] := by kernel_rfl
set_option maxRecDepth 100000 in
theorem e21 : endVal Tryd.prog Tryd.f5 (leave' 91 F5 C5 (stopKs at1) (leave' 91 F5 C5 (stopKs at2) (at' 91 F9 C9 (stopCode at2) (headSt headB18 bks2)))) = some (.bool false) := by kernel_rfl
def F13 : List (FOp × Value) := [(.len #[27] 3 (symv 0), symv 1),
    (.bin .lss 3 (symv 13) (symv 1), .bool false)]
def C13 : List (FuncId × List Value × Value) := []
-- loop 3: slots [(40, .bool false), (39, symv 1), (38, symv 0), (37, symv 13), (11, .int .i64 1), (8, symv 13), (7, .bool true), (6, symv 10), (3, .bool true), (0, symv 0)] blocks 0 ms [] []
noncomputable def bks3 : List Bk := []
def head3 : Sl := slots [(11, symv 29), (7, .bool true), (6, symv 10), (3, .bool true), (0, symv 0)]
noncomputable abbrev at3 := leave' 91 F5 C5 (stopKs at1) (at' 91 F13 C13 (stopCode at1) (headSt head1 bks1))
set_option maxRecDepth 100000 in
theorem e22 : headObs head3 bks3 at3 = some [(symv 0, symv 0), (.int .i64 1, symv 29), (symv 10, symv 10)] := by kernel_rfl
def F14 : List (FOp × Value) := [(.len #[27] 3 (symv 10), symv 16),
    (.bin .lss 3 (symv 29) (symv 16), .bool true),
    (.bin .sub 3 (symv 29) (.int .i64 1), symv 30),
    (.ixa 27 (symv 10) (symv 30), symv 31),
    (.ld 23 (symv 31), .agg ⟨[symv 32, symv 33, symv 34, symv 35]⟩),
    (.ixa 27 (symv 10) (symv 29), symv 36),
    (.ld 23 (symv 36), .agg ⟨[symv 37, symv 38, symv 39, symv 40]⟩),
    (.bin .geq 3 (symv 41) (.int .i64 0), .bool true)]
def C14 : List (FuncId × List Value × Value) := [(7, [.agg ⟨[symv 32, symv 33, symv 34, symv 35]⟩, .agg ⟨[symv 37, symv 38, symv 39, symv 40]⟩], symv 41)]
set_option maxRecDepth 100000 in
theorem e23 : endVal Tryd.prog Tryd.f5 (leave' 91 F5 C5 (stopKs at3) (at' 91 F14 C14 (stopCode at3) (headSt head3 bks3))) = some (.bool false) := by kernel_rfl
def F15 : List (FOp × Value) := [(.len #[27] 3 (symv 10), symv 16),
    (.bin .lss 3 (symv 29) (symv 16), .bool true),
    (.bin .sub 3 (symv 29) (.int .i64 1), symv 30),
    (.ixa 27 (symv 10) (symv 30), symv 31),
    (.ld 23 (symv 31), .agg ⟨[symv 32, symv 33, symv 34, symv 35]⟩),
    (.ixa 27 (symv 10) (symv 29), symv 36),
    (.ld 23 (symv 36), .agg ⟨[symv 37, symv 38, symv 39, symv 40]⟩),
    (.bin .geq 3 (symv 41) (.int .i64 0), .bool false),
    (.bin .add 3 (symv 29) (.int .i64 1), symv 42)]
def C15 : List (FuncId × List Value × Value) := [(7, [.agg ⟨[symv 32, symv 33, symv 34, symv 35]⟩, .agg ⟨[symv 37, symv 38, symv 39, symv 40]⟩], symv 41)]
set_option maxRecDepth 100000 in
theorem e24 : backObs head3 bks3 (at' 91 F15 C15 (stopCode at3) (headSt head3 bks3)) = some [(symv 0, symv 0), (symv 42, symv 29), (symv 10, symv 10)] := by kernel_rfl
def F16 : List (FOp × Value) := [(.len #[27] 3 (symv 10), symv 16),
    (.bin .lss 3 (symv 29) (symv 16), .bool false)]
def C16 : List (FuncId × List Value × Value) := []
def F17 : List (FOp × Value) := [(.len #[27] 3 (symv 10), symv 16),
    (.len #[27] 3 (symv 0), symv 1),
    (.bin .leq 3 (symv 16) (symv 1), .bool true)]
def C17 : List (FuncId × List Value × Value) := []
set_option maxRecDepth 100000 in
theorem e25 : endVal Tryd.prog Tryd.f5 (leave' 91 F17 C17 (stopKs at3) (at' 91 F16 C16 (stopCode at3) (headSt head3 bks3))) = some (.bool true) := by kernel_rfl
def F18 : List (FOp × Value) := [(.len #[27] 3 (symv 10), symv 16),
    (.len #[27] 3 (symv 0), symv 1),
    (.bin .leq 3 (symv 16) (symv 1), .bool false)]
def C18 : List (FuncId × List Value × Value) := []
set_option maxRecDepth 100000 in
theorem e26 : endVal Tryd.prog Tryd.f5 (leave' 91 F18 C18 (stopKs at3) (at' 91 F16 C16 (stopCode at3) (headSt head3 bks3))) = some (.bool false) := by kernel_rfl
@[reducible] noncomputable def vL (l : List St) (a_l : Option Addr) (c_l : Nat) (b : List St) (a : Option Addr) (c : Nat) (i : Int) (i1 : Nat) (found : Bool) (k : Nat) (i3 : Nat) (b0 : List St) (a0 : Option Addr) (c0 : Nat) (b1 : List St) (a1 : Option Addr) (c1 : Nat) : List Value := [.slice a_l l.length c_l, .int .i64 ((l.length : Nat) : Int), .int .i64 (((l.length : Nat) : Int) - 1), .slice a b.length c, .int .i64 i, cellPtr (.slice a_l l.length c_l) ((i).toNat * 4), .int .i64 (l.getD ((i).toNat) default).1, .int .i64 (l.getD ((i).toNat) default).2.1, .int .i64 (l.getD ((i).toNat) default).2.2.1, .int .i64 (l.getD ((i).toNat) default).2.2.2, .slice a0 b0.length c0, .int .i64 (i - 1), .slice a1 b1.length c1, .int .i64 ((i1 : Nat) : Int), .bool found, .int .i64 ((k : Nat) : Int), .int .i64 ((b0.length : Nat) : Int), .int .i64 ((k + 1 : Nat) : Int), .int .i64 ((i1 + 1 : Nat) : Int), cellPtr (.slice a0 b0.length c0) (k * 4), .int .i64 (b0.getD (k) default).1, .int .i64 (b0.getD (k) default).2.1, .int .i64 (b0.getD (k) default).2.2.1, .int .i64 (b0.getD (k) default).2.2.2, cellPtr (.slice a_l l.length c_l) (i1 * 4), .int .i64 (l.getD (i1) default).1, .int .i64 (l.getD (i1) default).2.1, .int .i64 (l.getD (i1) default).2.2.1, .int .i64 (l.getD (i1) default).2.2.2, .int .i64 ((i3 : Nat) : Int), .int .i64 (((i3 : Nat) : Int) - 1), cellPtr (.slice a0 b0.length c0) (((((i3 : Nat) : Int) - 1)).toNat * 4), .int .i64 (b0.getD (((((i3 : Nat) : Int) - 1)).toNat) default).1, .int .i64 (b0.getD (((((i3 : Nat) : Int) - 1)).toNat) default).2.1, .int .i64 (b0.getD (((((i3 : Nat) : Int) - 1)).toNat) default).2.2.1, .int .i64 (b0.getD (((((i3 : Nat) : Int) - 1)).toNat) default).2.2.2, cellPtr (.slice a0 b0.length c0) (i3 * 4), .int .i64 (b0.getD (i3) default).1, .int .i64 (b0.getD (i3) default).2.1, .int .i64 (b0.getD (i3) default).2.2.1, .int .i64 (b0.getD (i3) default).2.2.2, .int .i64 (cmpS (b0.getD (((((i3 : Nat) : Int) - 1)).toNat) default) (b0.getD (i3) default)), .int .i64 ((i3 + 1 : Nat) : Int)]
@[reducible] noncomputable def sg (M : Mem) (l : List St) (a_l : Option Addr) (c_l : Nat) (b : List St) (a : Option Addr) (c : Nat) (i : Int) (i1 : Nat) (found : Bool) (k : Nat) (i3 : Nat) (b0 : List St) (a0 : Option Addr) (c0 : Nat) (b1 : List St) (a1 : Option Addr) (c1 : Nat) : Sig := sgL M (vL l a_l c_l b a c i i1 found k i3 b0 a0 c0 b1 a1 c1)
set_option maxHeartbeats 4000000 in
set_option maxRecDepth 100000 in
theorem any (W : World) {v_l : Value} {l : List St} (hl : Arr (heapOf W) 4 encS v_l l)  : Calls Tryd.prog 5 #[v_l] W fun e w' => e = .returned (.bool true) ∧ Low W.heap.size W w' := by
  obtain ⟨a_l, c_l, rfl⟩ := hl.slice
  refine @walk_enter (sg (heapOf W) l a_l c_l [] none 0 0 0 false 0 0 [] none 0 [] none 0) Tryd.prog 5 Tryd.f5 body [symv 0] (slots [(0, symv 0)]) N W _ Tryd.func5 (by kernel_rfl) (by kernel_rfl) (by kernel_rfl) (by kernel_rfl) (immW_sgL W _) fun a hh => ?_
  letI := (sg (heapOf W) l a_l c_l [] none 0 0 0 false 0 0 [] none 0 [] none 0)
  by_cases h0 : 60 < ((l.length : Nat) : Int)
  · refine walk_to (F := F0) (T := C0) (fuel := 1000) (d := 10) mixed (allF_cons (FactOk.arrLen hl rfl rfl under27 rfl rfl) (allF_cons (FactOk.bi rfl rfl rfl rfl rfl rfl (boolT (by omega))) allF_nil)) (allC_cons (callSanity) allC_nil) ?_ hh
    exact ostop_end e0 fun w2 hLow hIn => ⟨(by first | rfl | (exfalso; first | omega | (obtain ⟨j, hj, he⟩ := memGetS ((sortedS_mem l _).2 (getMemS (show i1 < l.length by omega))); rw [← hb0] at hj he; exact hI.2 hf_found j (by omega) he) | (have hz := sortedS_lt (l := l) (i := i3) (by omega) (by rw [← hb0]; omega); rw [← hb0] at hz; rw [show (((i3 : Nat) : Int) - 1).toNat = i3 - 1 by omega] at z1; omega))), hLow⟩   -- returns .bool true
  · refine walk_to (F := F1) (T := C1) (fuel := 1000) (d := 10) mixed (allF_cons (FactOk.arrLen hl rfl rfl under27 rfl rfl) (allF_cons (FactOk.bi rfl rfl rfl rfl rfl rfl (boolF (by omega))) (allF_cons (FactOk.bi rfl rfl rfl rfl rfl rfl (intI (by omega) (by omega) (by omega))) allF_nil))) (allC_cons (callSanity) allC_nil) ?_ hh
    refine ostop_loop (sg := (fun (⟨M, b, a, c, i⟩ : Mem × List St × Option Addr × Nat × Int) => sg M l a_l c_l b a c i 0 false 0 0 [] none 0 [] none 0)) (fun (⟨M, b, a, c, i⟩ : Mem × List St × Option Addr × Nat × Int) => OArr W.heap.size M elS 4 encS (.slice a b.length c) b ∧ (∀ j o, heapOf W j = some o → M j = some o) ∧ -1 ≤ i ∧ i < l.length ∧ b = (l.drop (i + 1).toNat).reverse) (fun (⟨M, b, a, c, i⟩ : Mem × List St × Option Addr × Nat × Int) => (i + 1).toNat) ⟨heapOf W, [], none, 0, (l.length : Int) - 1⟩ e1 (meet_cons (by exact meetV (.slice a_l l.length c_l) rfl rfl) (meet_cons (by exact meetV (.int .i64 (((l.length : Nat) : Int) - 1)) rfl rfl) (meet_cons rfl meet_nil))) (fun _ _ h => h) (by exact ⟨OArr.nil _ _ _ _ _ _, fun _ _ h => h, by omega, by omega, by rw [List.drop_eq_nil_of_le (by omega)]; rfl⟩) ?_
    intro ⟨M, b, a, c, i⟩ hI aC w hh
    letI := (sg M l a_l c_l b a c i 0 false 0 0 [] none 0 [] none 0)
    have hO := hI.1
    have hM := hI.2.1
    have hbl : b.length = l.length - (i + 1).toNat := by rw [hI.2.2.2.2, List.length_reverse, List.length_drop]
    have hi1 := hI.2.2.1
    have hi2 := hI.2.2.2.1
    by_cases p0 : 0 ≤ i
    · refine walk_to (F := F2) (T := C2) (fuel := 1000) (d := 10) mixed (allF_cons (FactOk.bi rfl rfl rfl rfl rfl rfl (boolT (by omega))) (allF_cons (FactOk.arrIxa (hl.mono hM) (show (i).toNat < l.length by omega) rfl rfl rfl under27 sizeSt rfl (natI (by omega)) rfl) (allF_cons (FactOk.arrLd (hl.mono hM) (getSome (show (i).toNat < l.length by omega)) rfl rfl aggSt sizeSt rfl rfl rfl) allF_nil))) allC_nil ?_ hh
      obtain ⟨b0, hb0⟩ : ∃ b0 : List St, b0 = b ++ [(l.getD ((i).toNat) default)] := ⟨_, rfl⟩
      have hn0 : b0.length = b.length + 1 := by rw [hb0]; first | rfl | simp
      refine ostop_appendO (l := b) (lx := [(l.getD ((i).toNat) default)]) (l' := b0) (vals2 := fun aV cV => (vL l a_l c_l b a c i 0 false 0 0 b0 aV cV [] none 0)) (T := (obl (.slice a b.length c))) hb0 e3 underSl infoS zeroS iszS ibyS zszS (by decide) hkS honeS e4 e5 rfl (appTo_sym rfl rfl hO) (app_cells e2 hkS (by decide) rfl) (lenMax (show b.length + 1 ≤ 1000000 by omega)) (show (b.length + 1) * bytesS ≤ 140737488355328 by unfold bytesS; omega) (fun _ _ _ => (meet_cons (by exact meetV (.slice a_l l.length c_l) rfl rfl) (meet_cons (by exact meetV (.int .i64 i) rfl rfl) (meet_cons (by exact meetV (.slice a b.length c) rfl rfl) meet_nil)))) (fun _ _ _ => rfl) ?_
      intro M0 a0 c0 hO0 hK0 hT0 aC w hh
      have hM0 := hK0.up hT0 (Nat.le_refl _) hM
      letI := (sg M0 l a_l c_l b a c i 0 false 0 0 b0 a0 c0 [] none 0)
      refine walk_ops (F := F3) (T := C3) (fuel := 1000) (d := 10) mixed (allF_cons (FactOk.bi rfl rfl rfl rfl rfl rfl (intI (by omega) (by omega) (by omega))) allF_nil) allC_nil ?_ hh
      exact ostop_backM (s1 := (sg M0 l a_l c_l b a c i 0 false 0 0 b0 a0 c0 [] none 0)) (sg := (fun (⟨M, b, a, c, i⟩ : Mem × List St × Option Addr × Nat × Int) => sg M l a_l c_l b a c i 0 false 0 0 [] none 0 [] none 0)) (I := fun (⟨M, b, a, c, i⟩ : Mem × List St × Option Addr × Nat × Int) => OArr W.heap.size M elS 4 encS (.slice a b.length c) b ∧ (∀ j o, heapOf W j = some o → M j = some o) ∧ -1 ≤ i ∧ i < l.length ∧ b = (l.drop (i + 1).toNat).reverse) (μ := fun (⟨M, b, a, c, i⟩ : Mem × List St × Option Addr × Nat × Int) => (i + 1).toNat) (x := ⟨M, b, a, c, i⟩) ⟨M0, b0, a0, c0, (i - 1)⟩ e6 (meet_cons (by exact meetV (.slice a_l l.length c_l) rfl rfl) (meet_cons (by exact meetV (.int .i64 (i - 1)) rfl rfl) (meet_cons (by exact meetV (.slice a0 b0.length c0) rfl rfl) meet_nil))) (fun _ _ h => h) (by exact ⟨hO0, hM0, by omega, by omega, by rw [hb0, hI.2.2.2.2, show (i - 1 + 1).toNat = i.toNat by omega, show (i + 1).toNat = i.toNat + 1 by omega]; exact drop_rev (by omega)⟩) (by (try dsimp only); omega)
    · refine walk_to (F := F4) (T := C4) (fuel := 1000) (d := 10) mixed (allF_cons (FactOk.bi rfl rfl rfl rfl rfl rfl (boolF (by omega))) allF_nil) allC_nil ?_ hh
      refine walk_leave (F := F5) (T := C5) (fuel := 1000) (d := 10) mixed allF_nil allC_nil ?_
      obtain ⟨b0, hb0⟩ : ∃ b0 : List St, b0 = sortedS l := ⟨_, rfl⟩
      refine ostop_callT (Y := Option Addr × Nat) (vals2 := fun y => (vL l a_l c_l b a c i 0 false 0 0 b0 y.1 y.2 [] none 0)) (T := none) (R := fun y M' => OArr W.heap.size M' elS 4 encS (.slice y.1 b0.length y.2) b0 ∧ Keeps M M' none) e7 e8 e9 rfl (fun w hw hB => by subst hb0; exact newOf hw hB (fun y M' => rfl) (SortedG.any w ((hl.mono hM).mono hw) (by omega))) (fun _ _ _ => (meet_cons (by exact meetV (.slice a_l l.length c_l) rfl rfl) (meet_cons (by exact meetV (.slice a b.length c) rfl rfl) meet_nil))) ?_
      intro M0 ⟨a0, c0⟩ hR0 aC w hh
      obtain ⟨hO0, hK0⟩ := hR0
      have hM0 := hK0.up (fun _ h => by cases h) (Nat.le_refl _) hM
      have hOk0 := hK0.own hO (fun _ _ h => by cases h)
      have hn0 : b0.length ≤ l.length := by rw [hb0]; first | done | exact sortedS_len l
      letI := (sg M0 l a_l c_l b a c i 0 false 0 0 b0 a0 c0 [] none 0)
      refine walk_ops (F := F5) (T := C5) (fuel := 1000) (d := 10) mixed allF_nil allC_nil ?_ hh
      obtain ⟨b1, hb1⟩ : ∃ b1 : List St, b1 = sortedS b := ⟨_, rfl⟩
      refine ostop_callT (Y := Option Addr × Nat) (vals2 := fun y => (vL l a_l c_l b a c i 0 false 0 0 b0 a0 c0 b1 y.1 y.2)) (T := none) (R := fun y M' => OArr W.heap.size M' elS 4 encS (.slice y.1 b1.length y.2) b1 ∧ Keeps M0 M' none) e10 e11 e12 rfl (fun w hw hB => by subst hb1; exact newOf hw hB (fun y M' => rfl) (SortedG.any w ((hOk0.arr hkS).mono hw) (by omega))) (fun _ _ _ => (meet_cons (by exact meetV (.slice a_l l.length c_l) rfl rfl) (meet_cons (by exact meetV (.slice a0 b0.length c0) rfl rfl) (meet_cons (by exact meetV (.slice a0 b0.length c0) rfl rfl) meet_nil)))) ?_
      intro M1 ⟨a1, c1⟩ hR1 aC w hh
      obtain ⟨hO1, hK1⟩ := hR1
      have hM1 := hK1.up (fun _ h => by cases h) (Nat.le_refl _) hM0
      have hOk0k1 := hK1.own hOk0 (fun _ _ h => by cases h)
      have hO0k1 := hK1.own hO0 (fun _ _ h => by cases h)
      have hn1 : b1.length ≤ b.length := by rw [hb1]; first | done | exact sortedS_len b
      letI := (sg M1 l a_l c_l b a c i 0 false 0 0 b0 a0 c0 b1 a1 c1)
      refine walk_ops (F := F6) (T := C6) (fuel := 1000) (d := 10) mixed allF_nil (allC_cons (callSameT rfl rfl (hO0k1.arr hkS) (hO1.arr hkS) (by omega) (by rw [hb0, hb1, hI.2.2.2.2, show (i + 1).toNat = 0 by omega, List.drop_zero, sortedS_rev])) allC_nil) ?_ hh
      -- LOOP 1: slot 2 = .bool false is written in the loop: left out
      refine ostop_loop (sg := (fun i1 => sg M1 l a_l c_l b a c i i1 false 0 0 b0 a0 c0 b1 a1 c1)) (fun i1 => i1 ≤ l.length) (fun i1 => l.length - i1) 0 e13 (meet_cons (by exact meetV (.slice a_l l.length c_l) rfl rfl) (meet_cons rfl (meet_cons (by exact meetV (.slice a0 b0.length c0) rfl rfl) meet_nil))) (fun _ _ h => h) (by exact Nat.zero_le _) ?_
      intro i1 hI aC w hh
      letI := (sg M1 l a_l c_l b a c i i1 false 0 0 b0 a0 c0 b1 a1 c1)
      by_cases v0 : ((i1 : Nat) : Int) < ((l.length : Nat) : Int)
      · refine walk_to (F := F7) (T := C7) (fuel := 1000) (d := 10) mixed (allF_cons (FactOk.arrLen (hl.mono hM1) rfl rfl under27 rfl rfl) (allF_cons (FactOk.bi rfl rfl rfl rfl rfl rfl (boolT (by omega))) allF_nil)) allC_nil ?_ hh
        refine ostop_loop (sg := (fun (⟨found, k⟩ : Bool × Nat) => sg M1 l a_l c_l b a c i i1 found k 0 b0 a0 c0 b1 a1 c1)) (fun (⟨found, k⟩ : Bool × Nat) => k ≤ b0.length ∧ (found = false → ∀ j, j < k → b0.getD j default ≠ l.getD i1 default)) (fun (⟨found, k⟩ : Bool × Nat) => b0.length - k) ⟨false, 0⟩ e14 (meet_cons (by exact meetV (.slice a_l l.length c_l) rfl rfl) (meet_cons rfl (meet_cons (by exact meetV (.int .i64 ((i1 : Nat) : Int)) rfl rfl) (meet_cons (by exact meetV (.slice a0 b0.length c0) rfl rfl) (meet_cons rfl meet_nil))))) (fun _ _ h => h) (by exact ⟨Nat.zero_le _, fun _ j h => absurd h (Nat.not_lt_zero _)⟩) ?_
        intro ⟨found, k⟩ hI aC w hh
        letI := (sg M1 l a_l c_l b a c i i1 found k 0 b0 a0 c0 b1 a1 c1)
        rcases Bool.eq_false_or_eq_true found with hf_found | hf_found
        · replace hh := Here.move (s2 := (sg M1 l a_l c_l b a c i i1 found k 0 b0 a0 c0 b1 a1 c1)) e15 (meet_cons (by exact meetV (.slice a_l l.length c_l) rfl rfl) (meet_cons (meetB rfl hf_found) (meet_cons (by exact meetV (.int .i64 ((i1 : Nat) : Int)) rfl rfl) (meet_cons (by exact meetV (.slice a0 b0.length c0) rfl rfl) (meet_cons (by exact meetV (.int .i64 ((k : Nat) : Int)) rfl rfl) meet_nil))))) (fun _ _ h => h) (by first | exact Nat.zero_le _ | exact Nat.le_of_ble_eq_true rfl) (by exact sameC_none rfl) hh
          by_cases z0 : ((k : Nat) : Int) < ((b0.length : Nat) : Int)
          · refine walk_to (F := F8) (T := C8) (fuel := 1000) (d := 10) mixed (allF_cons (FactOk.arrLen (hO0k1.arr hkS) rfl rfl under27 rfl rfl) (allF_cons (FactOk.bi rfl rfl rfl rfl rfl rfl (boolT (by omega))) (allF_cons (FactOk.bi rfl rfl rfl rfl rfl rfl (intI (by omega) (by omega) (by omega))) allF_nil))) allC_nil ?_ hh
            exact ostop_backM (s1 := (sg M1 l a_l c_l b a c i i1 found k 0 b0 a0 c0 b1 a1 c1)) (sg := (fun (⟨found, k⟩ : Bool × Nat) => sg M1 l a_l c_l b a c i i1 found k 0 b0 a0 c0 b1 a1 c1)) (I := fun (⟨found, k⟩ : Bool × Nat) => k ≤ b0.length ∧ (found = false → ∀ j, j < k → b0.getD j default ≠ l.getD i1 default)) (μ := fun (⟨found, k⟩ : Bool × Nat) => b0.length - k) (x := ⟨found, k⟩) ⟨true, k + 1⟩ e16 (meet_cons (by exact meetV (.slice a_l l.length c_l) rfl rfl) (meet_cons rfl (meet_cons (by exact meetV (.int .i64 ((i1 : Nat) : Int)) rfl rfl) (meet_cons (by exact meetV (.slice a0 b0.length c0) rfl rfl) (meet_cons (by exact meetV (.int .i64 ((k + 1 : Nat) : Int)) rfl rfl) meet_nil))))) (fun _ _ h => h) (by exact ⟨by omega, fun hf j hj => by first | (cases hf; done) | (rcases Nat.lt_succ_iff_lt_or_eq.1 hj with h | rfl; exact hI.2 hf_found j h; exact z1)⟩) (by (try dsimp only); omega)
          · refine walk_to (F := F9) (T := C9) (fuel := 1000) (d := 10) mixed (allF_cons (FactOk.arrLen (hO0k1.arr hkS) rfl rfl under27 rfl rfl) (allF_cons (FactOk.bi rfl rfl rfl rfl rfl rfl (boolF (by omega))) allF_nil)) allC_nil ?_ hh
            refine walk_leave (F := F10) (T := C10) (fuel := 1000) (d := 10) mixed (allF_cons (FactOk.bi rfl rfl rfl rfl rfl rfl (intI (by omega) (by omega) (by omega))) allF_nil) allC_nil ?_
            exact ostop_backM (s1 := (sg M1 l a_l c_l b a c i i1 found k 0 b0 a0 c0 b1 a1 c1)) (sg := (fun i1 => sg M1 l a_l c_l b a c i i1 false 0 0 b0 a0 c0 b1 a1 c1)) (I := fun i1 => i1 ≤ l.length) (μ := fun i1 => l.length - i1) (x := i1) (i1 + 1) e17 (meet_cons (by exact meetV (.slice a_l l.length c_l) rfl rfl) (meet_cons (by exact meetV (.int .i64 ((i1 + 1 : Nat) : Int)) rfl rfl) (meet_cons (by exact meetV (.slice a0 b0.length c0) rfl rfl) meet_nil))) (fun _ _ h => h) (by show i1 + 1 ≤ l.length; omega) (by (try dsimp only); omega)
        · replace hh := Here.move (s2 := (sg M1 l a_l c_l b a c i i1 found k 0 b0 a0 c0 b1 a1 c1)) e18 (meet_cons (by exact meetV (.slice a_l l.length c_l) rfl rfl) (meet_cons (meetB rfl hf_found) (meet_cons (by exact meetV (.int .i64 ((i1 : Nat) : Int)) rfl rfl) (meet_cons (by exact meetV (.slice a0 b0.length c0) rfl rfl) (meet_cons (by exact meetV (.int .i64 ((k : Nat) : Int)) rfl rfl) meet_nil))))) (fun _ _ h => h) (by first | exact Nat.zero_le _ | exact Nat.le_of_ble_eq_true rfl) (by exact sameC_none rfl) hh
          by_cases z0 : ((k : Nat) : Int) < ((b0.length : Nat) : Int)
          · by_cases z1 : (b0.getD (k) default) = (l.getD (i1) default)
            · refine walk_to (F := F11) (T := C11) (fuel := 1000) (d := 10) mixed (allF_cons (FactOk.arrLen (hO0k1.arr hkS) rfl rfl under27 rfl rfl) (allF_cons (FactOk.bi rfl rfl rfl rfl rfl rfl (boolT (by omega))) (allF_cons (FactOk.arrIxa (hO0k1.arr hkS) (show k < b0.length by omega) rfl rfl rfl under27 sizeSt rfl rfl rfl) (allF_cons (FactOk.arrLd (hO0k1.arr hkS) (getSome (show k < b0.length by omega)) rfl rfl aggSt sizeSt rfl rfl rfl) (allF_cons (FactOk.arrIxa (hl.mono hM1) (show i1 < l.length by omega) rfl rfl rfl under27 sizeSt rfl rfl rfl) (allF_cons (FactOk.arrLd (hl.mono hM1) (getSome (show i1 < l.length by omega)) rfl rfl aggSt sizeSt rfl rfl rfl) (allF_cons (eqS rfl rfl rfl rfl (decide_eq_true z1).symm) (allF_cons (FactOk.bi rfl rfl rfl rfl rfl rfl (intI (by omega) (by omega) (by omega))) allF_nil)))))))) allC_nil ?_ hh
              exact ostop_backM (s1 := (sg M1 l a_l c_l b a c i i1 found k 0 b0 a0 c0 b1 a1 c1)) (sg := (fun (⟨found, k⟩ : Bool × Nat) => sg M1 l a_l c_l b a c i i1 found k 0 b0 a0 c0 b1 a1 c1)) (I := fun (⟨found, k⟩ : Bool × Nat) => k ≤ b0.length ∧ (found = false → ∀ j, j < k → b0.getD j default ≠ l.getD i1 default)) (μ := fun (⟨found, k⟩ : Bool × Nat) => b0.length - k) (x := ⟨found, k⟩) ⟨true, k + 1⟩ e19 (meet_cons (by exact meetV (.slice a_l l.length c_l) rfl rfl) (meet_cons rfl (meet_cons (by exact meetV (.int .i64 ((i1 : Nat) : Int)) rfl rfl) (meet_cons (by exact meetV (.slice a0 b0.length c0) rfl rfl) (meet_cons (by exact meetV (.int .i64 ((k + 1 : Nat) : Int)) rfl rfl) meet_nil))))) (fun _ _ h => h) (by exact ⟨by omega, fun hf j hj => by first | (cases hf; done) | (rcases Nat.lt_succ_iff_lt_or_eq.1 hj with h | rfl; exact hI.2 hf_found j h; exact z1)⟩) (by (try dsimp only); omega)
            · refine walk_to (F := F12) (T := C12) (fuel := 1000) (d := 10) mixed (allF_cons (FactOk.arrLen (hO0k1.arr hkS) rfl rfl under27 rfl rfl) (allF_cons (FactOk.bi rfl rfl rfl rfl rfl rfl (boolT (by omega))) (allF_cons (FactOk.arrIxa (hO0k1.arr hkS) (show k < b0.length by omega) rfl rfl rfl under27 sizeSt rfl rfl rfl) (allF_cons (FactOk.arrLd (hO0k1.arr hkS) (getSome (show k < b0.length by omega)) rfl rfl aggSt sizeSt rfl rfl rfl) (allF_cons (FactOk.arrIxa (hl.mono hM1) (show i1 < l.length by omega) rfl rfl rfl under27 sizeSt rfl rfl rfl) (allF_cons (FactOk.arrLd (hl.mono hM1) (getSome (show i1 < l.length by omega)) rfl rfl aggSt sizeSt rfl rfl rfl) (allF_cons (eqS rfl rfl rfl rfl (decide_eq_false z1).symm) (allF_cons (FactOk.bi rfl rfl rfl rfl rfl rfl (intI (by omega) (by omega) (by omega))) allF_nil)))))))) allC_nil ?_ hh
              exact ostop_backM (s1 := (sg M1 l a_l c_l b a c i i1 found k 0 b0 a0 c0 b1 a1 c1)) (sg := (fun (⟨found, k⟩ : Bool × Nat) => sg M1 l a_l c_l b a c i i1 found k 0 b0 a0 c0 b1 a1 c1)) (I := fun (⟨found, k⟩ : Bool × Nat) => k ≤ b0.length ∧ (found = false → ∀ j, j < k → b0.getD j default ≠ l.getD i1 default)) (μ := fun (⟨found, k⟩ : Bool × Nat) => b0.length - k) (x := ⟨found, k⟩) ⟨false, k + 1⟩ e20 (meet_cons (by exact meetV (.slice a_l l.length c_l) rfl rfl) (meet_cons rfl (meet_cons (by exact meetV (.int .i64 ((i1 : Nat) : Int)) rfl rfl) (meet_cons (by exact meetV (.slice a0 b0.length c0) rfl rfl) (meet_cons (by exact meetV (.int .i64 ((k + 1 : Nat) : Int)) rfl rfl) meet_nil))))) (fun _ _ h => h) (by exact ⟨by omega, fun hf j hj => by first | (cases hf; done) | (rcases Nat.lt_succ_iff_lt_or_eq.1 hj with h | rfl; exact hI.2 hf_found j h; exact z1)⟩) (by (try dsimp only); omega)
          · refine walk_to (F := F9) (T := C9) (fuel := 1000) (d := 10) mixed (allF_cons (FactOk.arrLen (hO0k1.arr hkS) rfl rfl under27 rfl rfl) (allF_cons (FactOk.bi rfl rfl rfl rfl rfl rfl (boolF (by omega))) allF_nil)) allC_nil ?_ hh
            refine walk_leave (F := F5) (T := C5) (fuel := 1000) (d := 10) mixed allF_nil allC_nil ?_
            refine walk_leave (F := F5) (T := C5) (fuel := 1000) (d := 10) mixed allF_nil allC_nil ?_
            exact ostop_end e21 fun w2 hLow hIn => ⟨(by first | rfl | (exfalso; first | omega | (obtain ⟨j, hj, he⟩ := memGetS ((sortedS_mem l _).2 (getMemS (show i1 < l.length by omega))); rw [← hb0] at hj he; exact hI.2 hf_found j (by omega) he) | (have hz := sortedS_lt (l := l) (i := i3) (by omega) (by rw [← hb0]; omega); rw [← hb0] at hz; rw [show (((i3 : Nat) : Int) - 1).toNat = i3 - 1 by omega] at z1; omega))), hLow⟩   -- returns .bool false
      · refine walk_to (F := F13) (T := C13) (fuel := 1000) (d := 10) mixed (allF_cons (FactOk.arrLen (hl.mono hM1) rfl rfl under27 rfl rfl) (allF_cons (FactOk.bi rfl rfl rfl rfl rfl rfl (boolF (by omega))) allF_nil)) allC_nil ?_ hh
        refine walk_leave (F := F5) (T := C5) (fuel := 1000) (d := 10) mixed allF_nil allC_nil ?_
        refine ostop_loop (sg := (fun i3 => sg M1 l a_l c_l b a c i i1 false 0 i3 b0 a0 c0 b1 a1 c1)) (fun i3 => 1 ≤ i3 ∧ i3 ≤ l.length + 1) (fun i3 => l.length + 1 - i3) 1 e22 (meet_cons (by exact meetV (.slice a_l l.length c_l) rfl rfl) (meet_cons rfl (meet_cons (by exact meetV (.slice a0 b0.length c0) rfl rfl) meet_nil))) (fun _ _ h => h) (by exact ⟨Nat.le_refl _, by omega⟩) ?_
        intro i3 hI aC w hh
        letI := (sg M1 l a_l c_l b a c i i1 false 0 i3 b0 a0 c0 b1 a1 c1)
        by_cases z0 : ((i3 : Nat) : Int) < ((b0.length : Nat) : Int)
        · by_cases z1 : 0 ≤ (cmpS (b0.getD (((((i3 : Nat) : Int) - 1)).toNat) default) (b0.getD (i3) default))
          · refine walk_to (F := F14) (T := C14) (fuel := 1000) (d := 10) mixed (allF_cons (FactOk.arrLen (hO0k1.arr hkS) rfl rfl under27 rfl rfl) (allF_cons (FactOk.bi rfl rfl rfl rfl rfl rfl (boolT (by omega))) (allF_cons (FactOk.bi rfl rfl rfl rfl rfl rfl (intI (by omega) (by omega) (by omega))) (allF_cons (FactOk.arrIxa (hO0k1.arr hkS) (show ((((i3 : Nat) : Int) - 1)).toNat < b0.length by omega) rfl rfl rfl under27 sizeSt rfl (natI (by omega)) rfl) (allF_cons (FactOk.arrLd (hO0k1.arr hkS) (getSome (show ((((i3 : Nat) : Int) - 1)).toNat < b0.length by omega)) rfl rfl aggSt sizeSt rfl rfl rfl) (allF_cons (FactOk.arrIxa (hO0k1.arr hkS) (show i3 < b0.length by omega) rfl rfl rfl under27 sizeSt rfl rfl rfl) (allF_cons (FactOk.arrLd (hO0k1.arr hkS) (getSome (show i3 < b0.length by omega)) rfl rfl aggSt sizeSt rfl rfl rfl) (allF_cons (FactOk.bi rfl rfl rfl rfl rfl rfl (boolT (by omega))) allF_nil)))))))) (allC_cons (callCmpS rfl rfl rfl rfl) allC_nil) ?_ hh
            refine walk_leave (F := F5) (T := C5) (fuel := 1000) (d := 10) mixed allF_nil allC_nil ?_
            exact ostop_end e23 fun w2 hLow hIn => ⟨(by first | rfl | (exfalso; first | omega | (obtain ⟨j, hj, he⟩ := memGetS ((sortedS_mem l _).2 (getMemS (show i1 < l.length by omega))); rw [← hb0] at hj he; exact hI.2 hf_found j (by omega) he) | (have hz := sortedS_lt (l := l) (i := i3) (by omega) (by rw [← hb0]; omega); rw [← hb0] at hz; rw [show (((i3 : Nat) : Int) - 1).toNat = i3 - 1 by omega] at z1; omega))), hLow⟩   -- returns .bool false
          · refine walk_to (F := F15) (T := C15) (fuel := 1000) (d := 10) mixed (allF_cons (FactOk.arrLen (hO0k1.arr hkS) rfl rfl under27 rfl rfl) (allF_cons (FactOk.bi rfl rfl rfl rfl rfl rfl (boolT (by omega))) (allF_cons (FactOk.bi rfl rfl rfl rfl rfl rfl (intI (by omega) (by omega) (by omega))) (allF_cons (FactOk.arrIxa (hO0k1.arr hkS) (show ((((i3 : Nat) : Int) - 1)).toNat < b0.length by omega) rfl rfl rfl under27 sizeSt rfl (natI (by omega)) rfl) (allF_cons (FactOk.arrLd (hO0k1.arr hkS) (getSome (show ((((i3 : Nat) : Int) - 1)).toNat < b0.length by omega)) rfl rfl aggSt sizeSt rfl rfl rfl) (allF_cons (FactOk.arrIxa (hO0k1.arr hkS) (show i3 < b0.length by omega) rfl rfl rfl under27 sizeSt rfl rfl rfl) (allF_cons (FactOk.arrLd (hO0k1.arr hkS) (getSome (show i3 < b0.length by omega)) rfl rfl aggSt sizeSt rfl rfl rfl) (allF_cons (FactOk.bi rfl rfl rfl rfl rfl rfl (boolF (by omega))) (allF_cons (FactOk.bi rfl rfl rfl rfl rfl rfl (intI (by omega) (by omega) (by omega))) allF_nil))))))))) (allC_cons (callCmpS rfl rfl rfl rfl) allC_nil) ?_ hh
            exact ostop_backM (s1 := (sg M1 l a_l c_l b a c i i1 false 0 i3 b0 a0 c0 b1 a1 c1)) (sg := (fun i3 => sg M1 l a_l c_l b a c i i1 false 0 i3 b0 a0 c0 b1 a1 c1)) (I := fun i3 => 1 ≤ i3 ∧ i3 ≤ l.length + 1) (μ := fun i3 => l.length + 1 - i3) (x := i3) (i3 + 1) e24 (meet_cons (by exact meetV (.slice a_l l.length c_l) rfl rfl) (meet_cons (by exact meetV (.int .i64 ((i3 + 1 : Nat) : Int)) rfl rfl) (meet_cons (by exact meetV (.slice a0 b0.length c0) rfl rfl) meet_nil))) (fun _ _ h => h) (by exact ⟨by omega, by omega⟩) (by (try dsimp only); omega)
        · refine walk_to (F := F16) (T := C16) (fuel := 1000) (d := 10) mixed (allF_cons (FactOk.arrLen (hO0k1.arr hkS) rfl rfl under27 rfl rfl) (allF_cons (FactOk.bi rfl rfl rfl rfl rfl rfl (boolF (by omega))) allF_nil)) allC_nil ?_ hh
          by_cases z0 : ((b0.length : Nat) : Int) ≤ ((l.length : Nat) : Int)
          · refine walk_leave (F := F17) (T := C17) (fuel := 1000) (d := 10) mixed (allF_cons (FactOk.arrLen (hO0k1.arr hkS) rfl rfl under27 rfl rfl) (allF_cons (FactOk.arrLen (hl.mono hM1) rfl rfl under27 rfl rfl) (allF_cons (FactOk.bi rfl rfl rfl rfl rfl rfl (boolT (by omega))) allF_nil))) allC_nil ?_
            exact ostop_end e25 fun w2 hLow hIn => ⟨(by first | rfl | (exfalso; first | omega | (obtain ⟨j, hj, he⟩ := memGetS ((sortedS_mem l _).2 (getMemS (show i1 < l.length by omega))); rw [← hb0] at hj he; exact hI.2 hf_found j (by omega) he) | (have hz := sortedS_lt (l := l) (i := i3) (by omega) (by rw [← hb0]; omega); rw [← hb0] at hz; rw [show (((i3 : Nat) : Int) - 1).toNat = i3 - 1 by omega] at z1; omega))), hLow⟩   -- returns .bool true
          · refine walk_leave (F := F18) (T := C18) (fuel := 1000) (d := 10) mixed (allF_cons (FactOk.arrLen (hO0k1.arr hkS) rfl rfl under27 rfl rfl) (allF_cons (FactOk.arrLen (hl.mono hM1) rfl rfl under27 rfl rfl) (allF_cons (FactOk.bi rfl rfl rfl rfl rfl rfl (boolF (by omega))) allF_nil))) allC_nil ?_
            exact ostop_end e26 fun w2 hLow hIn => ⟨(by first | rfl | (exfalso; first | omega | (obtain ⟨j, hj, he⟩ := memGetS ((sortedS_mem l _).2 (getMemS (show i1 < l.length by omega))); rw [← hb0] at hj he; exact hI.2 hf_found j (by omega) he) | (have hz := sortedS_lt (l := l) (i := i3) (by omega) (by rw [← hb0]; omega); rw [← hb0] at hz; rw [show (((i3 : Nat) : Int) - 1).toNat = i3 - 1 by omega] at z1; omega))), hLow⟩   -- returns .bool false
end AnyOrdG
end AE
end Go.Proofs.YtheaofepenbcgaaDoor

namespace Go.Proofs.YtheaofepenbcgaaDoor
open Go Go.ChangeShapes Go.WideShapes Go.ChangeAt Go.RowKit
set_option maxRecDepth 100000

theorem stampSortsAnyOrder_laid (os : Os) (args : Array Value) : laidMetH Tryd.prog Rows.stampSortsAnyOrderRow.laid ((World.laidAll Tryd.prog os Rows.stampSortsAnyOrderRow.laid).forCall (fun _ _ => 0) ⟨#[], args, []⟩).memory := by
  rw [MakeChecks.laidMetH_plain _ _ _ (by kernel_rfl)]
  exact laidMet_laidAll _ (by kernel_rfl) (by kernel_rfl)

theorem stampSortsAnyOrder_lifted (os : Os) (started : os.Started) (H : Type) (enc : TypeId × Value → H) :
    ReturnsInHanded {} Tryd.checked os 5 .any (fun w args => (Rows.stampSortsAnyOrderSpec.pre enc Tryd.prog Tryd.f5 [] false w args ∧ laidMetH Tryd.prog Rows.stampSortsAnyOrderRow.laid w) ∧ sizedMet enc Tryd.prog Tryd.f5 (OpenSpec.ofChange Rows.stampSortsAnyOrderSpec) false w args)
      (Rows.stampSortsAnyOrderSpec.post enc Tryd.prog Tryd.f5 false true false false) := by
  refine returnsInHanded_of_change_and (C := Tryd.checked) (X := fun w _ => laidMetH Tryd.prog Rows.stampSortsAnyOrderRow.laid w) (fun _ _ _ hh h => h.of_heap hh) own started (by kernel_rfl) Tryd.func5
    (ChangeSpec.witness_shaped (enc := enc) (C := Tryd.checked) (os := os) (X := fun w _ => laidMetH Tryd.prog Rows.stampSortsAnyOrderRow.laid w) false (World.laidAll Tryd.prog os Rows.stampSortsAnyOrderRow.laid) #[.slice none 0 0] 8 (World.laidAll_os _ _ _)
      (World.shaped_of_ZipB (by kernel_rfl) (by kernel_rfl)) (by kernel_rfl) (by kernel_rfl) (by kernel_rfl) (stampSortsAnyOrder_laid os _)) ?_
  intro W base args ds gs before hval0 hW _ _ _ _
  have hval : ∀ (j : Nat) t v, Tryd.f5.params[j]? = some t → args[j]? = some v → Value.okWide Tryd.prog W .any base t v := hval0
  have hW' := hW
  obtain ⟨p, q, hA0, hV, rfl, _, _⟩ := hW
  have hA : DataW.TrodAll enc Tryd.prog W 0 (fun _ => true) true Tryd.f5.params.toList args.toList ds p := hA0
  rw [Tryd.params5] at hA hval
  have hAk := hA
  obtain ⟨v0, d0, rfl, rfl, h0⟩ := trodAll_one hA
  obtain ⟨rfl, rfl⟩ := trodVars_none hV
  obtain ⟨l0, hl0⟩ := open_stamps (hval 0 27 v0 rfl rfl) h0
  simp only [List.append_nil] at hW'
  have hlt : ∀ x ∈ p, x.block < W.heap.size := fun x hx => by simpa using hW'.lt x hx
  refine (AE.AnyOrdG.any W hl0).mono fun e W' ⟨he, hb⟩ => ?_
  subst he
  exact ⟨_, rfl, _, _, _, [], p, [], hW', trodAll_mk1 (shut_bool Tryd.underlying4 _), trodAll_below laidOut hb.below _ _ _ _ (by kernel_rfl) hAk hlt, rfl, hb.below.frame _, fun h => by cases h⟩

theorem stampSortsAnyOrder_row : Rows.StampSortsAnyOrderSaid :=
  OpenClaim.holds_of_wide 5 Tryd.f5 rfl rfl rfl rfl rfl rfl rfl ⟨rfl, rfl, rfl, rfl, rfl⟩ rfl rfl rfl rfl rfl (by kernel_rfl) Tryd.func5 (by kernel_rfl)
    (of_decide_eq_true (by kernel_rfl)) (by unfold Func.isWrapper; first | (rw [if_pos (by decide +kernel)]; kernel_rfl) | (rw [if_neg (by decide +kernel)]; exact ⟨rfl, rfl⟩))
    (fun os started H enc _ => stampSortsAnyOrder_lifted os started H enc)

theorem stampSortsAnyOrder_card : Rows.StampSortsAnyOrderCardSaid :=
  Claim7.holds_tied_plain_at .later [] [.data, .data, .data, .data, .sentinel, .sentinel, .pinned] true (true, "206e4100fe37a51171a6ac1df272e5b7a2f5315cf7d40b816d5bc93230599f5a") true stampSortsAnyOrder_row (fun _ h => by cases h) (by kernel_rfl) (fun _ h => by cases h) stampSortsAnyOrder_row_tie rfl ⟨rfl, rfl⟩ (by kernel_rfl) rfl
    (fun f fn hf hfn => by
      obtain rfl : f = 5 := Option.some.inj ((show Tryd.prog.funcNamed "voxel/voxellaw24.StampSortsAnyOrder" = some 5 by kernel_rfl).symm.trans hf) |>.symm
      obtain rfl : fn = Tryd.f5 := (Option.some.inj (Tryd.func5.symm.trans hfn)).symm
      exact ⟨by kernel_rfl, fun j t ht => by
        rw [Tryd.params5] at ht
        have hm := Array.mem_of_getElem? ht
        have hall : (Tryd.f5.params.toList.all fun u => !Tryd.prog.wantsStandIn u) = true := by kernel_rfl
        rw [Tryd.params5] at hall
        have hw := List.all_eq_true.1 hall t (by simpa using hm)
        exact (show Tryd.prog.wantsStandIn t = false by simpa using hw)⟩)
    (by kernel_rfl)
#print axioms stampSortsAnyOrder_card

end Go.Proofs.YtheaofepenbcgaaDoor

/- Parts of the proof, in the order in which they are built: LastG. -/
import Derived.Test.YtheaofepenbcgaaDoorLastCard5

/- StampComesLast: the law for all stamps -/
namespace Go.Proofs.YtheaofepenbcgaaDoor
open Go Go.Proofs Go.RowKit
namespace AE
-- draws: voxel/voxellaw24.StampComesLast: STUCK law.go:88 operands [.slice (some ⟨1, 0, none⟩) 0 0, symv 0]
-- stops at: voxel/voxellaw24.StampComesLast: STUCK law.go:88 operands [.slice (some ⟨1, 0, none⟩) 0 0, symv 0]
-- stops at: voxel/voxellaw24.StampComesLast: STUCK law.go:88 operands [symv 19, .slice (some ⟨1, 0, none⟩) 1 1]
-- stops at: voxel/voxellaw24.StampComesLast: STUCK law.go:88 operands [.slice (some ⟨1, 0, none⟩) 0 0, symv 0]
-- stops at: voxel/voxellaw24.StampComesLast: STUCK law.go:88 operands [symv 19, .slice (some ⟨1, 0, none⟩) 1 1]
-- stops at: voxel/voxellaw24.StampComesLast: STUCK law.go:88 operands [.slice (some ⟨1, 0, none⟩) 0 0, symv 0]
-- stops at: voxel/voxellaw24.StampComesLast: STUCK law.go:88 operands [symv 19, .slice (some ⟨2, 0, none⟩) 1 1]
-- stops at: voxel/voxellaw24.StampComesLast: STUCK law.go:88 operands [.slice (some ⟨1, 0, none⟩) 0 0, symv 0]
-- stops at: voxel/voxellaw24.StampComesLast: STUCK law.go:88 operands [symv 19, .slice (some ⟨1, 0, none⟩) 1 1]
-- stops at: voxel/voxellaw24.StampComesLast: STUCK law.go:88 operands [.slice (some ⟨1, 0, none⟩) 0 0, symv 0]
-- stops at: voxel/voxellaw24.StampComesLast: STUCK law.go:88 operands [symv 19, .slice (some ⟨2, 0, none⟩) 1 1]
-- stops at: voxel/voxellaw24.StampComesLast: STUCK law.go:88 operands [.slice (some ⟨1, 0, none⟩) 0 0, symv 0]
-- stops at: voxel/voxellaw24.StampComesLast: STUCK law.go:88 operands [symv 19, .slice (some ⟨2, 0, none⟩) 1 1]
-- stops at: voxel/voxellaw24.StampComesLast: STUCK law.go:88 operands [.slice (some ⟨1, 0, none⟩) 0 0, symv 0]
-- stops at: voxel/voxellaw24.StampComesLast: STUCK law.go:88 operands [symv 19, .slice (some ⟨1, 0, none⟩) 1 1]
-- stops at: voxel/voxellaw24.StampComesLast: STUCK law.go:88 operands [.slice (some ⟨1, 0, none⟩) 0 0, symv 0]
-- stops at: voxel/voxellaw24.StampComesLast: STUCK law.go:88 operands [symv 19, .slice (some ⟨1, 0, none⟩) 1 1]
-- stops at: voxel/voxellaw24.StampComesLast: STUCK law.go:88 operands [.slice (some ⟨1, 0, none⟩) 0 0, symv 0]
-- stops at: voxel/voxellaw24.StampComesLast: STUCK law.go:88 operands [symv 19, .slice (some ⟨2, 0, none⟩) 1 1]
-- stops at: voxel/voxellaw24.StampComesLast: STUCK law.go:88 operands [.slice (some ⟨1, 0, none⟩) 0 0, symv 0]
-- stops at: voxel/voxellaw24.StampComesLast: STUCK law.go:88 operands [symv 19, .slice (some ⟨1, 0, none⟩) 1 1]
-- stops at: voxel/voxellaw24.StampComesLast: STUCK law.go:88 operands [.slice (some ⟨1, 0, none⟩) 0 0, symv 0]
-- stops at: voxel/voxellaw24.StampComesLast: STUCK law.go:88 operands [symv 19, .slice (some ⟨2, 0, none⟩) 1 1]
-- stops at: voxel/voxellaw24.StampComesLast: STUCK law.go:88 operands [.slice (some ⟨2, 0, none⟩) 0 0, symv 0]
-- stops at: voxel/voxellaw24.StampComesLast: STUCK law.go:88 operands [symv 19, .slice (some ⟨1, 0, none⟩) 1 1]
-- stops at: voxel/voxellaw24.StampComesLast: STUCK law.go:88 operands [.slice (some ⟨1, 0, none⟩) 0 0, symv 0]
-- stops at: voxel/voxellaw24.StampComesLast: STUCK law.go:88 operands [symv 19, .slice (some ⟨1, 0, none⟩) 1 1]
-- stops at: voxel/voxellaw24.StampComesLast: STUCK law.go:88 operands [.slice (some ⟨1, 0, none⟩) 0 0, symv 0]
-- stops at: voxel/voxellaw24.StampComesLast: STUCK law.go:88 operands [symv 19, .slice (some ⟨2, 0, none⟩) 1 1]
-- stops at: voxel/voxellaw24.StampComesLast: STUCK law.go:88 operands [.slice (some ⟨1, 0, none⟩) 0 0, symv 0]
-- stops at: voxel/voxellaw24.StampComesLast: STUCK law.go:88 operands [symv 19, .slice (some ⟨2, 0, none⟩) 1 1]
-- stops at: voxel/voxellaw24.StampComesLast: STUCK law.go:88 operands [.slice (some ⟨1, 0, none⟩) 0 0, symv 0]
-- stops at: voxel/voxellaw24.StampComesLast: STUCK law.go:88 operands [symv 19, .slice (some ⟨1, 0, none⟩) 1 1]
-- stops at: voxel/voxellaw24.StampComesLast: STUCK law.go:88 operands [.slice (some ⟨1, 0, none⟩) 0 0, symv 0]
-- stops at: voxel/voxellaw24.StampComesLast: STUCK law.go:88 operands [symv 19, .slice (some ⟨2, 0, none⟩) 1 1]
-- stops at: voxel/voxellaw24.StampComesLast: STUCK law.go:88 operands [.slice (some ⟨2, 0, none⟩) 0 0, symv 0]
-- stops at: voxel/voxellaw24.StampComesLast: STUCK law.go:88 operands [symv 19, .slice (some ⟨1, 0, none⟩) 1 1]
-- stops at: voxel/voxellaw24.StampComesLast: STUCK law.go:88 operands [.slice (some ⟨2, 0, none⟩) 0 0, symv 0]
-- stops at: voxel/voxellaw24.StampComesLast: STUCK law.go:88 operands [symv 19, .slice (some ⟨1, 0, none⟩) 1 1]
-- stops at: voxel/voxellaw24.StampComesLast: STUCK law.go:88 operands [.slice (some ⟨2, 0, none⟩) 0 0, symv 0]
-- stops at: voxel/voxellaw24.StampComesLast: STUCK law.go:88 operands [symv 19, .slice (some ⟨1, 0, none⟩) 1 1]
namespace LastG
noncomputable def body : Code := (Tryd.f4.body).getD .skip
def N : Nat := 95
noncomputable abbrev at' (N : Nat) (F : List (FOp × Value)) (C : List (FuncId × List Value × Value)) (c : Code) (s : ASt) : Option Stop := evalTo Tryd.prog F C N 1000 10 c s
noncomputable abbrev leave' (N : Nat) (F : List (FOp × Value)) (C : List (FuncId × List Value × Value)) (ks : List KI) (o : Option Stop) : Option Stop := evalLeave Tryd.prog F C N 1000 10 ks o
noncomputable abbrev unr' (N : Nat) (F : List (FOp × Value)) (C : List (FuncId × List Value × Value)) (m : Nat) (o : Option Stop) : Option Stop := evalUnroll Tryd.prog F C N 1000 10 m o
noncomputable abbrev res' (N : Nat) (F : List (FOp × Value)) (C : List (FuncId × List Value × Value)) (ks : List KI) (x : AX) (s : ASt) : Option Stop := evalRes Tryd.prog F C N 1000 10 ks x s
noncomputable abbrev ops' (N : Nat) (F : List (FOp × Value)) (C : List (FuncId × List Value × Value)) (r : List Oper) (ops : Array Oper) (ks : List KI) (s : ASt) : Option Stop := evalOps Tryd.prog F C N 1000 10 r ops ks s
def s0 : ASt := { sl := slots [(2, symv 2), (1, symv 1), (0, symv 0)], ms := [], A := start }
def F0 : List (FOp × Value) := [(.len #[27] 3 (symv 0), symv 3),
    (.bin .gtr 3 (symv 3) (.int .i64 60), .bool true)]
def C0 : List (FuncId × List Value × Value) := [(6, [], .bool true)]
set_option maxRecDepth 100000 in
theorem e0 : endVal Tryd.prog Tryd.f4 (at' 95 F0 C0 body s0) = some (.bool true) := by kernel_rfl
def F1 : List (FOp × Value) := [(.len #[27] 3 (symv 0), symv 3),
    (.bin .gtr 3 (symv 3) (.int .i64 60), .bool false),
    (.bin .neq 28 (symv 8) (.int .i64 0), .bool false)]
def C1 : List (FuncId × List Value × Value) := [(6, [], .bool true),
    (8, [symv 0, symv 1, symv 2], .tuple ⟨[.agg ⟨[symv 4, symv 5, symv 6, symv 7]⟩, symv 8]⟩)]
-- loop 0: slots [(25, .bool false), (24, symv 8), (23, symv 8), (22, .agg ⟨[symv 4, symv 5, symv 6, symv 7]⟩), (21, .tuple ⟨[.agg ⟨[symv 4, symv 5, symv 6, symv 7]⟩, symv 8]⟩), (20, symv 2), (19, symv 1), (18, symv 0), (17, .tuple ⟨[.agg ⟨[symv 4, symv 5, symv 6, symv 7]⟩, symv 8]⟩), (15, .bool false), (14, symv 3), (13, symv 0), (12, .bool true), (10, .int .i64 0), (9, symv 8), (8, .pointer (some ⟨0, 0, none⟩)), (7, .bool true), (6, .bool false), (2, symv 2), (1, symv 1), (0, symv 0)] blocks 1 ms [] [symv 4, symv 5, symv 6, symv 7]
noncomputable def bks0 : List Bk := [⟨.cells [symv 4, symv 5, symv 6, symv 7], 23, 0⟩]
def head0 : Sl := slots [(10, symv 9), (8, .pointer (some ⟨0, 0, none⟩)), (7, .bool true), (2, symv 2), (1, symv 1), (0, symv 0)]
noncomputable abbrev at0 := at' 95 F1 C1 body s0
set_option maxRecDepth 100000 in
theorem e1 : headObs head0 bks0 at0 = some [(symv 0, symv 0), (symv 1, symv 1), (symv 2, symv 2), (.int .i64 0, symv 9), (symv 4, symv 4), (symv 5, symv 5), (symv 6, symv 6), (symv 7, symv 7)] := by kernel_rfl
def F2 : List (FOp × Value) := [(.len #[27] 3 (symv 0), symv 3),
    (.bin .lss 3 (symv 9) (symv 3), .bool true),
    (.ixa 27 (symv 0) (symv 9), symv 10),
    (.ld 23 (symv 10), .agg ⟨[symv 11, symv 12, symv 13, symv 14]⟩),
    (.bin .geq 3 (symv 15) (.int .i64 0), .bool true)]
def C2 : List (FuncId × List Value × Value) := [(7, [.agg ⟨[symv 11, symv 12, symv 13, symv 14]⟩, .agg ⟨[symv 4, symv 5, symv 6, symv 7]⟩], symv 15)]
def F3 : List (FOp × Value) := []
def C3 : List (FuncId × List Value × Value) := []
set_option maxRecDepth 100000 in
theorem e2 : endVal Tryd.prog Tryd.f4 (leave' 95 F3 C3 (stopKs at0) (at' 95 F2 C2 (stopCode at0) (headSt head0 bks0))) = some (.bool false) := by kernel_rfl
def F4 : List (FOp × Value) := [(.len #[27] 3 (symv 0), symv 3),
    (.bin .lss 3 (symv 9) (symv 3), .bool true),
    (.ixa 27 (symv 0) (symv 9), symv 10),
    (.ld 23 (symv 10), .agg ⟨[symv 11, symv 12, symv 13, symv 14]⟩),
    (.bin .geq 3 (symv 15) (.int .i64 0), .bool false),
    (.fa 23 (symv 10) 2, symv 16),
    (.ld 3 (symv 16), symv 13),
    (.bin .eql 3 (symv 13) (symv 6), .bool true),
    (.fa 23 (symv 10) 3, symv 17),
    (.ld 3 (symv 17), symv 14),
    (.bin .geq 3 (symv 14) (symv 7), .bool true)]
def C4 : List (FuncId × List Value × Value) := [(7, [.agg ⟨[symv 11, symv 12, symv 13, symv 14]⟩, .agg ⟨[symv 4, symv 5, symv 6, symv 7]⟩], symv 15)]
set_option maxRecDepth 100000 in
theorem e3 : endVal Tryd.prog Tryd.f4 (leave' 95 F3 C3 (stopKs at0) (at' 95 F4 C4 (stopCode at0) (headSt head0 bks0))) = some (.bool false) := by kernel_rfl
def F5 : List (FOp × Value) := [(.len #[27] 3 (symv 0), symv 3),
    (.bin .lss 3 (symv 9) (symv 3), .bool true),
    (.ixa 27 (symv 0) (symv 9), symv 10),
    (.ld 23 (symv 10), .agg ⟨[symv 11, symv 12, symv 13, symv 14]⟩),
    (.bin .geq 3 (symv 15) (.int .i64 0), .bool false),
    (.fa 23 (symv 10) 2, symv 16),
    (.ld 3 (symv 16), symv 13),
    (.bin .eql 3 (symv 13) (symv 6), .bool true),
    (.fa 23 (symv 10) 3, symv 17),
    (.ld 3 (symv 17), symv 14),
    (.bin .geq 3 (symv 14) (symv 7), .bool false),
    (.bin .add 3 (symv 9) (.int .i64 1), symv 18)]
def C5 : List (FuncId × List Value × Value) := [(7, [.agg ⟨[symv 11, symv 12, symv 13, symv 14]⟩, .agg ⟨[symv 4, symv 5, symv 6, symv 7]⟩], symv 15)]
set_option maxRecDepth 100000 in
theorem e4 : backObs head0 bks0 (at' 95 F5 C5 (stopCode at0) (headSt head0 bks0)) = some [(symv 0, symv 0), (symv 1, symv 1), (symv 2, symv 2), (symv 18, symv 9), (symv 4, symv 4), (symv 5, symv 5), (symv 6, symv 6), (symv 7, symv 7)] := by kernel_rfl
def F6 : List (FOp × Value) := [(.len #[27] 3 (symv 0), symv 3),
    (.bin .lss 3 (symv 9) (symv 3), .bool true),
    (.ixa 27 (symv 0) (symv 9), symv 10),
    (.ld 23 (symv 10), .agg ⟨[symv 11, symv 12, symv 13, symv 14]⟩),
    (.bin .geq 3 (symv 15) (.int .i64 0), .bool false),
    (.fa 23 (symv 10) 2, symv 16),
    (.ld 3 (symv 16), symv 13),
    (.bin .eql 3 (symv 13) (symv 6), .bool false),
    (.bin .add 3 (symv 9) (.int .i64 1), symv 18)]
def C6 : List (FuncId × List Value × Value) := [(7, [.agg ⟨[symv 11, symv 12, symv 13, symv 14]⟩, .agg ⟨[symv 4, symv 5, symv 6, symv 7]⟩], symv 15)]
set_option maxRecDepth 100000 in
theorem e5 : backObs head0 bks0 (at' 95 F6 C6 (stopCode at0) (headSt head0 bks0)) = some [(symv 0, symv 0), (symv 1, symv 1), (symv 2, symv 2), (symv 18, symv 9), (symv 4, symv 4), (symv 5, symv 5), (symv 6, symv 6), (symv 7, symv 7)] := by kernel_rfl
def F7 : List (FOp × Value) := [(.len #[27] 3 (symv 0), symv 3),
    (.bin .lss 3 (symv 9) (symv 3), .bool false)]
def C7 : List (FuncId × List Value × Value) := []
noncomputable abbrev dr0 := leave' 95 F3 C3 (stopKs at0) (at' 95 F7 C7 (stopCode at0) (headSt head0 bks0))
set_option maxRecDepth 100000 in
theorem e6 : drawOk dr0 20 = true := by kernel_rfl
set_option maxRecDepth 100000 in
theorem e7 : appOf 27 (ops' 95 F3 C3 (drawList dr0 0) (drawOps dr0) (stopKs dr0) (stopSt dr0)) = some (.slice (some ⟨1, 0, none⟩) 0 0, symv 0) := by kernel_rfl
noncomputable abbrev so0 := ops' 95 F3 C3 (drawList dr0 0) (drawOps dr0) (stopKs dr0) (stopSt dr0)
noncomputable def bk0 : List Bk := [⟨.cells [symv 4, symv 5, symv 6, symv 7], 23, 0⟩]
def hd0 : Sl := slots [(8, .pointer (some ⟨0, 0, none⟩)), (7, .bool true), (2, symv 2), (1, symv 1), (0, symv 0)]
def hp0 : Sl := match aput 95 hd0 (some 67) (symv 19) with | some s => s | none => .nil
set_option maxRecDepth 100000 in
theorem e8 : trAll (stopSt so0) hd0 bk0 = some [(symv 0, symv 0), (symv 1, symv 1), (symv 2, symv 2), (symv 4, symv 4), (symv 5, symv 5), (symv 6, symv 6), (symv 7, symv 7)] := by kernel_rfl
set_option maxRecDepth 100000 in
theorem e9 : aput 95 hd0 (stopDst so0) (symv 19) = some hp0 := by kernel_rfl
set_option maxRecDepth 100000 in
theorem e10 : cellsAt (stopSt (ops' 95 F3 C3 (stopRest so0) (stopOps so0) (stopKs so0) { sl := hp0, ms := [], A := mkAS bk0 })).A 4 (.slice (some ⟨1, 0, none⟩) 1 1) = some [symv 4, symv 5, symv 6, symv 7] := by kernel_rfl
set_option maxRecDepth 100000 in
theorem e11 : appOf 27 (ops' 95 F3 C3 (stopRest so0) (stopOps so0) (stopKs so0) { sl := hp0, ms := [], A := mkAS bk0 }) = some (symv 19, .slice (some ⟨1, 0, none⟩) 1 1) := by kernel_rfl
noncomputable abbrev so1 := ops' 95 F3 C3 (stopRest so0) (stopOps so0) (stopKs so0) { sl := hp0, ms := [], A := mkAS bk0 }
noncomputable def bk1 : List Bk := [⟨.cells [symv 4, symv 5, symv 6, symv 7], 23, 0⟩]
def hd1 : Sl := slots [(8, .pointer (some ⟨0, 0, none⟩)), (7, .bool true), (2, symv 2), (1, symv 1), (0, symv 0)]
def hp1 : Sl := match aput 95 hd1 (some 70) (symv 20) with | some s => s | none => .nil
set_option maxRecDepth 100000 in
theorem e12 : trAll (stopSt so1) hd1 bk1 = some [(symv 0, symv 0), (symv 1, symv 1), (symv 2, symv 2), (symv 4, symv 4), (symv 5, symv 5), (symv 6, symv 6), (symv 7, symv 7)] := by kernel_rfl
set_option maxRecDepth 100000 in
theorem e13 : aput 95 hd1 (stopDst so1) (symv 20) = some hp1 := by kernel_rfl
def F8 : List (FOp × Value) := [(.bin .eql 3 (symv 6) (symv 1), .bool true),
    (.bin .eql 3 (symv 4) (symv 2), .bool true)]
def C8 : List (FuncId × List Value × Value) := [(9, [.agg ⟨[symv 4, symv 5, symv 6, symv 7]⟩], .bool true),
    (10, [symv 20], .bool true),
    (10, [symv 0], .bool true)]
set_option maxRecDepth 100000 in
theorem e14 : endVal Tryd.prog Tryd.f4 (ops' 95 F8 C8 (stopRest so1) (stopOps so1) (stopKs so1) { sl := hp1, ms := [], A := mkAS bk1 }) = some (.bool true) := by kernel_rfl
def F9 : List (FOp × Value) := [(.bin .eql 3 (symv 6) (symv 1), .bool true),
    (.bin .eql 3 (symv 4) (symv 2), .bool true)]
def C9 : List (FuncId × List Value × Value) := [(9, [.agg ⟨[symv 4, symv 5, symv 6, symv 7]⟩], .bool true),
    (10, [symv 20], .bool true),
    (10, [symv 0], .bool false)]
set_option maxRecDepth 100000 in
theorem e15 : endVal Tryd.prog Tryd.f4 (ops' 95 F9 C9 (stopRest so1) (stopOps so1) (stopKs so1) { sl := hp1, ms := [], A := mkAS bk1 }) = some (.bool false) := by kernel_rfl
def F10 : List (FOp × Value) := [(.bin .eql 3 (symv 6) (symv 1), .bool true),
    (.bin .eql 3 (symv 4) (symv 2), .bool true)]
def C10 : List (FuncId × List Value × Value) := [(9, [.agg ⟨[symv 4, symv 5, symv 6, symv 7]⟩], .bool true),
    (10, [symv 20], .bool false),
    (10, [symv 0], .bool true)]
set_option maxRecDepth 100000 in
theorem e16 : endVal Tryd.prog Tryd.f4 (ops' 95 F10 C10 (stopRest so1) (stopOps so1) (stopKs so1) { sl := hp1, ms := [], A := mkAS bk1 }) = some (.bool false) := by kernel_rfl
def F11 : List (FOp × Value) := [(.bin .eql 3 (symv 6) (symv 1), .bool true),
    (.bin .eql 3 (symv 4) (symv 2), .bool true)]
def C11 : List (FuncId × List Value × Value) := [(9, [.agg ⟨[symv 4, symv 5, symv 6, symv 7]⟩], .bool true),
    (10, [symv 20], .bool false),
    (10, [symv 0], .bool false)]
set_option maxRecDepth 100000 in
theorem e17 : endVal Tryd.prog Tryd.f4 (ops' 95 F11 C11 (stopRest so1) (stopOps so1) (stopKs so1) { sl := hp1, ms := [], A := mkAS bk1 }) = some (.bool true) := by kernel_rfl
def F12 : List (FOp × Value) := [(.bin .eql 3 (symv 6) (symv 1), .bool true),
    (.bin .eql 3 (symv 4) (symv 2), .bool false)]
def C12 : List (FuncId × List Value × Value) := [(9, [.agg ⟨[symv 4, symv 5, symv 6, symv 7]⟩], .bool true)]
set_option maxRecDepth 100000 in
theorem e18 : endVal Tryd.prog Tryd.f4 (ops' 95 F12 C12 (stopRest so1) (stopOps so1) (stopKs so1) { sl := hp1, ms := [], A := mkAS bk1 }) = some (.bool false) := by kernel_rfl
def F13 : List (FOp × Value) := [(.bin .eql 3 (symv 6) (symv 1), .bool false)]
def C13 : List (FuncId × List Value × Value) := [(9, [.agg ⟨[symv 4, symv 5, symv 6, symv 7]⟩], .bool true)]
set_option maxRecDepth 100000 in
theorem e19 : endVal Tryd.prog Tryd.f4 (ops' 95 F13 C13 (stopRest so1) (stopOps so1) (stopKs so1) { sl := hp1, ms := [], A := mkAS bk1 }) = some (.bool false) := by kernel_rfl
def F14 : List (FOp × Value) := []
def C14 : List (FuncId × List Value × Value) := [(9, [.agg ⟨[symv 4, symv 5, symv 6, symv 7]⟩], .bool false)]
set_option maxRecDepth 100000 in
theorem e20 : endVal Tryd.prog Tryd.f4 (ops' 95 F14 C14 (stopRest so1) (stopOps so1) (stopKs so1) { sl := hp1, ms := [], A := mkAS bk1 }) = some (.bool false) := by kernel_rfl
set_option maxRecDepth 100000 in
theorem e21 : appOf 27 (ops' 95 F3 C3 (drawList dr0 1) (drawOps dr0) (stopKs dr0) (stopSt dr0)) = some (.slice (some ⟨1, 0, none⟩) 0 0, symv 0) := by kernel_rfl
noncomputable abbrev so2 := ops' 95 F3 C3 (drawList dr0 1) (drawOps dr0) (stopKs dr0) (stopSt dr0)
noncomputable def bk2 : List Bk := [⟨.cells [symv 4, symv 5, symv 6, symv 7], 23, 0⟩]
def hd2 : Sl := slots [(68, .agg ⟨[symv 4, symv 5, symv 6, symv 7]⟩), (8, .pointer (some ⟨0, 0, none⟩)), (7, .bool true), (2, symv 2), (1, symv 1), (0, symv 0)]
def hp2 : Sl := match aput 95 hd2 (some 67) (symv 19) with | some s => s | none => .nil
set_option maxRecDepth 100000 in
theorem e22 : trAll (stopSt so2) hd2 bk2 = some [(symv 0, symv 0), (symv 1, symv 1), (symv 2, symv 2), (symv 4, symv 4), (symv 5, symv 5), (symv 6, symv 6), (symv 7, symv 7), (symv 4, symv 4), (symv 5, symv 5), (symv 6, symv 6), (symv 7, symv 7)] := by kernel_rfl
set_option maxRecDepth 100000 in
theorem e23 : aput 95 hd2 (stopDst so2) (symv 19) = some hp2 := by kernel_rfl
set_option maxRecDepth 100000 in
theorem e24 : cellsAt (stopSt (ops' 95 F3 C3 (stopRest so2) (stopOps so2) (stopKs so2) { sl := hp2, ms := [], A := mkAS bk2 })).A 4 (.slice (some ⟨1, 0, none⟩) 1 1) = some [symv 4, symv 5, symv 6, symv 7] := by kernel_rfl
set_option maxRecDepth 100000 in
theorem e25 : appOf 27 (ops' 95 F3 C3 (stopRest so2) (stopOps so2) (stopKs so2) { sl := hp2, ms := [], A := mkAS bk2 }) = some (symv 19, .slice (some ⟨1, 0, none⟩) 1 1) := by kernel_rfl
noncomputable abbrev so3 := ops' 95 F3 C3 (stopRest so2) (stopOps so2) (stopKs so2) { sl := hp2, ms := [], A := mkAS bk2 }
noncomputable def bk3 : List Bk := [⟨.cells [symv 4, symv 5, symv 6, symv 7], 23, 0⟩]
def hd3 : Sl := slots [(8, .pointer (some ⟨0, 0, none⟩)), (7, .bool true), (2, symv 2), (1, symv 1), (0, symv 0)]
def hp3 : Sl := match aput 95 hd3 (some 70) (symv 20) with | some s => s | none => .nil
set_option maxRecDepth 100000 in
theorem e26 : trAll (stopSt so3) hd3 bk3 = some [(symv 0, symv 0), (symv 1, symv 1), (symv 2, symv 2), (symv 4, symv 4), (symv 5, symv 5), (symv 6, symv 6), (symv 7, symv 7)] := by kernel_rfl
set_option maxRecDepth 100000 in
theorem e27 : aput 95 hd3 (stopDst so3) (symv 20) = some hp3 := by kernel_rfl
set_option maxRecDepth 100000 in
theorem e28 : endVal Tryd.prog Tryd.f4 (ops' 95 F8 C8 (stopRest so3) (stopOps so3) (stopKs so3) { sl := hp3, ms := [], A := mkAS bk3 }) = some (.bool true) := by kernel_rfl
set_option maxRecDepth 100000 in
theorem e29 : endVal Tryd.prog Tryd.f4 (ops' 95 F9 C9 (stopRest so3) (stopOps so3) (stopKs so3) { sl := hp3, ms := [], A := mkAS bk3 }) = some (.bool false) := by kernel_rfl
set_option maxRecDepth 100000 in
theorem e30 : endVal Tryd.prog Tryd.f4 (ops' 95 F10 C10 (stopRest so3) (stopOps so3) (stopKs so3) { sl := hp3, ms := [], A := mkAS bk3 }) = some (.bool false) := by kernel_rfl
set_option maxRecDepth 100000 in
theorem e31 : endVal Tryd.prog Tryd.f4 (ops' 95 F11 C11 (stopRest so3) (stopOps so3) (stopKs so3) { sl := hp3, ms := [], A := mkAS bk3 }) = some (.bool true) := by kernel_rfl
set_option maxRecDepth 100000 in
theorem e32 : endVal Tryd.prog Tryd.f4 (ops' 95 F12 C12 (stopRest so3) (stopOps so3) (stopKs so3) { sl := hp3, ms := [], A := mkAS bk3 }) = some (.bool false) := by kernel_rfl
set_option maxRecDepth 100000 in
theorem e33 : endVal Tryd.prog Tryd.f4 (ops' 95 F13 C13 (stopRest so3) (stopOps so3) (stopKs so3) { sl := hp3, ms := [], A := mkAS bk3 }) = some (.bool false) := by kernel_rfl
set_option maxRecDepth 100000 in
theorem e34 : endVal Tryd.prog Tryd.f4 (ops' 95 F14 C14 (stopRest so3) (stopOps so3) (stopKs so3) { sl := hp3, ms := [], A := mkAS bk3 }) = some (.bool false) := by kernel_rfl
set_option maxRecDepth 100000 in
theorem e35 : appOf 27 (ops' 95 F3 C3 (drawList dr0 2) (drawOps dr0) (stopKs dr0) (stopSt dr0)) = some (.slice (some ⟨1, 0, none⟩) 0 0, symv 0) := by kernel_rfl
noncomputable abbrev so4 := ops' 95 F3 C3 (drawList dr0 2) (drawOps dr0) (stopKs dr0) (stopSt dr0)
noncomputable def bk4 : List Bk := [⟨.cells [symv 4, symv 5, symv 6, symv 7], 23, 0⟩, ⟨.cells [], 23, 0⟩, ⟨.cells [symv 4, symv 5, symv 6, symv 7], 23, 0⟩]
def hd4 : Sl := slots [(69, .slice (some ⟨2, 0, none⟩) 1 1), (8, .pointer (some ⟨0, 0, none⟩)), (7, .bool true), (2, symv 2), (1, symv 1), (0, symv 0)]
def hp4 : Sl := match aput 95 hd4 (some 67) (symv 19) with | some s => s | none => .nil
set_option maxRecDepth 100000 in
theorem e36 : trAll (stopSt so4) hd4 bk4 = some [(symv 0, symv 0), (symv 1, symv 1), (symv 2, symv 2), (symv 4, symv 4), (symv 5, symv 5), (symv 6, symv 6), (symv 7, symv 7), (symv 4, symv 4), (symv 5, symv 5), (symv 6, symv 6), (symv 7, symv 7)] := by kernel_rfl
set_option maxRecDepth 100000 in
theorem e37 : aput 95 hd4 (stopDst so4) (symv 19) = some hp4 := by kernel_rfl
set_option maxRecDepth 100000 in
theorem e38 : cellsAt (stopSt (ops' 95 F3 C3 (stopRest so4) (stopOps so4) (stopKs so4) { sl := hp4, ms := [], A := mkAS bk4 })).A 4 (.slice (some ⟨2, 0, none⟩) 1 1) = some [symv 4, symv 5, symv 6, symv 7] := by kernel_rfl
set_option maxRecDepth 100000 in
theorem e39 : appOf 27 (ops' 95 F3 C3 (stopRest so4) (stopOps so4) (stopKs so4) { sl := hp4, ms := [], A := mkAS bk4 }) = some (symv 19, .slice (some ⟨2, 0, none⟩) 1 1) := by kernel_rfl
noncomputable abbrev so5 := ops' 95 F3 C3 (stopRest so4) (stopOps so4) (stopKs so4) { sl := hp4, ms := [], A := mkAS bk4 }
noncomputable def bk5 : List Bk := [⟨.cells [symv 4, symv 5, symv 6, symv 7], 23, 0⟩]
def hd5 : Sl := slots [(8, .pointer (some ⟨0, 0, none⟩)), (7, .bool true), (2, symv 2), (1, symv 1), (0, symv 0)]
def hp5 : Sl := match aput 95 hd5 (some 70) (symv 20) with | some s => s | none => .nil
set_option maxRecDepth 100000 in
theorem e40 : trAll (stopSt so5) hd5 bk5 = some [(symv 0, symv 0), (symv 1, symv 1), (symv 2, symv 2), (symv 4, symv 4), (symv 5, symv 5), (symv 6, symv 6), (symv 7, symv 7)] := by kernel_rfl
set_option maxRecDepth 100000 in
theorem e41 : aput 95 hd5 (stopDst so5) (symv 20) = some hp5 := by kernel_rfl
set_option maxRecDepth 100000 in
theorem e42 : endVal Tryd.prog Tryd.f4 (ops' 95 F8 C8 (stopRest so5) (stopOps so5) (stopKs so5) { sl := hp5, ms := [], A := mkAS bk5 }) = some (.bool true) := by kernel_rfl
set_option maxRecDepth 100000 in
theorem e43 : endVal Tryd.prog Tryd.f4 (ops' 95 F9 C9 (stopRest so5) (stopOps so5) (stopKs so5) { sl := hp5, ms := [], A := mkAS bk5 }) = some (.bool false) := by kernel_rfl
set_option maxRecDepth 100000 in
theorem e44 : endVal Tryd.prog Tryd.f4 (ops' 95 F10 C10 (stopRest so5) (stopOps so5) (stopKs so5) { sl := hp5, ms := [], A := mkAS bk5 }) = some (.bool false) := by kernel_rfl
set_option maxRecDepth 100000 in
theorem e45 : endVal Tryd.prog Tryd.f4 (ops' 95 F11 C11 (stopRest so5) (stopOps so5) (stopKs so5) { sl := hp5, ms := [], A := mkAS bk5 }) = some (.bool true) := by kernel_rfl
set_option maxRecDepth 100000 in
theorem e46 : endVal Tryd.prog Tryd.f4 (ops' 95 F12 C12 (stopRest so5) (stopOps so5) (stopKs so5) { sl := hp5, ms := [], A := mkAS bk5 }) = some (.bool false) := by kernel_rfl
set_option maxRecDepth 100000 in
theorem e47 : endVal Tryd.prog Tryd.f4 (ops' 95 F13 C13 (stopRest so5) (stopOps so5) (stopKs so5) { sl := hp5, ms := [], A := mkAS bk5 }) = some (.bool false) := by kernel_rfl
set_option maxRecDepth 100000 in
theorem e48 : endVal Tryd.prog Tryd.f4 (ops' 95 F14 C14 (stopRest so5) (stopOps so5) (stopKs so5) { sl := hp5, ms := [], A := mkAS bk5 }) = some (.bool false) := by kernel_rfl
set_option maxRecDepth 100000 in
theorem e49 : appOf 27 (ops' 95 F3 C3 (drawList dr0 3) (drawOps dr0) (stopKs dr0) (stopSt dr0)) = some (.slice (some ⟨1, 0, none⟩) 0 0, symv 0) := by kernel_rfl
noncomputable abbrev so6 := ops' 95 F3 C3 (drawList dr0 3) (drawOps dr0) (stopKs dr0) (stopSt dr0)
noncomputable def bk6 : List Bk := [⟨.cells [symv 4, symv 5, symv 6, symv 7], 23, 0⟩]
def hd6 : Sl := slots [(68, .agg ⟨[symv 4, symv 5, symv 6, symv 7]⟩), (8, .pointer (some ⟨0, 0, none⟩)), (7, .bool true), (2, symv 2), (1, symv 1), (0, symv 0)]
def hp6 : Sl := match aput 95 hd6 (some 67) (symv 19) with | some s => s | none => .nil
set_option maxRecDepth 100000 in
theorem e50 : trAll (stopSt so6) hd6 bk6 = some [(symv 0, symv 0), (symv 1, symv 1), (symv 2, symv 2), (symv 4, symv 4), (symv 5, symv 5), (symv 6, symv 6), (symv 7, symv 7), (symv 4, symv 4), (symv 5, symv 5), (symv 6, symv 6), (symv 7, symv 7)] := by kernel_rfl
set_option maxRecDepth 100000 in
theorem e51 : aput 95 hd6 (stopDst so6) (symv 19) = some hp6 := by kernel_rfl
set_option maxRecDepth 100000 in
theorem e52 : cellsAt (stopSt (ops' 95 F3 C3 (stopRest so6) (stopOps so6) (stopKs so6) { sl := hp6, ms := [], A := mkAS bk6 })).A 4 (.slice (some ⟨1, 0, none⟩) 1 1) = some [symv 4, symv 5, symv 6, symv 7] := by kernel_rfl
set_option maxRecDepth 100000 in
theorem e53 : appOf 27 (ops' 95 F3 C3 (stopRest so6) (stopOps so6) (stopKs so6) { sl := hp6, ms := [], A := mkAS bk6 }) = some (symv 19, .slice (some ⟨1, 0, none⟩) 1 1) := by kernel_rfl
noncomputable abbrev so7 := ops' 95 F3 C3 (stopRest so6) (stopOps so6) (stopKs so6) { sl := hp6, ms := [], A := mkAS bk6 }
noncomputable def bk7 : List Bk := [⟨.cells [symv 4, symv 5, symv 6, symv 7], 23, 0⟩]
def hd7 : Sl := slots [(8, .pointer (some ⟨0, 0, none⟩)), (7, .bool true), (2, symv 2), (1, symv 1), (0, symv 0)]
def hp7 : Sl := match aput 95 hd7 (some 70) (symv 20) with | some s => s | none => .nil
set_option maxRecDepth 100000 in
theorem e54 : trAll (stopSt so7) hd7 bk7 = some [(symv 0, symv 0), (symv 1, symv 1), (symv 2, symv 2), (symv 4, symv 4), (symv 5, symv 5), (symv 6, symv 6), (symv 7, symv 7)] := by kernel_rfl
set_option maxRecDepth 100000 in
theorem e55 : aput 95 hd7 (stopDst so7) (symv 20) = some hp7 := by kernel_rfl
set_option maxRecDepth 100000 in
theorem e56 : endVal Tryd.prog Tryd.f4 (ops' 95 F8 C8 (stopRest so7) (stopOps so7) (stopKs so7) { sl := hp7, ms := [], A := mkAS bk7 }) = some (.bool true) := by kernel_rfl
set_option maxRecDepth 100000 in
theorem e57 : endVal Tryd.prog Tryd.f4 (ops' 95 F9 C9 (stopRest so7) (stopOps so7) (stopKs so7) { sl := hp7, ms := [], A := mkAS bk7 }) = some (.bool false) := by kernel_rfl
set_option maxRecDepth 100000 in
theorem e58 : endVal Tryd.prog Tryd.f4 (ops' 95 F10 C10 (stopRest so7) (stopOps so7) (stopKs so7) { sl := hp7, ms := [], A := mkAS bk7 }) = some (.bool false) := by kernel_rfl
set_option maxRecDepth 100000 in
theorem e59 : endVal Tryd.prog Tryd.f4 (ops' 95 F11 C11 (stopRest so7) (stopOps so7) (stopKs so7) { sl := hp7, ms := [], A := mkAS bk7 }) = some (.bool true) := by kernel_rfl
set_option maxRecDepth 100000 in
theorem e60 : endVal Tryd.prog Tryd.f4 (ops' 95 F12 C12 (stopRest so7) (stopOps so7) (stopKs so7) { sl := hp7, ms := [], A := mkAS bk7 }) = some (.bool false) := by kernel_rfl
set_option maxRecDepth 100000 in
theorem e61 : endVal Tryd.prog Tryd.f4 (ops' 95 F13 C13 (stopRest so7) (stopOps so7) (stopKs so7) { sl := hp7, ms := [], A := mkAS bk7 }) = some (.bool false) := by kernel_rfl
set_option maxRecDepth 100000 in
theorem e62 : endVal Tryd.prog Tryd.f4 (ops' 95 F14 C14 (stopRest so7) (stopOps so7) (stopKs so7) { sl := hp7, ms := [], A := mkAS bk7 }) = some (.bool false) := by kernel_rfl
set_option maxRecDepth 100000 in
theorem e63 : appOf 27 (ops' 95 F3 C3 (drawList dr0 4) (drawOps dr0) (stopKs dr0) (stopSt dr0)) = some (.slice (some ⟨1, 0, none⟩) 0 0, symv 0) := by kernel_rfl
noncomputable abbrev so8 := ops' 95 F3 C3 (drawList dr0 4) (drawOps dr0) (stopKs dr0) (stopSt dr0)
noncomputable def bk8 : List Bk := [⟨.cells [symv 4, symv 5, symv 6, symv 7], 23, 0⟩, ⟨.cells [], 23, 0⟩, ⟨.cells [symv 4, symv 5, symv 6, symv 7], 23, 0⟩]
def hd8 : Sl := slots [(69, .slice (some ⟨2, 0, none⟩) 1 1), (8, .pointer (some ⟨0, 0, none⟩)), (7, .bool true), (2, symv 2), (1, symv 1), (0, symv 0)]
def hp8 : Sl := match aput 95 hd8 (some 67) (symv 19) with | some s => s | none => .nil
set_option maxRecDepth 100000 in
theorem e64 : trAll (stopSt so8) hd8 bk8 = some [(symv 0, symv 0), (symv 1, symv 1), (symv 2, symv 2), (symv 4, symv 4), (symv 5, symv 5), (symv 6, symv 6), (symv 7, symv 7), (symv 4, symv 4), (symv 5, symv 5), (symv 6, symv 6), (symv 7, symv 7)] := by kernel_rfl
set_option maxRecDepth 100000 in
theorem e65 : aput 95 hd8 (stopDst so8) (symv 19) = some hp8 := by kernel_rfl
set_option maxRecDepth 100000 in
theorem e66 : cellsAt (stopSt (ops' 95 F3 C3 (stopRest so8) (stopOps so8) (stopKs so8) { sl := hp8, ms := [], A := mkAS bk8 })).A 4 (.slice (some ⟨2, 0, none⟩) 1 1) = some [symv 4, symv 5, symv 6, symv 7] := by kernel_rfl
set_option maxRecDepth 100000 in
theorem e67 : appOf 27 (ops' 95 F3 C3 (stopRest so8) (stopOps so8) (stopKs so8) { sl := hp8, ms := [], A := mkAS bk8 }) = some (symv 19, .slice (some ⟨2, 0, none⟩) 1 1) := by kernel_rfl
noncomputable abbrev so9 := ops' 95 F3 C3 (stopRest so8) (stopOps so8) (stopKs so8) { sl := hp8, ms := [], A := mkAS bk8 }
noncomputable def bk9 : List Bk := [⟨.cells [symv 4, symv 5, symv 6, symv 7], 23, 0⟩]
def hd9 : Sl := slots [(8, .pointer (some ⟨0, 0, none⟩)), (7, .bool true), (2, symv 2), (1, symv 1), (0, symv 0)]
def hp9 : Sl := match aput 95 hd9 (some 70) (symv 20) with | some s => s | none => .nil
set_option maxRecDepth 100000 in
theorem e68 : trAll (stopSt so9) hd9 bk9 = some [(symv 0, symv 0), (symv 1, symv 1), (symv 2, symv 2), (symv 4, symv 4), (symv 5, symv 5), (symv 6, symv 6), (symv 7, symv 7)] := by kernel_rfl
set_option maxRecDepth 100000 in
theorem e69 : aput 95 hd9 (stopDst so9) (symv 20) = some hp9 := by kernel_rfl
set_option maxRecDepth 100000 in
theorem e70 : endVal Tryd.prog Tryd.f4 (ops' 95 F8 C8 (stopRest so9) (stopOps so9) (stopKs so9) { sl := hp9, ms := [], A := mkAS bk9 }) = some (.bool true) := by kernel_rfl
set_option maxRecDepth 100000 in
theorem e71 : endVal Tryd.prog Tryd.f4 (ops' 95 F9 C9 (stopRest so9) (stopOps so9) (stopKs so9) { sl := hp9, ms := [], A := mkAS bk9 }) = some (.bool false) := by kernel_rfl
set_option maxRecDepth 100000 in
theorem e72 : endVal Tryd.prog Tryd.f4 (ops' 95 F10 C10 (stopRest so9) (stopOps so9) (stopKs so9) { sl := hp9, ms := [], A := mkAS bk9 }) = some (.bool false) := by kernel_rfl
set_option maxRecDepth 100000 in
theorem e73 : endVal Tryd.prog Tryd.f4 (ops' 95 F11 C11 (stopRest so9) (stopOps so9) (stopKs so9) { sl := hp9, ms := [], A := mkAS bk9 }) = some (.bool true) := by kernel_rfl
set_option maxRecDepth 100000 in
theorem e74 : endVal Tryd.prog Tryd.f4 (ops' 95 F12 C12 (stopRest so9) (stopOps so9) (stopKs so9) { sl := hp9, ms := [], A := mkAS bk9 }) = some (.bool false) := by kernel_rfl
set_option maxRecDepth 100000 in
theorem e75 : endVal Tryd.prog Tryd.f4 (ops' 95 F13 C13 (stopRest so9) (stopOps so9) (stopKs so9) { sl := hp9, ms := [], A := mkAS bk9 }) = some (.bool false) := by kernel_rfl
set_option maxRecDepth 100000 in
theorem e76 : endVal Tryd.prog Tryd.f4 (ops' 95 F14 C14 (stopRest so9) (stopOps so9) (stopKs so9) { sl := hp9, ms := [], A := mkAS bk9 }) = some (.bool false) := by kernel_rfl
set_option maxRecDepth 100000 in
theorem e77 : appOf 27 (ops' 95 F3 C3 (drawList dr0 5) (drawOps dr0) (stopKs dr0) (stopSt dr0)) = some (.slice (some ⟨1, 0, none⟩) 0 0, symv 0) := by kernel_rfl
noncomputable abbrev so10 := ops' 95 F3 C3 (drawList dr0 5) (drawOps dr0) (stopKs dr0) (stopSt dr0)
noncomputable def bk10 : List Bk := [⟨.cells [symv 4, symv 5, symv 6, symv 7], 23, 0⟩, ⟨.cells [], 23, 0⟩, ⟨.cells [symv 4, symv 5, symv 6, symv 7], 23, 0⟩]
def hd10 : Sl := slots [(69, .slice (some ⟨2, 0, none⟩) 1 1), (8, .pointer (some ⟨0, 0, none⟩)), (7, .bool true), (2, symv 2), (1, symv 1), (0, symv 0)]
def hp10 : Sl := match aput 95 hd10 (some 67) (symv 19) with | some s => s | none => .nil
set_option maxRecDepth 100000 in
theorem e78 : trAll (stopSt so10) hd10 bk10 = some [(symv 0, symv 0), (symv 1, symv 1), (symv 2, symv 2), (symv 4, symv 4), (symv 5, symv 5), (symv 6, symv 6), (symv 7, symv 7), (symv 4, symv 4), (symv 5, symv 5), (symv 6, symv 6), (symv 7, symv 7)] := by kernel_rfl
set_option maxRecDepth 100000 in
theorem e79 : aput 95 hd10 (stopDst so10) (symv 19) = some hp10 := by kernel_rfl
set_option maxRecDepth 100000 in
theorem e80 : cellsAt (stopSt (ops' 95 F3 C3 (stopRest so10) (stopOps so10) (stopKs so10) { sl := hp10, ms := [], A := mkAS bk10 })).A 4 (.slice (some ⟨2, 0, none⟩) 1 1) = some [symv 4, symv 5, symv 6, symv 7] := by kernel_rfl
set_option maxRecDepth 100000 in
theorem e81 : appOf 27 (ops' 95 F3 C3 (stopRest so10) (stopOps so10) (stopKs so10) { sl := hp10, ms := [], A := mkAS bk10 }) = some (symv 19, .slice (some ⟨2, 0, none⟩) 1 1) := by kernel_rfl
noncomputable abbrev so11 := ops' 95 F3 C3 (stopRest so10) (stopOps so10) (stopKs so10) { sl := hp10, ms := [], A := mkAS bk10 }
noncomputable def bk11 : List Bk := [⟨.cells [symv 4, symv 5, symv 6, symv 7], 23, 0⟩]
def hd11 : Sl := slots [(8, .pointer (some ⟨0, 0, none⟩)), (7, .bool true), (2, symv 2), (1, symv 1), (0, symv 0)]
def hp11 : Sl := match aput 95 hd11 (some 70) (symv 20) with | some s => s | none => .nil
set_option maxRecDepth 100000 in
theorem e82 : trAll (stopSt so11) hd11 bk11 = some [(symv 0, symv 0), (symv 1, symv 1), (symv 2, symv 2), (symv 4, symv 4), (symv 5, symv 5), (symv 6, symv 6), (symv 7, symv 7)] := by kernel_rfl
set_option maxRecDepth 100000 in
theorem e83 : aput 95 hd11 (stopDst so11) (symv 20) = some hp11 := by kernel_rfl
set_option maxRecDepth 100000 in
theorem e84 : endVal Tryd.prog Tryd.f4 (ops' 95 F8 C8 (stopRest so11) (stopOps so11) (stopKs so11) { sl := hp11, ms := [], A := mkAS bk11 }) = some (.bool true) := by kernel_rfl
set_option maxRecDepth 100000 in
theorem e85 : endVal Tryd.prog Tryd.f4 (ops' 95 F9 C9 (stopRest so11) (stopOps so11) (stopKs so11) { sl := hp11, ms := [], A := mkAS bk11 }) = some (.bool false) := by kernel_rfl
set_option maxRecDepth 100000 in
theorem e86 : endVal Tryd.prog Tryd.f4 (ops' 95 F10 C10 (stopRest so11) (stopOps so11) (stopKs so11) { sl := hp11, ms := [], A := mkAS bk11 }) = some (.bool false) := by kernel_rfl
set_option maxRecDepth 100000 in
theorem e87 : endVal Tryd.prog Tryd.f4 (ops' 95 F11 C11 (stopRest so11) (stopOps so11) (stopKs so11) { sl := hp11, ms := [], A := mkAS bk11 }) = some (.bool true) := by kernel_rfl
set_option maxRecDepth 100000 in
theorem e88 : endVal Tryd.prog Tryd.f4 (ops' 95 F12 C12 (stopRest so11) (stopOps so11) (stopKs so11) { sl := hp11, ms := [], A := mkAS bk11 }) = some (.bool false) := by kernel_rfl
set_option maxRecDepth 100000 in
theorem e89 : endVal Tryd.prog Tryd.f4 (ops' 95 F13 C13 (stopRest so11) (stopOps so11) (stopKs so11) { sl := hp11, ms := [], A := mkAS bk11 }) = some (.bool false) := by kernel_rfl
set_option maxRecDepth 100000 in
theorem e90 : endVal Tryd.prog Tryd.f4 (ops' 95 F14 C14 (stopRest so11) (stopOps so11) (stopKs so11) { sl := hp11, ms := [], A := mkAS bk11 }) = some (.bool false) := by kernel_rfl
set_option maxRecDepth 100000 in
theorem e91 : appOf 27 (ops' 95 F3 C3 (drawList dr0 6) (drawOps dr0) (stopKs dr0) (stopSt dr0)) = some (.slice (some ⟨1, 0, none⟩) 0 0, symv 0) := by kernel_rfl
noncomputable abbrev so12 := ops' 95 F3 C3 (drawList dr0 6) (drawOps dr0) (stopKs dr0) (stopSt dr0)
noncomputable def bk12 : List Bk := [⟨.cells [symv 4, symv 5, symv 6, symv 7], 23, 0⟩]
def hd12 : Sl := slots [(8, .pointer (some ⟨0, 0, none⟩)), (7, .bool true), (2, symv 2), (1, symv 1), (0, symv 0)]
def hp12 : Sl := match aput 95 hd12 (some 67) (symv 19) with | some s => s | none => .nil
set_option maxRecDepth 100000 in
theorem e92 : trAll (stopSt so12) hd12 bk12 = some [(symv 0, symv 0), (symv 1, symv 1), (symv 2, symv 2), (symv 4, symv 4), (symv 5, symv 5), (symv 6, symv 6), (symv 7, symv 7)] := by kernel_rfl
set_option maxRecDepth 100000 in
theorem e93 : aput 95 hd12 (stopDst so12) (symv 19) = some hp12 := by kernel_rfl
set_option maxRecDepth 100000 in
theorem e94 : cellsAt (stopSt (ops' 95 F3 C3 (stopRest so12) (stopOps so12) (stopKs so12) { sl := hp12, ms := [], A := mkAS bk12 })).A 4 (.slice (some ⟨1, 0, none⟩) 1 1) = some [symv 4, symv 5, symv 6, symv 7] := by kernel_rfl
set_option maxRecDepth 100000 in
theorem e95 : appOf 27 (ops' 95 F3 C3 (stopRest so12) (stopOps so12) (stopKs so12) { sl := hp12, ms := [], A := mkAS bk12 }) = some (symv 19, .slice (some ⟨1, 0, none⟩) 1 1) := by kernel_rfl
noncomputable abbrev so13 := ops' 95 F3 C3 (stopRest so12) (stopOps so12) (stopKs so12) { sl := hp12, ms := [], A := mkAS bk12 }
noncomputable def bk13 : List Bk := [⟨.cells [symv 4, symv 5, symv 6, symv 7], 23, 0⟩]
def hd13 : Sl := slots [(8, .pointer (some ⟨0, 0, none⟩)), (7, .bool true), (2, symv 2), (1, symv 1), (0, symv 0)]
def hp13 : Sl := match aput 95 hd13 (some 70) (symv 20) with | some s => s | none => .nil
set_option maxRecDepth 100000 in
theorem e96 : trAll (stopSt so13) hd13 bk13 = some [(symv 0, symv 0), (symv 1, symv 1), (symv 2, symv 2), (symv 4, symv 4), (symv 5, symv 5), (symv 6, symv 6), (symv 7, symv 7)] := by kernel_rfl
set_option maxRecDepth 100000 in
theorem e97 : aput 95 hd13 (stopDst so13) (symv 20) = some hp13 := by kernel_rfl
set_option maxRecDepth 100000 in
theorem e98 : endVal Tryd.prog Tryd.f4 (ops' 95 F8 C8 (stopRest so13) (stopOps so13) (stopKs so13) { sl := hp13, ms := [], A := mkAS bk13 }) = some (.bool true) := by kernel_rfl
set_option maxRecDepth 100000 in
theorem e99 : endVal Tryd.prog Tryd.f4 (ops' 95 F9 C9 (stopRest so13) (stopOps so13) (stopKs so13) { sl := hp13, ms := [], A := mkAS bk13 }) = some (.bool false) := by kernel_rfl
set_option maxRecDepth 100000 in
theorem e100 : endVal Tryd.prog Tryd.f4 (ops' 95 F10 C10 (stopRest so13) (stopOps so13) (stopKs so13) { sl := hp13, ms := [], A := mkAS bk13 }) = some (.bool false) := by kernel_rfl
set_option maxRecDepth 100000 in
theorem e101 : endVal Tryd.prog Tryd.f4 (ops' 95 F11 C11 (stopRest so13) (stopOps so13) (stopKs so13) { sl := hp13, ms := [], A := mkAS bk13 }) = some (.bool true) := by kernel_rfl
set_option maxRecDepth 100000 in
theorem e102 : endVal Tryd.prog Tryd.f4 (ops' 95 F12 C12 (stopRest so13) (stopOps so13) (stopKs so13) { sl := hp13, ms := [], A := mkAS bk13 }) = some (.bool false) := by kernel_rfl
set_option maxRecDepth 100000 in
theorem e103 : endVal Tryd.prog Tryd.f4 (ops' 95 F13 C13 (stopRest so13) (stopOps so13) (stopKs so13) { sl := hp13, ms := [], A := mkAS bk13 }) = some (.bool false) := by kernel_rfl
set_option maxRecDepth 100000 in
theorem e104 : endVal Tryd.prog Tryd.f4 (ops' 95 F14 C14 (stopRest so13) (stopOps so13) (stopKs so13) { sl := hp13, ms := [], A := mkAS bk13 }) = some (.bool false) := by kernel_rfl
set_option maxRecDepth 100000 in
theorem e105 : appOf 27 (ops' 95 F3 C3 (drawList dr0 7) (drawOps dr0) (stopKs dr0) (stopSt dr0)) = some (.slice (some ⟨1, 0, none⟩) 0 0, symv 0) := by kernel_rfl
noncomputable abbrev so14 := ops' 95 F3 C3 (drawList dr0 7) (drawOps dr0) (stopKs dr0) (stopSt dr0)
noncomputable def bk14 : List Bk := [⟨.cells [symv 4, symv 5, symv 6, symv 7], 23, 0⟩]
def hd14 : Sl := slots [(68, .agg ⟨[symv 4, symv 5, symv 6, symv 7]⟩), (8, .pointer (some ⟨0, 0, none⟩)), (7, .bool true), (2, symv 2), (1, symv 1), (0, symv 0)]
def hp14 : Sl := match aput 95 hd14 (some 67) (symv 19) with | some s => s | none => .nil
set_option maxRecDepth 100000 in
theorem e106 : trAll (stopSt so14) hd14 bk14 = some [(symv 0, symv 0), (symv 1, symv 1), (symv 2, symv 2), (symv 4, symv 4), (symv 5, symv 5), (symv 6, symv 6), (symv 7, symv 7), (symv 4, symv 4), (symv 5, symv 5), (symv 6, symv 6), (symv 7, symv 7)] := by kernel_rfl
set_option maxRecDepth 100000 in
theorem e107 : aput 95 hd14 (stopDst so14) (symv 19) = some hp14 := by kernel_rfl
set_option maxRecDepth 100000 in
theorem e108 : cellsAt (stopSt (ops' 95 F3 C3 (stopRest so14) (stopOps so14) (stopKs so14) { sl := hp14, ms := [], A := mkAS bk14 })).A 4 (.slice (some ⟨1, 0, none⟩) 1 1) = some [symv 4, symv 5, symv 6, symv 7] := by kernel_rfl
set_option maxRecDepth 100000 in
theorem e109 : appOf 27 (ops' 95 F3 C3 (stopRest so14) (stopOps so14) (stopKs so14) { sl := hp14, ms := [], A := mkAS bk14 }) = some (symv 19, .slice (some ⟨1, 0, none⟩) 1 1) := by kernel_rfl
noncomputable abbrev so15 := ops' 95 F3 C3 (stopRest so14) (stopOps so14) (stopKs so14) { sl := hp14, ms := [], A := mkAS bk14 }
noncomputable def bk15 : List Bk := [⟨.cells [symv 4, symv 5, symv 6, symv 7], 23, 0⟩]
def hd15 : Sl := slots [(8, .pointer (some ⟨0, 0, none⟩)), (7, .bool true), (2, symv 2), (1, symv 1), (0, symv 0)]
def hp15 : Sl := match aput 95 hd15 (some 70) (symv 20) with | some s => s | none => .nil
set_option maxRecDepth 100000 in
theorem e110 : trAll (stopSt so15) hd15 bk15 = some [(symv 0, symv 0), (symv 1, symv 1), (symv 2, symv 2), (symv 4, symv 4), (symv 5, symv 5), (symv 6, symv 6), (symv 7, symv 7)] := by kernel_rfl
set_option maxRecDepth 100000 in
theorem e111 : aput 95 hd15 (stopDst so15) (symv 20) = some hp15 := by kernel_rfl
set_option maxRecDepth 100000 in
theorem e112 : endVal Tryd.prog Tryd.f4 (ops' 95 F8 C8 (stopRest so15) (stopOps so15) (stopKs so15) { sl := hp15, ms := [], A := mkAS bk15 }) = some (.bool true) := by kernel_rfl
set_option maxRecDepth 100000 in
theorem e113 : endVal Tryd.prog Tryd.f4 (ops' 95 F9 C9 (stopRest so15) (stopOps so15) (stopKs so15) { sl := hp15, ms := [], A := mkAS bk15 }) = some (.bool false) := by kernel_rfl
set_option maxRecDepth 100000 in
theorem e114 : endVal Tryd.prog Tryd.f4 (ops' 95 F10 C10 (stopRest so15) (stopOps so15) (stopKs so15) { sl := hp15, ms := [], A := mkAS bk15 }) = some (.bool false) := by kernel_rfl
set_option maxRecDepth 100000 in
theorem e115 : endVal Tryd.prog Tryd.f4 (ops' 95 F11 C11 (stopRest so15) (stopOps so15) (stopKs so15) { sl := hp15, ms := [], A := mkAS bk15 }) = some (.bool true) := by kernel_rfl
set_option maxRecDepth 100000 in
theorem e116 : endVal Tryd.prog Tryd.f4 (ops' 95 F12 C12 (stopRest so15) (stopOps so15) (stopKs so15) { sl := hp15, ms := [], A := mkAS bk15 }) = some (.bool false) := by kernel_rfl
set_option maxRecDepth 100000 in
theorem e117 : endVal Tryd.prog Tryd.f4 (ops' 95 F13 C13 (stopRest so15) (stopOps so15) (stopKs so15) { sl := hp15, ms := [], A := mkAS bk15 }) = some (.bool false) := by kernel_rfl
set_option maxRecDepth 100000 in
theorem e118 : endVal Tryd.prog Tryd.f4 (ops' 95 F14 C14 (stopRest so15) (stopOps so15) (stopKs so15) { sl := hp15, ms := [], A := mkAS bk15 }) = some (.bool false) := by kernel_rfl
set_option maxRecDepth 100000 in
theorem e119 : appOf 27 (ops' 95 F3 C3 (drawList dr0 8) (drawOps dr0) (stopKs dr0) (stopSt dr0)) = some (.slice (some ⟨1, 0, none⟩) 0 0, symv 0) := by kernel_rfl
noncomputable abbrev so16 := ops' 95 F3 C3 (drawList dr0 8) (drawOps dr0) (stopKs dr0) (stopSt dr0)
noncomputable def bk16 : List Bk := [⟨.cells [symv 4, symv 5, symv 6, symv 7], 23, 0⟩, ⟨.cells [], 23, 0⟩, ⟨.cells [symv 4, symv 5, symv 6, symv 7], 23, 0⟩]
def hd16 : Sl := slots [(69, .slice (some ⟨2, 0, none⟩) 1 1), (8, .pointer (some ⟨0, 0, none⟩)), (7, .bool true), (2, symv 2), (1, symv 1), (0, symv 0)]
def hp16 : Sl := match aput 95 hd16 (some 67) (symv 19) with | some s => s | none => .nil
set_option maxRecDepth 100000 in
theorem e120 : trAll (stopSt so16) hd16 bk16 = some [(symv 0, symv 0), (symv 1, symv 1), (symv 2, symv 2), (symv 4, symv 4), (symv 5, symv 5), (symv 6, symv 6), (symv 7, symv 7), (symv 4, symv 4), (symv 5, symv 5), (symv 6, symv 6), (symv 7, symv 7)] := by kernel_rfl
set_option maxRecDepth 100000 in
theorem e121 : aput 95 hd16 (stopDst so16) (symv 19) = some hp16 := by kernel_rfl
set_option maxRecDepth 100000 in
theorem e122 : cellsAt (stopSt (ops' 95 F3 C3 (stopRest so16) (stopOps so16) (stopKs so16) { sl := hp16, ms := [], A := mkAS bk16 })).A 4 (.slice (some ⟨2, 0, none⟩) 1 1) = some [symv 4, symv 5, symv 6, symv 7] := by kernel_rfl
set_option maxRecDepth 100000 in
theorem e123 : appOf 27 (ops' 95 F3 C3 (stopRest so16) (stopOps so16) (stopKs so16) { sl := hp16, ms := [], A := mkAS bk16 }) = some (symv 19, .slice (some ⟨2, 0, none⟩) 1 1) := by kernel_rfl
noncomputable abbrev so17 := ops' 95 F3 C3 (stopRest so16) (stopOps so16) (stopKs so16) { sl := hp16, ms := [], A := mkAS bk16 }
noncomputable def bk17 : List Bk := [⟨.cells [symv 4, symv 5, symv 6, symv 7], 23, 0⟩]
def hd17 : Sl := slots [(8, .pointer (some ⟨0, 0, none⟩)), (7, .bool true), (2, symv 2), (1, symv 1), (0, symv 0)]
def hp17 : Sl := match aput 95 hd17 (some 70) (symv 20) with | some s => s | none => .nil
set_option maxRecDepth 100000 in
theorem e124 : trAll (stopSt so17) hd17 bk17 = some [(symv 0, symv 0), (symv 1, symv 1), (symv 2, symv 2), (symv 4, symv 4), (symv 5, symv 5), (symv 6, symv 6), (symv 7, symv 7)] := by kernel_rfl
set_option maxRecDepth 100000 in
theorem e125 : aput 95 hd17 (stopDst so17) (symv 20) = some hp17 := by kernel_rfl
set_option maxRecDepth 100000 in
theorem e126 : endVal Tryd.prog Tryd.f4 (ops' 95 F8 C8 (stopRest so17) (stopOps so17) (stopKs so17) { sl := hp17, ms := [], A := mkAS bk17 }) = some (.bool true) := by kernel_rfl
set_option maxRecDepth 100000 in
theorem e127 : endVal Tryd.prog Tryd.f4 (ops' 95 F9 C9 (stopRest so17) (stopOps so17) (stopKs so17) { sl := hp17, ms := [], A := mkAS bk17 }) = some (.bool false) := by kernel_rfl
set_option maxRecDepth 100000 in
theorem e128 : endVal Tryd.prog Tryd.f4 (ops' 95 F10 C10 (stopRest so17) (stopOps so17) (stopKs so17) { sl := hp17, ms := [], A := mkAS bk17 }) = some (.bool false) := by kernel_rfl
set_option maxRecDepth 100000 in
theorem e129 : endVal Tryd.prog Tryd.f4 (ops' 95 F11 C11 (stopRest so17) (stopOps so17) (stopKs so17) { sl := hp17, ms := [], A := mkAS bk17 }) = some (.bool true) := by kernel_rfl
set_option maxRecDepth 100000 in
theorem e130 : endVal Tryd.prog Tryd.f4 (ops' 95 F12 C12 (stopRest so17) (stopOps so17) (stopKs so17) { sl := hp17, ms := [], A := mkAS bk17 }) = some (.bool false) := by kernel_rfl
set_option maxRecDepth 100000 in
theorem e131 : endVal Tryd.prog Tryd.f4 (ops' 95 F13 C13 (stopRest so17) (stopOps so17) (stopKs so17) { sl := hp17, ms := [], A := mkAS bk17 }) = some (.bool false) := by kernel_rfl
set_option maxRecDepth 100000 in
theorem e132 : endVal Tryd.prog Tryd.f4 (ops' 95 F14 C14 (stopRest so17) (stopOps so17) (stopKs so17) { sl := hp17, ms := [], A := mkAS bk17 }) = some (.bool false) := by kernel_rfl
set_option maxRecDepth 100000 in
theorem e133 : appOf 27 (ops' 95 F3 C3 (drawList dr0 9) (drawOps dr0) (stopKs dr0) (stopSt dr0)) = some (.slice (some ⟨1, 0, none⟩) 0 0, symv 0) := by kernel_rfl
noncomputable abbrev so18 := ops' 95 F3 C3 (drawList dr0 9) (drawOps dr0) (stopKs dr0) (stopSt dr0)
noncomputable def bk18 : List Bk := [⟨.cells [symv 4, symv 5, symv 6, symv 7], 23, 0⟩]
def hd18 : Sl := slots [(68, .agg ⟨[symv 4, symv 5, symv 6, symv 7]⟩), (8, .pointer (some ⟨0, 0, none⟩)), (7, .bool true), (2, symv 2), (1, symv 1), (0, symv 0)]
def hp18 : Sl := match aput 95 hd18 (some 67) (symv 19) with | some s => s | none => .nil
set_option maxRecDepth 100000 in
theorem e134 : trAll (stopSt so18) hd18 bk18 = some [(symv 0, symv 0), (symv 1, symv 1), (symv 2, symv 2), (symv 4, symv 4), (symv 5, symv 5), (symv 6, symv 6), (symv 7, symv 7), (symv 4, symv 4), (symv 5, symv 5), (symv 6, symv 6), (symv 7, symv 7)] := by kernel_rfl
set_option maxRecDepth 100000 in
theorem e135 : aput 95 hd18 (stopDst so18) (symv 19) = some hp18 := by kernel_rfl
set_option maxRecDepth 100000 in
theorem e136 : cellsAt (stopSt (ops' 95 F3 C3 (stopRest so18) (stopOps so18) (stopKs so18) { sl := hp18, ms := [], A := mkAS bk18 })).A 4 (.slice (some ⟨1, 0, none⟩) 1 1) = some [symv 4, symv 5, symv 6, symv 7] := by kernel_rfl
set_option maxRecDepth 100000 in
theorem e137 : appOf 27 (ops' 95 F3 C3 (stopRest so18) (stopOps so18) (stopKs so18) { sl := hp18, ms := [], A := mkAS bk18 }) = some (symv 19, .slice (some ⟨1, 0, none⟩) 1 1) := by kernel_rfl
noncomputable abbrev so19 := ops' 95 F3 C3 (stopRest so18) (stopOps so18) (stopKs so18) { sl := hp18, ms := [], A := mkAS bk18 }
noncomputable def bk19 : List Bk := [⟨.cells [symv 4, symv 5, symv 6, symv 7], 23, 0⟩]
def hd19 : Sl := slots [(8, .pointer (some ⟨0, 0, none⟩)), (7, .bool true), (2, symv 2), (1, symv 1), (0, symv 0)]
def hp19 : Sl := match aput 95 hd19 (some 70) (symv 20) with | some s => s | none => .nil
set_option maxRecDepth 100000 in
theorem e138 : trAll (stopSt so19) hd19 bk19 = some [(symv 0, symv 0), (symv 1, symv 1), (symv 2, symv 2), (symv 4, symv 4), (symv 5, symv 5), (symv 6, symv 6), (symv 7, symv 7)] := by kernel_rfl
set_option maxRecDepth 100000 in
theorem e139 : aput 95 hd19 (stopDst so19) (symv 20) = some hp19 := by kernel_rfl
set_option maxRecDepth 100000 in
theorem e140 : endVal Tryd.prog Tryd.f4 (ops' 95 F8 C8 (stopRest so19) (stopOps so19) (stopKs so19) { sl := hp19, ms := [], A := mkAS bk19 }) = some (.bool true) := by kernel_rfl
set_option maxRecDepth 100000 in
theorem e141 : endVal Tryd.prog Tryd.f4 (ops' 95 F9 C9 (stopRest so19) (stopOps so19) (stopKs so19) { sl := hp19, ms := [], A := mkAS bk19 }) = some (.bool false) := by kernel_rfl
set_option maxRecDepth 100000 in
theorem e142 : endVal Tryd.prog Tryd.f4 (ops' 95 F10 C10 (stopRest so19) (stopOps so19) (stopKs so19) { sl := hp19, ms := [], A := mkAS bk19 }) = some (.bool false) := by kernel_rfl
set_option maxRecDepth 100000 in
theorem e143 : endVal Tryd.prog Tryd.f4 (ops' 95 F11 C11 (stopRest so19) (stopOps so19) (stopKs so19) { sl := hp19, ms := [], A := mkAS bk19 }) = some (.bool true) := by kernel_rfl
set_option maxRecDepth 100000 in
theorem e144 : endVal Tryd.prog Tryd.f4 (ops' 95 F12 C12 (stopRest so19) (stopOps so19) (stopKs so19) { sl := hp19, ms := [], A := mkAS bk19 }) = some (.bool false) := by kernel_rfl
set_option maxRecDepth 100000 in
theorem e145 : endVal Tryd.prog Tryd.f4 (ops' 95 F13 C13 (stopRest so19) (stopOps so19) (stopKs so19) { sl := hp19, ms := [], A := mkAS bk19 }) = some (.bool false) := by kernel_rfl
set_option maxRecDepth 100000 in
theorem e146 : endVal Tryd.prog Tryd.f4 (ops' 95 F14 C14 (stopRest so19) (stopOps so19) (stopKs so19) { sl := hp19, ms := [], A := mkAS bk19 }) = some (.bool false) := by kernel_rfl
set_option maxRecDepth 100000 in
theorem e147 : appOf 27 (ops' 95 F3 C3 (drawList dr0 10) (drawOps dr0) (stopKs dr0) (stopSt dr0)) = some (.slice (some ⟨1, 0, none⟩) 0 0, symv 0) := by kernel_rfl
noncomputable abbrev so20 := ops' 95 F3 C3 (drawList dr0 10) (drawOps dr0) (stopKs dr0) (stopSt dr0)
noncomputable def bk20 : List Bk := [⟨.cells [symv 4, symv 5, symv 6, symv 7], 23, 0⟩, ⟨.cells [], 23, 0⟩, ⟨.cells [symv 4, symv 5, symv 6, symv 7], 23, 0⟩]
def hd20 : Sl := slots [(69, .slice (some ⟨2, 0, none⟩) 1 1), (8, .pointer (some ⟨0, 0, none⟩)), (7, .bool true), (2, symv 2), (1, symv 1), (0, symv 0)]
def hp20 : Sl := match aput 95 hd20 (some 67) (symv 19) with | some s => s | none => .nil
set_option maxRecDepth 100000 in
theorem e148 : trAll (stopSt so20) hd20 bk20 = some [(symv 0, symv 0), (symv 1, symv 1), (symv 2, symv 2), (symv 4, symv 4), (symv 5, symv 5), (symv 6, symv 6), (symv 7, symv 7), (symv 4, symv 4), (symv 5, symv 5), (symv 6, symv 6), (symv 7, symv 7)] := by kernel_rfl
set_option maxRecDepth 100000 in
theorem e149 : aput 95 hd20 (stopDst so20) (symv 19) = some hp20 := by kernel_rfl
set_option maxRecDepth 100000 in
theorem e150 : cellsAt (stopSt (ops' 95 F3 C3 (stopRest so20) (stopOps so20) (stopKs so20) { sl := hp20, ms := [], A := mkAS bk20 })).A 4 (.slice (some ⟨2, 0, none⟩) 1 1) = some [symv 4, symv 5, symv 6, symv 7] := by kernel_rfl
set_option maxRecDepth 100000 in
theorem e151 : appOf 27 (ops' 95 F3 C3 (stopRest so20) (stopOps so20) (stopKs so20) { sl := hp20, ms := [], A := mkAS bk20 }) = some (symv 19, .slice (some ⟨2, 0, none⟩) 1 1) := by kernel_rfl
noncomputable abbrev so21 := ops' 95 F3 C3 (stopRest so20) (stopOps so20) (stopKs so20) { sl := hp20, ms := [], A := mkAS bk20 }
noncomputable def bk21 : List Bk := [⟨.cells [symv 4, symv 5, symv 6, symv 7], 23, 0⟩]
def hd21 : Sl := slots [(8, .pointer (some ⟨0, 0, none⟩)), (7, .bool true), (2, symv 2), (1, symv 1), (0, symv 0)]
def hp21 : Sl := match aput 95 hd21 (some 70) (symv 20) with | some s => s | none => .nil
set_option maxRecDepth 100000 in
theorem e152 : trAll (stopSt so21) hd21 bk21 = some [(symv 0, symv 0), (symv 1, symv 1), (symv 2, symv 2), (symv 4, symv 4), (symv 5, symv 5), (symv 6, symv 6), (symv 7, symv 7)] := by kernel_rfl
set_option maxRecDepth 100000 in
theorem e153 : aput 95 hd21 (stopDst so21) (symv 20) = some hp21 := by kernel_rfl
set_option maxRecDepth 100000 in
theorem e154 : endVal Tryd.prog Tryd.f4 (ops' 95 F8 C8 (stopRest so21) (stopOps so21) (stopKs so21) { sl := hp21, ms := [], A := mkAS bk21 }) = some (.bool true) := by kernel_rfl
set_option maxRecDepth 100000 in
theorem e155 : endVal Tryd.prog Tryd.f4 (ops' 95 F9 C9 (stopRest so21) (stopOps so21) (stopKs so21) { sl := hp21, ms := [], A := mkAS bk21 }) = some (.bool false) := by kernel_rfl
set_option maxRecDepth 100000 in
theorem e156 : endVal Tryd.prog Tryd.f4 (ops' 95 F10 C10 (stopRest so21) (stopOps so21) (stopKs so21) { sl := hp21, ms := [], A := mkAS bk21 }) = some (.bool false) := by kernel_rfl
set_option maxRecDepth 100000 in
theorem e157 : endVal Tryd.prog Tryd.f4 (ops' 95 F11 C11 (stopRest so21) (stopOps so21) (stopKs so21) { sl := hp21, ms := [], A := mkAS bk21 }) = some (.bool true) := by kernel_rfl
set_option maxRecDepth 100000 in
theorem e158 : endVal Tryd.prog Tryd.f4 (ops' 95 F12 C12 (stopRest so21) (stopOps so21) (stopKs so21) { sl := hp21, ms := [], A := mkAS bk21 }) = some (.bool false) := by kernel_rfl
set_option maxRecDepth 100000 in
theorem e159 : endVal Tryd.prog Tryd.f4 (ops' 95 F13 C13 (stopRest so21) (stopOps so21) (stopKs so21) { sl := hp21, ms := [], A := mkAS bk21 }) = some (.bool false) := by kernel_rfl
set_option maxRecDepth 100000 in
theorem e160 : endVal Tryd.prog Tryd.f4 (ops' 95 F14 C14 (stopRest so21) (stopOps so21) (stopKs so21) { sl := hp21, ms := [], A := mkAS bk21 }) = some (.bool false) := by kernel_rfl
set_option maxRecDepth 100000 in
theorem e161 : appOf 27 (ops' 95 F3 C3 (drawList dr0 11) (drawOps dr0) (stopKs dr0) (stopSt dr0)) = some (.slice (some ⟨2, 0, none⟩) 0 0, symv 0) := by kernel_rfl
noncomputable abbrev so22 := ops' 95 F3 C3 (drawList dr0 11) (drawOps dr0) (stopKs dr0) (stopSt dr0)
noncomputable def bk22 : List Bk := [⟨.cells [symv 4, symv 5, symv 6, symv 7], 23, 0⟩, ⟨.cells [symv 4, symv 5, symv 6, symv 7], 23, 0⟩]
def hd22 : Sl := slots [(69, .slice (some ⟨1, 0, none⟩) 1 1), (8, .pointer (some ⟨0, 0, none⟩)), (7, .bool true), (2, symv 2), (1, symv 1), (0, symv 0)]
def hp22 : Sl := match aput 95 hd22 (some 67) (symv 19) with | some s => s | none => .nil
set_option maxRecDepth 100000 in
theorem e162 : trAll (stopSt so22) hd22 bk22 = some [(symv 0, symv 0), (symv 1, symv 1), (symv 2, symv 2), (symv 4, symv 4), (symv 5, symv 5), (symv 6, symv 6), (symv 7, symv 7), (symv 4, symv 4), (symv 5, symv 5), (symv 6, symv 6), (symv 7, symv 7)] := by kernel_rfl
set_option maxRecDepth 100000 in
theorem e163 : aput 95 hd22 (stopDst so22) (symv 19) = some hp22 := by kernel_rfl
set_option maxRecDepth 100000 in
theorem e164 : cellsAt (stopSt (ops' 95 F3 C3 (stopRest so22) (stopOps so22) (stopKs so22) { sl := hp22, ms := [], A := mkAS bk22 })).A 4 (.slice (some ⟨1, 0, none⟩) 1 1) = some [symv 4, symv 5, symv 6, symv 7] := by kernel_rfl
set_option maxRecDepth 100000 in
theorem e165 : appOf 27 (ops' 95 F3 C3 (stopRest so22) (stopOps so22) (stopKs so22) { sl := hp22, ms := [], A := mkAS bk22 }) = some (symv 19, .slice (some ⟨1, 0, none⟩) 1 1) := by kernel_rfl
noncomputable abbrev so23 := ops' 95 F3 C3 (stopRest so22) (stopOps so22) (stopKs so22) { sl := hp22, ms := [], A := mkAS bk22 }
noncomputable def bk23 : List Bk := [⟨.cells [symv 4, symv 5, symv 6, symv 7], 23, 0⟩]
def hd23 : Sl := slots [(8, .pointer (some ⟨0, 0, none⟩)), (7, .bool true), (2, symv 2), (1, symv 1), (0, symv 0)]
def hp23 : Sl := match aput 95 hd23 (some 70) (symv 20) with | some s => s | none => .nil
set_option maxRecDepth 100000 in
theorem e166 : trAll (stopSt so23) hd23 bk23 = some [(symv 0, symv 0), (symv 1, symv 1), (symv 2, symv 2), (symv 4, symv 4), (symv 5, symv 5), (symv 6, symv 6), (symv 7, symv 7)] := by kernel_rfl
set_option maxRecDepth 100000 in
theorem e167 : aput 95 hd23 (stopDst so23) (symv 20) = some hp23 := by kernel_rfl
set_option maxRecDepth 100000 in
theorem e168 : endVal Tryd.prog Tryd.f4 (ops' 95 F8 C8 (stopRest so23) (stopOps so23) (stopKs so23) { sl := hp23, ms := [], A := mkAS bk23 }) = some (.bool true) := by kernel_rfl
set_option maxRecDepth 100000 in
theorem e169 : endVal Tryd.prog Tryd.f4 (ops' 95 F9 C9 (stopRest so23) (stopOps so23) (stopKs so23) { sl := hp23, ms := [], A := mkAS bk23 }) = some (.bool false) := by kernel_rfl
set_option maxRecDepth 100000 in
theorem e170 : endVal Tryd.prog Tryd.f4 (ops' 95 F10 C10 (stopRest so23) (stopOps so23) (stopKs so23) { sl := hp23, ms := [], A := mkAS bk23 }) = some (.bool false) := by kernel_rfl
set_option maxRecDepth 100000 in
theorem e171 : endVal Tryd.prog Tryd.f4 (ops' 95 F11 C11 (stopRest so23) (stopOps so23) (stopKs so23) { sl := hp23, ms := [], A := mkAS bk23 }) = some (.bool true) := by kernel_rfl
set_option maxRecDepth 100000 in
theorem e172 : endVal Tryd.prog Tryd.f4 (ops' 95 F12 C12 (stopRest so23) (stopOps so23) (stopKs so23) { sl := hp23, ms := [], A := mkAS bk23 }) = some (.bool false) := by kernel_rfl
set_option maxRecDepth 100000 in
theorem e173 : endVal Tryd.prog Tryd.f4 (ops' 95 F13 C13 (stopRest so23) (stopOps so23) (stopKs so23) { sl := hp23, ms := [], A := mkAS bk23 }) = some (.bool false) := by kernel_rfl
set_option maxRecDepth 100000 in
theorem e174 : endVal Tryd.prog Tryd.f4 (ops' 95 F14 C14 (stopRest so23) (stopOps so23) (stopKs so23) { sl := hp23, ms := [], A := mkAS bk23 }) = some (.bool false) := by kernel_rfl
set_option maxRecDepth 100000 in
theorem e175 : appOf 27 (ops' 95 F3 C3 (drawList dr0 12) (drawOps dr0) (stopKs dr0) (stopSt dr0)) = some (.slice (some ⟨1, 0, none⟩) 0 0, symv 0) := by kernel_rfl
noncomputable abbrev so24 := ops' 95 F3 C3 (drawList dr0 12) (drawOps dr0) (stopKs dr0) (stopSt dr0)
noncomputable def bk24 : List Bk := [⟨.cells [symv 4, symv 5, symv 6, symv 7], 23, 0⟩]
def hd24 : Sl := slots [(68, .agg ⟨[symv 4, symv 5, symv 6, symv 7]⟩), (8, .pointer (some ⟨0, 0, none⟩)), (7, .bool true), (2, symv 2), (1, symv 1), (0, symv 0)]
def hp24 : Sl := match aput 95 hd24 (some 67) (symv 19) with | some s => s | none => .nil
set_option maxRecDepth 100000 in
theorem e176 : trAll (stopSt so24) hd24 bk24 = some [(symv 0, symv 0), (symv 1, symv 1), (symv 2, symv 2), (symv 4, symv 4), (symv 5, symv 5), (symv 6, symv 6), (symv 7, symv 7), (symv 4, symv 4), (symv 5, symv 5), (symv 6, symv 6), (symv 7, symv 7)] := by kernel_rfl
set_option maxRecDepth 100000 in
theorem e177 : aput 95 hd24 (stopDst so24) (symv 19) = some hp24 := by kernel_rfl
set_option maxRecDepth 100000 in
theorem e178 : cellsAt (stopSt (ops' 95 F3 C3 (stopRest so24) (stopOps so24) (stopKs so24) { sl := hp24, ms := [], A := mkAS bk24 })).A 4 (.slice (some ⟨1, 0, none⟩) 1 1) = some [symv 4, symv 5, symv 6, symv 7] := by kernel_rfl
set_option maxRecDepth 100000 in
theorem e179 : appOf 27 (ops' 95 F3 C3 (stopRest so24) (stopOps so24) (stopKs so24) { sl := hp24, ms := [], A := mkAS bk24 }) = some (symv 19, .slice (some ⟨1, 0, none⟩) 1 1) := by kernel_rfl
noncomputable abbrev so25 := ops' 95 F3 C3 (stopRest so24) (stopOps so24) (stopKs so24) { sl := hp24, ms := [], A := mkAS bk24 }
noncomputable def bk25 : List Bk := [⟨.cells [symv 4, symv 5, symv 6, symv 7], 23, 0⟩]
def hd25 : Sl := slots [(8, .pointer (some ⟨0, 0, none⟩)), (7, .bool true), (2, symv 2), (1, symv 1), (0, symv 0)]
def hp25 : Sl := match aput 95 hd25 (some 70) (symv 20) with | some s => s | none => .nil
set_option maxRecDepth 100000 in
theorem e180 : trAll (stopSt so25) hd25 bk25 = some [(symv 0, symv 0), (symv 1, symv 1), (symv 2, symv 2), (symv 4, symv 4), (symv 5, symv 5), (symv 6, symv 6), (symv 7, symv 7)] := by kernel_rfl
set_option maxRecDepth 100000 in
theorem e181 : aput 95 hd25 (stopDst so25) (symv 20) = some hp25 := by kernel_rfl
set_option maxRecDepth 100000 in
theorem e182 : endVal Tryd.prog Tryd.f4 (ops' 95 F8 C8 (stopRest so25) (stopOps so25) (stopKs so25) { sl := hp25, ms := [], A := mkAS bk25 }) = some (.bool true) := by kernel_rfl
set_option maxRecDepth 100000 in
theorem e183 : endVal Tryd.prog Tryd.f4 (ops' 95 F9 C9 (stopRest so25) (stopOps so25) (stopKs so25) { sl := hp25, ms := [], A := mkAS bk25 }) = some (.bool false) := by kernel_rfl
set_option maxRecDepth 100000 in
theorem e184 : endVal Tryd.prog Tryd.f4 (ops' 95 F10 C10 (stopRest so25) (stopOps so25) (stopKs so25) { sl := hp25, ms := [], A := mkAS bk25 }) = some (.bool false) := by kernel_rfl
set_option maxRecDepth 100000 in
theorem e185 : endVal Tryd.prog Tryd.f4 (ops' 95 F11 C11 (stopRest so25) (stopOps so25) (stopKs so25) { sl := hp25, ms := [], A := mkAS bk25 }) = some (.bool true) := by kernel_rfl
set_option maxRecDepth 100000 in
theorem e186 : endVal Tryd.prog Tryd.f4 (ops' 95 F12 C12 (stopRest so25) (stopOps so25) (stopKs so25) { sl := hp25, ms := [], A := mkAS bk25 }) = some (.bool false) := by kernel_rfl
set_option maxRecDepth 100000 in
theorem e187 : endVal Tryd.prog Tryd.f4 (ops' 95 F13 C13 (stopRest so25) (stopOps so25) (stopKs so25) { sl := hp25, ms := [], A := mkAS bk25 }) = some (.bool false) := by kernel_rfl
set_option maxRecDepth 100000 in
theorem e188 : endVal Tryd.prog Tryd.f4 (ops' 95 F14 C14 (stopRest so25) (stopOps so25) (stopKs so25) { sl := hp25, ms := [], A := mkAS bk25 }) = some (.bool false) := by kernel_rfl
set_option maxRecDepth 100000 in
theorem e189 : appOf 27 (ops' 95 F3 C3 (drawList dr0 13) (drawOps dr0) (stopKs dr0) (stopSt dr0)) = some (.slice (some ⟨1, 0, none⟩) 0 0, symv 0) := by kernel_rfl
noncomputable abbrev so26 := ops' 95 F3 C3 (drawList dr0 13) (drawOps dr0) (stopKs dr0) (stopSt dr0)
noncomputable def bk26 : List Bk := [⟨.cells [symv 4, symv 5, symv 6, symv 7], 23, 0⟩, ⟨.cells [], 23, 0⟩, ⟨.cells [symv 4, symv 5, symv 6, symv 7], 23, 0⟩]
def hd26 : Sl := slots [(69, .slice (some ⟨2, 0, none⟩) 1 1), (8, .pointer (some ⟨0, 0, none⟩)), (7, .bool true), (2, symv 2), (1, symv 1), (0, symv 0)]
def hp26 : Sl := match aput 95 hd26 (some 67) (symv 19) with | some s => s | none => .nil
set_option maxRecDepth 100000 in
theorem e190 : trAll (stopSt so26) hd26 bk26 = some [(symv 0, symv 0), (symv 1, symv 1), (symv 2, symv 2), (symv 4, symv 4), (symv 5, symv 5), (symv 6, symv 6), (symv 7, symv 7), (symv 4, symv 4), (symv 5, symv 5), (symv 6, symv 6), (symv 7, symv 7)] := by kernel_rfl
set_option maxRecDepth 100000 in
theorem e191 : aput 95 hd26 (stopDst so26) (symv 19) = some hp26 := by kernel_rfl
set_option maxRecDepth 100000 in
theorem e192 : cellsAt (stopSt (ops' 95 F3 C3 (stopRest so26) (stopOps so26) (stopKs so26) { sl := hp26, ms := [], A := mkAS bk26 })).A 4 (.slice (some ⟨2, 0, none⟩) 1 1) = some [symv 4, symv 5, symv 6, symv 7] := by kernel_rfl
set_option maxRecDepth 100000 in
theorem e193 : appOf 27 (ops' 95 F3 C3 (stopRest so26) (stopOps so26) (stopKs so26) { sl := hp26, ms := [], A := mkAS bk26 }) = some (symv 19, .slice (some ⟨2, 0, none⟩) 1 1) := by kernel_rfl
noncomputable abbrev so27 := ops' 95 F3 C3 (stopRest so26) (stopOps so26) (stopKs so26) { sl := hp26, ms := [], A := mkAS bk26 }
noncomputable def bk27 : List Bk := [⟨.cells [symv 4, symv 5, symv 6, symv 7], 23, 0⟩]
def hd27 : Sl := slots [(8, .pointer (some ⟨0, 0, none⟩)), (7, .bool true), (2, symv 2), (1, symv 1), (0, symv 0)]
def hp27 : Sl := match aput 95 hd27 (some 70) (symv 20) with | some s => s | none => .nil
set_option maxRecDepth 100000 in
theorem e194 : trAll (stopSt so27) hd27 bk27 = some [(symv 0, symv 0), (symv 1, symv 1), (symv 2, symv 2), (symv 4, symv 4), (symv 5, symv 5), (symv 6, symv 6), (symv 7, symv 7)] := by kernel_rfl
set_option maxRecDepth 100000 in
theorem e195 : aput 95 hd27 (stopDst so27) (symv 20) = some hp27 := by kernel_rfl
set_option maxRecDepth 100000 in
theorem e196 : endVal Tryd.prog Tryd.f4 (ops' 95 F8 C8 (stopRest so27) (stopOps so27) (stopKs so27) { sl := hp27, ms := [], A := mkAS bk27 }) = some (.bool true) := by kernel_rfl
set_option maxRecDepth 100000 in
theorem e197 : endVal Tryd.prog Tryd.f4 (ops' 95 F9 C9 (stopRest so27) (stopOps so27) (stopKs so27) { sl := hp27, ms := [], A := mkAS bk27 }) = some (.bool false) := by kernel_rfl
set_option maxRecDepth 100000 in
theorem e198 : endVal Tryd.prog Tryd.f4 (ops' 95 F10 C10 (stopRest so27) (stopOps so27) (stopKs so27) { sl := hp27, ms := [], A := mkAS bk27 }) = some (.bool false) := by kernel_rfl
set_option maxRecDepth 100000 in
theorem e199 : endVal Tryd.prog Tryd.f4 (ops' 95 F11 C11 (stopRest so27) (stopOps so27) (stopKs so27) { sl := hp27, ms := [], A := mkAS bk27 }) = some (.bool true) := by kernel_rfl
set_option maxRecDepth 100000 in
theorem e200 : endVal Tryd.prog Tryd.f4 (ops' 95 F12 C12 (stopRest so27) (stopOps so27) (stopKs so27) { sl := hp27, ms := [], A := mkAS bk27 }) = some (.bool false) := by kernel_rfl
set_option maxRecDepth 100000 in
theorem e201 : endVal Tryd.prog Tryd.f4 (ops' 95 F13 C13 (stopRest so27) (stopOps so27) (stopKs so27) { sl := hp27, ms := [], A := mkAS bk27 }) = some (.bool false) := by kernel_rfl
set_option maxRecDepth 100000 in
theorem e202 : endVal Tryd.prog Tryd.f4 (ops' 95 F14 C14 (stopRest so27) (stopOps so27) (stopKs so27) { sl := hp27, ms := [], A := mkAS bk27 }) = some (.bool false) := by kernel_rfl
set_option maxRecDepth 100000 in
theorem e203 : appOf 27 (ops' 95 F3 C3 (drawList dr0 14) (drawOps dr0) (stopKs dr0) (stopSt dr0)) = some (.slice (some ⟨1, 0, none⟩) 0 0, symv 0) := by kernel_rfl
noncomputable abbrev so28 := ops' 95 F3 C3 (drawList dr0 14) (drawOps dr0) (stopKs dr0) (stopSt dr0)
noncomputable def bk28 : List Bk := [⟨.cells [symv 4, symv 5, symv 6, symv 7], 23, 0⟩, ⟨.cells [], 23, 0⟩, ⟨.cells [symv 4, symv 5, symv 6, symv 7], 23, 0⟩]
def hd28 : Sl := slots [(69, .slice (some ⟨2, 0, none⟩) 1 1), (8, .pointer (some ⟨0, 0, none⟩)), (7, .bool true), (2, symv 2), (1, symv 1), (0, symv 0)]
def hp28 : Sl := match aput 95 hd28 (some 67) (symv 19) with | some s => s | none => .nil
set_option maxRecDepth 100000 in
theorem e204 : trAll (stopSt so28) hd28 bk28 = some [(symv 0, symv 0), (symv 1, symv 1), (symv 2, symv 2), (symv 4, symv 4), (symv 5, symv 5), (symv 6, symv 6), (symv 7, symv 7), (symv 4, symv 4), (symv 5, symv 5), (symv 6, symv 6), (symv 7, symv 7)] := by kernel_rfl
set_option maxRecDepth 100000 in
theorem e205 : aput 95 hd28 (stopDst so28) (symv 19) = some hp28 := by kernel_rfl
set_option maxRecDepth 100000 in
theorem e206 : cellsAt (stopSt (ops' 95 F3 C3 (stopRest so28) (stopOps so28) (stopKs so28) { sl := hp28, ms := [], A := mkAS bk28 })).A 4 (.slice (some ⟨2, 0, none⟩) 1 1) = some [symv 4, symv 5, symv 6, symv 7] := by kernel_rfl
set_option maxRecDepth 100000 in
theorem e207 : appOf 27 (ops' 95 F3 C3 (stopRest so28) (stopOps so28) (stopKs so28) { sl := hp28, ms := [], A := mkAS bk28 }) = some (symv 19, .slice (some ⟨2, 0, none⟩) 1 1) := by kernel_rfl
noncomputable abbrev so29 := ops' 95 F3 C3 (stopRest so28) (stopOps so28) (stopKs so28) { sl := hp28, ms := [], A := mkAS bk28 }
noncomputable def bk29 : List Bk := [⟨.cells [symv 4, symv 5, symv 6, symv 7], 23, 0⟩]
def hd29 : Sl := slots [(8, .pointer (some ⟨0, 0, none⟩)), (7, .bool true), (2, symv 2), (1, symv 1), (0, symv 0)]
def hp29 : Sl := match aput 95 hd29 (some 70) (symv 20) with | some s => s | none => .nil
set_option maxRecDepth 100000 in
theorem e208 : trAll (stopSt so29) hd29 bk29 = some [(symv 0, symv 0), (symv 1, symv 1), (symv 2, symv 2), (symv 4, symv 4), (symv 5, symv 5), (symv 6, symv 6), (symv 7, symv 7)] := by kernel_rfl
set_option maxRecDepth 100000 in
theorem e209 : aput 95 hd29 (stopDst so29) (symv 20) = some hp29 := by kernel_rfl
set_option maxRecDepth 100000 in
theorem e210 : endVal Tryd.prog Tryd.f4 (ops' 95 F8 C8 (stopRest so29) (stopOps so29) (stopKs so29) { sl := hp29, ms := [], A := mkAS bk29 }) = some (.bool true) := by kernel_rfl
set_option maxRecDepth 100000 in
theorem e211 : endVal Tryd.prog Tryd.f4 (ops' 95 F9 C9 (stopRest so29) (stopOps so29) (stopKs so29) { sl := hp29, ms := [], A := mkAS bk29 }) = some (.bool false) := by kernel_rfl
set_option maxRecDepth 100000 in
theorem e212 : endVal Tryd.prog Tryd.f4 (ops' 95 F10 C10 (stopRest so29) (stopOps so29) (stopKs so29) { sl := hp29, ms := [], A := mkAS bk29 }) = some (.bool false) := by kernel_rfl
set_option maxRecDepth 100000 in
theorem e213 : endVal Tryd.prog Tryd.f4 (ops' 95 F11 C11 (stopRest so29) (stopOps so29) (stopKs so29) { sl := hp29, ms := [], A := mkAS bk29 }) = some (.bool true) := by kernel_rfl
set_option maxRecDepth 100000 in
theorem e214 : endVal Tryd.prog Tryd.f4 (ops' 95 F12 C12 (stopRest so29) (stopOps so29) (stopKs so29) { sl := hp29, ms := [], A := mkAS bk29 }) = some (.bool false) := by kernel_rfl
set_option maxRecDepth 100000 in
theorem e215 : endVal Tryd.prog Tryd.f4 (ops' 95 F13 C13 (stopRest so29) (stopOps so29) (stopKs so29) { sl := hp29, ms := [], A := mkAS bk29 }) = some (.bool false) := by kernel_rfl
set_option maxRecDepth 100000 in
theorem e216 : endVal Tryd.prog Tryd.f4 (ops' 95 F14 C14 (stopRest so29) (stopOps so29) (stopKs so29) { sl := hp29, ms := [], A := mkAS bk29 }) = some (.bool false) := by kernel_rfl
set_option maxRecDepth 100000 in
theorem e217 : appOf 27 (ops' 95 F3 C3 (drawList dr0 15) (drawOps dr0) (stopKs dr0) (stopSt dr0)) = some (.slice (some ⟨1, 0, none⟩) 0 0, symv 0) := by kernel_rfl
noncomputable abbrev so30 := ops' 95 F3 C3 (drawList dr0 15) (drawOps dr0) (stopKs dr0) (stopSt dr0)
noncomputable def bk30 : List Bk := [⟨.cells [symv 4, symv 5, symv 6, symv 7], 23, 0⟩]
def hd30 : Sl := slots [(68, .agg ⟨[symv 4, symv 5, symv 6, symv 7]⟩), (8, .pointer (some ⟨0, 0, none⟩)), (7, .bool true), (2, symv 2), (1, symv 1), (0, symv 0)]
def hp30 : Sl := match aput 95 hd30 (some 67) (symv 19) with | some s => s | none => .nil
set_option maxRecDepth 100000 in
theorem e218 : trAll (stopSt so30) hd30 bk30 = some [(symv 0, symv 0), (symv 1, symv 1), (symv 2, symv 2), (symv 4, symv 4), (symv 5, symv 5), (symv 6, symv 6), (symv 7, symv 7), (symv 4, symv 4), (symv 5, symv 5), (symv 6, symv 6), (symv 7, symv 7)] := by kernel_rfl
set_option maxRecDepth 100000 in
theorem e219 : aput 95 hd30 (stopDst so30) (symv 19) = some hp30 := by kernel_rfl
set_option maxRecDepth 100000 in
theorem e220 : cellsAt (stopSt (ops' 95 F3 C3 (stopRest so30) (stopOps so30) (stopKs so30) { sl := hp30, ms := [], A := mkAS bk30 })).A 4 (.slice (some ⟨1, 0, none⟩) 1 1) = some [symv 4, symv 5, symv 6, symv 7] := by kernel_rfl
set_option maxRecDepth 100000 in
theorem e221 : appOf 27 (ops' 95 F3 C3 (stopRest so30) (stopOps so30) (stopKs so30) { sl := hp30, ms := [], A := mkAS bk30 }) = some (symv 19, .slice (some ⟨1, 0, none⟩) 1 1) := by kernel_rfl
noncomputable abbrev so31 := ops' 95 F3 C3 (stopRest so30) (stopOps so30) (stopKs so30) { sl := hp30, ms := [], A := mkAS bk30 }
noncomputable def bk31 : List Bk := [⟨.cells [symv 4, symv 5, symv 6, symv 7], 23, 0⟩]
def hd31 : Sl := slots [(8, .pointer (some ⟨0, 0, none⟩)), (7, .bool true), (2, symv 2), (1, symv 1), (0, symv 0)]
def hp31 : Sl := match aput 95 hd31 (some 70) (symv 20) with | some s => s | none => .nil
set_option maxRecDepth 100000 in
theorem e222 : trAll (stopSt so31) hd31 bk31 = some [(symv 0, symv 0), (symv 1, symv 1), (symv 2, symv 2), (symv 4, symv 4), (symv 5, symv 5), (symv 6, symv 6), (symv 7, symv 7)] := by kernel_rfl
set_option maxRecDepth 100000 in
theorem e223 : aput 95 hd31 (stopDst so31) (symv 20) = some hp31 := by kernel_rfl
set_option maxRecDepth 100000 in
theorem e224 : endVal Tryd.prog Tryd.f4 (ops' 95 F8 C8 (stopRest so31) (stopOps so31) (stopKs so31) { sl := hp31, ms := [], A := mkAS bk31 }) = some (.bool true) := by kernel_rfl
set_option maxRecDepth 100000 in
theorem e225 : endVal Tryd.prog Tryd.f4 (ops' 95 F9 C9 (stopRest so31) (stopOps so31) (stopKs so31) { sl := hp31, ms := [], A := mkAS bk31 }) = some (.bool false) := by kernel_rfl
set_option maxRecDepth 100000 in
theorem e226 : endVal Tryd.prog Tryd.f4 (ops' 95 F10 C10 (stopRest so31) (stopOps so31) (stopKs so31) { sl := hp31, ms := [], A := mkAS bk31 }) = some (.bool false) := by kernel_rfl
set_option maxRecDepth 100000 in
theorem e227 : endVal Tryd.prog Tryd.f4 (ops' 95 F11 C11 (stopRest so31) (stopOps so31) (stopKs so31) { sl := hp31, ms := [], A := mkAS bk31 }) = some (.bool true) := by kernel_rfl
set_option maxRecDepth 100000 in
theorem e228 : endVal Tryd.prog Tryd.f4 (ops' 95 F12 C12 (stopRest so31) (stopOps so31) (stopKs so31) { sl := hp31, ms := [], A := mkAS bk31 }) = some (.bool false) := by kernel_rfl
set_option maxRecDepth 100000 in
theorem e229 : endVal Tryd.prog Tryd.f4 (ops' 95 F13 C13 (stopRest so31) (stopOps so31) (stopKs so31) { sl := hp31, ms := [], A := mkAS bk31 }) = some (.bool false) := by kernel_rfl
set_option maxRecDepth 100000 in
theorem e230 : endVal Tryd.prog Tryd.f4 (ops' 95 F14 C14 (stopRest so31) (stopOps so31) (stopKs so31) { sl := hp31, ms := [], A := mkAS bk31 }) = some (.bool false) := by kernel_rfl
set_option maxRecDepth 100000 in
theorem e231 : appOf 27 (ops' 95 F3 C3 (drawList dr0 16) (drawOps dr0) (stopKs dr0) (stopSt dr0)) = some (.slice (some ⟨1, 0, none⟩) 0 0, symv 0) := by kernel_rfl
noncomputable abbrev so32 := ops' 95 F3 C3 (drawList dr0 16) (drawOps dr0) (stopKs dr0) (stopSt dr0)
noncomputable def bk32 : List Bk := [⟨.cells [symv 4, symv 5, symv 6, symv 7], 23, 0⟩, ⟨.cells [], 23, 0⟩, ⟨.cells [symv 4, symv 5, symv 6, symv 7], 23, 0⟩]
def hd32 : Sl := slots [(69, .slice (some ⟨2, 0, none⟩) 1 1), (8, .pointer (some ⟨0, 0, none⟩)), (7, .bool true), (2, symv 2), (1, symv 1), (0, symv 0)]
def hp32 : Sl := match aput 95 hd32 (some 67) (symv 19) with | some s => s | none => .nil
set_option maxRecDepth 100000 in
theorem e232 : trAll (stopSt so32) hd32 bk32 = some [(symv 0, symv 0), (symv 1, symv 1), (symv 2, symv 2), (symv 4, symv 4), (symv 5, symv 5), (symv 6, symv 6), (symv 7, symv 7), (symv 4, symv 4), (symv 5, symv 5), (symv 6, symv 6), (symv 7, symv 7)] := by kernel_rfl
set_option maxRecDepth 100000 in
theorem e233 : aput 95 hd32 (stopDst so32) (symv 19) = some hp32 := by kernel_rfl
set_option maxRecDepth 100000 in
theorem e234 : cellsAt (stopSt (ops' 95 F3 C3 (stopRest so32) (stopOps so32) (stopKs so32) { sl := hp32, ms := [], A := mkAS bk32 })).A 4 (.slice (some ⟨2, 0, none⟩) 1 1) = some [symv 4, symv 5, symv 6, symv 7] := by kernel_rfl
set_option maxRecDepth 100000 in
theorem e235 : appOf 27 (ops' 95 F3 C3 (stopRest so32) (stopOps so32) (stopKs so32) { sl := hp32, ms := [], A := mkAS bk32 }) = some (symv 19, .slice (some ⟨2, 0, none⟩) 1 1) := by kernel_rfl
noncomputable abbrev so33 := ops' 95 F3 C3 (stopRest so32) (stopOps so32) (stopKs so32) { sl := hp32, ms := [], A := mkAS bk32 }
noncomputable def bk33 : List Bk := [⟨.cells [symv 4, symv 5, symv 6, symv 7], 23, 0⟩]
def hd33 : Sl := slots [(8, .pointer (some ⟨0, 0, none⟩)), (7, .bool true), (2, symv 2), (1, symv 1), (0, symv 0)]
def hp33 : Sl := match aput 95 hd33 (some 70) (symv 20) with | some s => s | none => .nil
set_option maxRecDepth 100000 in
theorem e236 : trAll (stopSt so33) hd33 bk33 = some [(symv 0, symv 0), (symv 1, symv 1), (symv 2, symv 2), (symv 4, symv 4), (symv 5, symv 5), (symv 6, symv 6), (symv 7, symv 7)] := by kernel_rfl
set_option maxRecDepth 100000 in
theorem e237 : aput 95 hd33 (stopDst so33) (symv 20) = some hp33 := by kernel_rfl
set_option maxRecDepth 100000 in
theorem e238 : endVal Tryd.prog Tryd.f4 (ops' 95 F8 C8 (stopRest so33) (stopOps so33) (stopKs so33) { sl := hp33, ms := [], A := mkAS bk33 }) = some (.bool true) := by kernel_rfl
set_option maxRecDepth 100000 in
theorem e239 : endVal Tryd.prog Tryd.f4 (ops' 95 F9 C9 (stopRest so33) (stopOps so33) (stopKs so33) { sl := hp33, ms := [], A := mkAS bk33 }) = some (.bool false) := by kernel_rfl
set_option maxRecDepth 100000 in
theorem e240 : endVal Tryd.prog Tryd.f4 (ops' 95 F10 C10 (stopRest so33) (stopOps so33) (stopKs so33) { sl := hp33, ms := [], A := mkAS bk33 }) = some (.bool false) := by kernel_rfl
set_option maxRecDepth 100000 in
theorem e241 : endVal Tryd.prog Tryd.f4 (ops' 95 F11 C11 (stopRest so33) (stopOps so33) (stopKs so33) { sl := hp33, ms := [], A := mkAS bk33 }) = some (.bool true) := by kernel_rfl
set_option maxRecDepth 100000 in
theorem e242 : endVal Tryd.prog Tryd.f4 (ops' 95 F12 C12 (stopRest so33) (stopOps so33) (stopKs so33) { sl := hp33, ms := [], A := mkAS bk33 }) = some (.bool false) := by kernel_rfl
set_option maxRecDepth 100000 in
theorem e243 : endVal Tryd.prog Tryd.f4 (ops' 95 F13 C13 (stopRest so33) (stopOps so33) (stopKs so33) { sl := hp33, ms := [], A := mkAS bk33 }) = some (.bool false) := by kernel_rfl
set_option maxRecDepth 100000 in
theorem e244 : endVal Tryd.prog Tryd.f4 (ops' 95 F14 C14 (stopRest so33) (stopOps so33) (stopKs so33) { sl := hp33, ms := [], A := mkAS bk33 }) = some (.bool false) := by kernel_rfl
set_option maxRecDepth 100000 in
theorem e245 : appOf 27 (ops' 95 F3 C3 (drawList dr0 17) (drawOps dr0) (stopKs dr0) (stopSt dr0)) = some (.slice (some ⟨2, 0, none⟩) 0 0, symv 0) := by kernel_rfl
noncomputable abbrev so34 := ops' 95 F3 C3 (drawList dr0 17) (drawOps dr0) (stopKs dr0) (stopSt dr0)
noncomputable def bk34 : List Bk := [⟨.cells [symv 4, symv 5, symv 6, symv 7], 23, 0⟩, ⟨.cells [symv 4, symv 5, symv 6, symv 7], 23, 0⟩]
def hd34 : Sl := slots [(69, .slice (some ⟨1, 0, none⟩) 1 1), (8, .pointer (some ⟨0, 0, none⟩)), (7, .bool true), (2, symv 2), (1, symv 1), (0, symv 0)]
def hp34 : Sl := match aput 95 hd34 (some 67) (symv 19) with | some s => s | none => .nil
set_option maxRecDepth 100000 in
theorem e246 : trAll (stopSt so34) hd34 bk34 = some [(symv 0, symv 0), (symv 1, symv 1), (symv 2, symv 2), (symv 4, symv 4), (symv 5, symv 5), (symv 6, symv 6), (symv 7, symv 7), (symv 4, symv 4), (symv 5, symv 5), (symv 6, symv 6), (symv 7, symv 7)] := by kernel_rfl
set_option maxRecDepth 100000 in
theorem e247 : aput 95 hd34 (stopDst so34) (symv 19) = some hp34 := by kernel_rfl
set_option maxRecDepth 100000 in
theorem e248 : cellsAt (stopSt (ops' 95 F3 C3 (stopRest so34) (stopOps so34) (stopKs so34) { sl := hp34, ms := [], A := mkAS bk34 })).A 4 (.slice (some ⟨1, 0, none⟩) 1 1) = some [symv 4, symv 5, symv 6, symv 7] := by kernel_rfl
set_option maxRecDepth 100000 in
theorem e249 : appOf 27 (ops' 95 F3 C3 (stopRest so34) (stopOps so34) (stopKs so34) { sl := hp34, ms := [], A := mkAS bk34 }) = some (symv 19, .slice (some ⟨1, 0, none⟩) 1 1) := by kernel_rfl
noncomputable abbrev so35 := ops' 95 F3 C3 (stopRest so34) (stopOps so34) (stopKs so34) { sl := hp34, ms := [], A := mkAS bk34 }
noncomputable def bk35 : List Bk := [⟨.cells [symv 4, symv 5, symv 6, symv 7], 23, 0⟩]
def hd35 : Sl := slots [(8, .pointer (some ⟨0, 0, none⟩)), (7, .bool true), (2, symv 2), (1, symv 1), (0, symv 0)]
def hp35 : Sl := match aput 95 hd35 (some 70) (symv 20) with | some s => s | none => .nil
set_option maxRecDepth 100000 in
theorem e250 : trAll (stopSt so35) hd35 bk35 = some [(symv 0, symv 0), (symv 1, symv 1), (symv 2, symv 2), (symv 4, symv 4), (symv 5, symv 5), (symv 6, symv 6), (symv 7, symv 7)] := by kernel_rfl
set_option maxRecDepth 100000 in
theorem e251 : aput 95 hd35 (stopDst so35) (symv 20) = some hp35 := by kernel_rfl
set_option maxRecDepth 100000 in
theorem e252 : endVal Tryd.prog Tryd.f4 (ops' 95 F8 C8 (stopRest so35) (stopOps so35) (stopKs so35) { sl := hp35, ms := [], A := mkAS bk35 }) = some (.bool true) := by kernel_rfl
set_option maxRecDepth 100000 in
theorem e253 : endVal Tryd.prog Tryd.f4 (ops' 95 F9 C9 (stopRest so35) (stopOps so35) (stopKs so35) { sl := hp35, ms := [], A := mkAS bk35 }) = some (.bool false) := by kernel_rfl
set_option maxRecDepth 100000 in
theorem e254 : endVal Tryd.prog Tryd.f4 (ops' 95 F10 C10 (stopRest so35) (stopOps so35) (stopKs so35) { sl := hp35, ms := [], A := mkAS bk35 }) = some (.bool false) := by kernel_rfl
set_option maxRecDepth 100000 in
theorem e255 : endVal Tryd.prog Tryd.f4 (ops' 95 F11 C11 (stopRest so35) (stopOps so35) (stopKs so35) { sl := hp35, ms := [], A := mkAS bk35 }) = some (.bool true) := by kernel_rfl
set_option maxRecDepth 100000 in
theorem e256 : endVal Tryd.prog Tryd.f4 (ops' 95 F12 C12 (stopRest so35) (stopOps so35) (stopKs so35) { sl := hp35, ms := [], A := mkAS bk35 }) = some (.bool false) := by kernel_rfl
set_option maxRecDepth 100000 in
theorem e257 : endVal Tryd.prog Tryd.f4 (ops' 95 F13 C13 (stopRest so35) (stopOps so35) (stopKs so35) { sl := hp35, ms := [], A := mkAS bk35 }) = some (.bool false) := by kernel_rfl
set_option maxRecDepth 100000 in
theorem e258 : endVal Tryd.prog Tryd.f4 (ops' 95 F14 C14 (stopRest so35) (stopOps so35) (stopKs so35) { sl := hp35, ms := [], A := mkAS bk35 }) = some (.bool false) := by kernel_rfl
set_option maxRecDepth 100000 in
theorem e259 : appOf 27 (ops' 95 F3 C3 (drawList dr0 18) (drawOps dr0) (stopKs dr0) (stopSt dr0)) = some (.slice (some ⟨2, 0, none⟩) 0 0, symv 0) := by kernel_rfl
noncomputable abbrev so36 := ops' 95 F3 C3 (drawList dr0 18) (drawOps dr0) (stopKs dr0) (stopSt dr0)
noncomputable def bk36 : List Bk := [⟨.cells [symv 4, symv 5, symv 6, symv 7], 23, 0⟩, ⟨.cells [symv 4, symv 5, symv 6, symv 7], 23, 0⟩]
def hd36 : Sl := slots [(69, .slice (some ⟨1, 0, none⟩) 1 1), (8, .pointer (some ⟨0, 0, none⟩)), (7, .bool true), (2, symv 2), (1, symv 1), (0, symv 0)]
def hp36 : Sl := match aput 95 hd36 (some 67) (symv 19) with | some s => s | none => .nil
set_option maxRecDepth 100000 in
theorem e260 : trAll (stopSt so36) hd36 bk36 = some [(symv 0, symv 0), (symv 1, symv 1), (symv 2, symv 2), (symv 4, symv 4), (symv 5, symv 5), (symv 6, symv 6), (symv 7, symv 7), (symv 4, symv 4), (symv 5, symv 5), (symv 6, symv 6), (symv 7, symv 7)] := by kernel_rfl
set_option maxRecDepth 100000 in
theorem e261 : aput 95 hd36 (stopDst so36) (symv 19) = some hp36 := by kernel_rfl
set_option maxRecDepth 100000 in
theorem e262 : cellsAt (stopSt (ops' 95 F3 C3 (stopRest so36) (stopOps so36) (stopKs so36) { sl := hp36, ms := [], A := mkAS bk36 })).A 4 (.slice (some ⟨1, 0, none⟩) 1 1) = some [symv 4, symv 5, symv 6, symv 7] := by kernel_rfl
set_option maxRecDepth 100000 in
theorem e263 : appOf 27 (ops' 95 F3 C3 (stopRest so36) (stopOps so36) (stopKs so36) { sl := hp36, ms := [], A := mkAS bk36 }) = some (symv 19, .slice (some ⟨1, 0, none⟩) 1 1) := by kernel_rfl
noncomputable abbrev so37 := ops' 95 F3 C3 (stopRest so36) (stopOps so36) (stopKs so36) { sl := hp36, ms := [], A := mkAS bk36 }
noncomputable def bk37 : List Bk := [⟨.cells [symv 4, symv 5, symv 6, symv 7], 23, 0⟩]
def hd37 : Sl := slots [(8, .pointer (some ⟨0, 0, none⟩)), (7, .bool true), (2, symv 2), (1, symv 1), (0, symv 0)]
def hp37 : Sl := match aput 95 hd37 (some 70) (symv 20) with | some s => s | none => .nil
set_option maxRecDepth 100000 in
theorem e264 : trAll (stopSt so37) hd37 bk37 = some [(symv 0, symv 0), (symv 1, symv 1), (symv 2, symv 2), (symv 4, symv 4), (symv 5, symv 5), (symv 6, symv 6), (symv 7, symv 7)] := by kernel_rfl
set_option maxRecDepth 100000 in
theorem e265 : aput 95 hd37 (stopDst so37) (symv 20) = some hp37 := by kernel_rfl
set_option maxRecDepth 100000 in
theorem e266 : endVal Tryd.prog Tryd.f4 (ops' 95 F8 C8 (stopRest so37) (stopOps so37) (stopKs so37) { sl := hp37, ms := [], A := mkAS bk37 }) = some (.bool true) := by kernel_rfl
set_option maxRecDepth 100000 in
theorem e267 : endVal Tryd.prog Tryd.f4 (ops' 95 F9 C9 (stopRest so37) (stopOps so37) (stopKs so37) { sl := hp37, ms := [], A := mkAS bk37 }) = some (.bool false) := by kernel_rfl
set_option maxRecDepth 100000 in
theorem e268 : endVal Tryd.prog Tryd.f4 (ops' 95 F10 C10 (stopRest so37) (stopOps so37) (stopKs so37) { sl := hp37, ms := [], A := mkAS bk37 }) = some (.bool false) := by kernel_rfl
set_option maxRecDepth 100000 in
theorem e269 : endVal Tryd.prog Tryd.f4 (ops' 95 F11 C11 (stopRest so37) (stopOps so37) (stopKs so37) { sl := hp37, ms := [], A := mkAS bk37 }) = some (.bool true) := by kernel_rfl
set_option maxRecDepth 100000 in
theorem e270 : endVal Tryd.prog Tryd.f4 (ops' 95 F12 C12 (stopRest so37) (stopOps so37) (stopKs so37) { sl := hp37, ms := [], A := mkAS bk37 }) = some (.bool false) := by kernel_rfl
set_option maxRecDepth 100000 in
theorem e271 : endVal Tryd.prog Tryd.f4 (ops' 95 F13 C13 (stopRest so37) (stopOps so37) (stopKs so37) { sl := hp37, ms := [], A := mkAS bk37 }) = some (.bool false) := by kernel_rfl
set_option maxRecDepth 100000 in
theorem e272 : endVal Tryd.prog Tryd.f4 (ops' 95 F14 C14 (stopRest so37) (stopOps so37) (stopKs so37) { sl := hp37, ms := [], A := mkAS bk37 }) = some (.bool false) := by kernel_rfl
set_option maxRecDepth 100000 in
theorem e273 : appOf 27 (ops' 95 F3 C3 (drawList dr0 19) (drawOps dr0) (stopKs dr0) (stopSt dr0)) = some (.slice (some ⟨2, 0, none⟩) 0 0, symv 0) := by kernel_rfl
noncomputable abbrev so38 := ops' 95 F3 C3 (drawList dr0 19) (drawOps dr0) (stopKs dr0) (stopSt dr0)
noncomputable def bk38 : List Bk := [⟨.cells [symv 4, symv 5, symv 6, symv 7], 23, 0⟩, ⟨.cells [symv 4, symv 5, symv 6, symv 7], 23, 0⟩]
def hd38 : Sl := slots [(69, .slice (some ⟨1, 0, none⟩) 1 1), (8, .pointer (some ⟨0, 0, none⟩)), (7, .bool true), (2, symv 2), (1, symv 1), (0, symv 0)]
def hp38 : Sl := match aput 95 hd38 (some 67) (symv 19) with | some s => s | none => .nil
set_option maxRecDepth 100000 in
theorem e274 : trAll (stopSt so38) hd38 bk38 = some [(symv 0, symv 0), (symv 1, symv 1), (symv 2, symv 2), (symv 4, symv 4), (symv 5, symv 5), (symv 6, symv 6), (symv 7, symv 7), (symv 4, symv 4), (symv 5, symv 5), (symv 6, symv 6), (symv 7, symv 7)] := by kernel_rfl
set_option maxRecDepth 100000 in
theorem e275 : aput 95 hd38 (stopDst so38) (symv 19) = some hp38 := by kernel_rfl
set_option maxRecDepth 100000 in
theorem e276 : cellsAt (stopSt (ops' 95 F3 C3 (stopRest so38) (stopOps so38) (stopKs so38) { sl := hp38, ms := [], A := mkAS bk38 })).A 4 (.slice (some ⟨1, 0, none⟩) 1 1) = some [symv 4, symv 5, symv 6, symv 7] := by kernel_rfl
set_option maxRecDepth 100000 in
theorem e277 : appOf 27 (ops' 95 F3 C3 (stopRest so38) (stopOps so38) (stopKs so38) { sl := hp38, ms := [], A := mkAS bk38 }) = some (symv 19, .slice (some ⟨1, 0, none⟩) 1 1) := by kernel_rfl
noncomputable abbrev so39 := ops' 95 F3 C3 (stopRest so38) (stopOps so38) (stopKs so38) { sl := hp38, ms := [], A := mkAS bk38 }
noncomputable def bk39 : List Bk := [⟨.cells [symv 4, symv 5, symv 6, symv 7], 23, 0⟩]
def hd39 : Sl := slots [(8, .pointer (some ⟨0, 0, none⟩)), (7, .bool true), (2, symv 2), (1, symv 1), (0, symv 0)]
def hp39 : Sl := match aput 95 hd39 (some 70) (symv 20) with | some s => s | none => .nil
set_option maxRecDepth 100000 in
theorem e278 : trAll (stopSt so39) hd39 bk39 = some [(symv 0, symv 0), (symv 1, symv 1), (symv 2, symv 2), (symv 4, symv 4), (symv 5, symv 5), (symv 6, symv 6), (symv 7, symv 7)] := by kernel_rfl
set_option maxRecDepth 100000 in
theorem e279 : aput 95 hd39 (stopDst so39) (symv 20) = some hp39 := by kernel_rfl
set_option maxRecDepth 100000 in
theorem e280 : endVal Tryd.prog Tryd.f4 (ops' 95 F8 C8 (stopRest so39) (stopOps so39) (stopKs so39) { sl := hp39, ms := [], A := mkAS bk39 }) = some (.bool true) := by kernel_rfl
set_option maxRecDepth 100000 in
theorem e281 : endVal Tryd.prog Tryd.f4 (ops' 95 F9 C9 (stopRest so39) (stopOps so39) (stopKs so39) { sl := hp39, ms := [], A := mkAS bk39 }) = some (.bool false) := by kernel_rfl
set_option maxRecDepth 100000 in
theorem e282 : endVal Tryd.prog Tryd.f4 (ops' 95 F10 C10 (stopRest so39) (stopOps so39) (stopKs so39) { sl := hp39, ms := [], A := mkAS bk39 }) = some (.bool false) := by kernel_rfl
set_option maxRecDepth 100000 in
theorem e283 : endVal Tryd.prog Tryd.f4 (ops' 95 F11 C11 (stopRest so39) (stopOps so39) (stopKs so39) { sl := hp39, ms := [], A := mkAS bk39 }) = some (.bool true) := by kernel_rfl
set_option maxRecDepth 100000 in
theorem e284 : endVal Tryd.prog Tryd.f4 (ops' 95 F12 C12 (stopRest so39) (stopOps so39) (stopKs so39) { sl := hp39, ms := [], A := mkAS bk39 }) = some (.bool false) := by kernel_rfl
set_option maxRecDepth 100000 in
theorem e285 : endVal Tryd.prog Tryd.f4 (ops' 95 F13 C13 (stopRest so39) (stopOps so39) (stopKs so39) { sl := hp39, ms := [], A := mkAS bk39 }) = some (.bool false) := by kernel_rfl
set_option maxRecDepth 100000 in
theorem e286 : endVal Tryd.prog Tryd.f4 (ops' 95 F14 C14 (stopRest so39) (stopOps so39) (stopKs so39) { sl := hp39, ms := [], A := mkAS bk39 }) = some (.bool false) := by kernel_rfl
def F15 : List (FOp × Value) := [(.len #[27] 3 (symv 0), symv 3),
    (.bin .gtr 3 (symv 3) (.int .i64 60), .bool false),
    (.bin .neq 28 (symv 8) (.int .i64 0), .bool true),
    (.bin .eql 23 (.agg ⟨[symv 4, symv 5, symv 6, symv 7]⟩) (.agg ⟨[.int .i64 0, .int .i64 0, .int .i64 0, .int .i64 0]⟩), .bool true)]
def C15 : List (FuncId × List Value × Value) := [(6, [], .bool true),
    (8, [symv 0, symv 1, symv 2], .tuple ⟨[.agg ⟨[symv 4, symv 5, symv 6, symv 7]⟩, symv 8]⟩)]
set_option maxRecDepth 100000 in
theorem e287 : endVal Tryd.prog Tryd.f4 (at' 95 F15 C15 body s0) = some (.bool true) := by kernel_rfl
def F16 : List (FOp × Value) := [(.len #[27] 3 (symv 0), symv 3),
    (.bin .gtr 3 (symv 3) (.int .i64 60), .bool false),
    (.bin .neq 28 (symv 8) (.int .i64 0), .bool true),
    (.bin .eql 23 (.agg ⟨[symv 4, symv 5, symv 6, symv 7]⟩) (.agg ⟨[.int .i64 0, .int .i64 0, .int .i64 0, .int .i64 0]⟩), .bool false)]
def C16 : List (FuncId × List Value × Value) := [(6, [], .bool true),
    (8, [symv 0, symv 1, symv 2], .tuple ⟨[.agg ⟨[symv 4, symv 5, symv 6, symv 7]⟩, symv 8]⟩)]
set_option maxRecDepth 100000 in
theorem e288 : endVal Tryd.prog Tryd.f4 (at' 95 F16 C16 body s0) = some (.bool false) := by kernel_rfl
@[reducible] noncomputable def vL (l : List St) (a_l : Option Addr) (c_l : Nat) (site : Int) (tick : Int) (i : Nat) (b0 : List St) (a0 : Option Addr) (c0 : Nat) (b1 : List St) (a1 : Option Addr) (c1 : Nat) : List Value := [.slice a_l l.length c_l, .int .i64 site, .int .i64 tick, .int .i64 ((l.length : Nat) : Int), .int .i64 (nextSt l site tick).1, .int .i64 (nextSt l site tick).2.1, .int .i64 (nextSt l site tick).2.2.1, .int .i64 (nextSt l site tick).2.2.2, .int .i64 (nextErr l site tick), .int .i64 ((i : Nat) : Int), cellPtr (.slice a_l l.length c_l) (i * 4), .int .i64 (l.getD (i) default).1, .int .i64 (l.getD (i) default).2.1, .int .i64 (l.getD (i) default).2.2.1, .int .i64 (l.getD (i) default).2.2.2, .int .i64 (cmpS (l.getD (i) default) (nextSt l site tick)), cellPtr (.slice a_l l.length c_l) (i * 4 + 2), cellPtr (.slice a_l l.length c_l) (i * 4 + 3), .int .i64 ((i + 1 : Nat) : Int), .slice a0 b0.length c0, .slice a1 b1.length c1]
@[reducible] noncomputable def sg (M : Mem) (l : List St) (a_l : Option Addr) (c_l : Nat) (site : Int) (tick : Int) (i : Nat) (b0 : List St) (a0 : Option Addr) (c0 : Nat) (b1 : List St) (a1 : Option Addr) (c1 : Nat) : Sig := sgL M (vL l a_l c_l site tick i b0 a0 c0 b1 a1 c1)
set_option maxHeartbeats 4000000 in
set_option maxRecDepth 100000 in
theorem any (W : World) {v_l : Value} {l : List St} (hl : Arr (heapOf W) 4 encS v_l l) (site : Int) (tick : Int)  : Calls Tryd.prog 4 #[v_l, .int .i64 site, .int .i64 tick] W fun e w' => e = .returned (.bool true) ∧ Low W.heap.size W w' := by
  obtain ⟨a_l, c_l, rfl⟩ := hl.slice
  refine @walk_enter (sg (heapOf W) l a_l c_l site tick 0 [] none 0 [] none 0) Tryd.prog 4 Tryd.f4 body [symv 0, symv 1, symv 2] (slots [(2, symv 2), (1, symv 1), (0, symv 0)]) N W _ Tryd.func4 (by kernel_rfl) (by kernel_rfl) (by kernel_rfl) (by kernel_rfl) (immW_sgL W _) fun a hh => ?_
  letI := (sg (heapOf W) l a_l c_l site tick 0 [] none 0 [] none 0)
  by_cases h0 : 60 < ((l.length : Nat) : Int)
  · refine walk_to (F := F0) (T := C0) (fuel := 1000) (d := 10) mixed (allF_cons (FactOk.arrLen hl rfl rfl under27 rfl rfl) (allF_cons (FactOk.bi rfl rfl rfl rfl rfl rfl (boolT (by omega))) allF_nil)) (allC_cons (callSanity) allC_nil) ?_ hh
    exact ostop_end e0 fun w2 hLow hIn => ⟨(by first | rfl | (exfalso; first | exact h2 (nextBad h1) | (have := nextCmp h1 (show i < l.length by omega); omega) | (have := nextSeq h1 (show i < l.length by omega) p2; omega) | exact v0 (nextLast h1).1 | exact v1 (nextLast h1).2.1 | exact v2 (nextLast h1).2.2.1 | exact v4 ((nextOrd h1 (by rw [hb1, hb0]; rfl)).1 v3) | exact v3 ((nextOrd h1 (by rw [hb1, hb0]; rfl)).2 v4))), hLow⟩   -- returns .bool true
  · by_cases h1 : (nextErr l site tick) = 0
    · refine walk_to (F := F1) (T := C1) (fuel := 1000) (d := 10) mixed (allF_cons (FactOk.arrLen hl rfl rfl under27 rfl rfl) (allF_cons (FactOk.bi rfl rfl rfl rfl rfl rfl (boolF (by omega))) (allF_cons (FactOk.bi rfl rfl rfl rfl rfl rfl (nboolF (by omega))) allF_nil))) (allC_cons (callSanity) (allC_cons (callNext rfl rfl rfl rfl hl (by omega)) allC_nil)) ?_ hh
      -- LOOP 0: slot 6 = .bool false is written in the loop: left out
      refine ostop_loop (sg := (fun i => sg (heapOf W) l a_l c_l site tick i [] none 0 [] none 0)) (fun i => i ≤ l.length) (fun i => l.length - i) 0 e1 (meet_cons (by exact meetV (.slice a_l l.length c_l) rfl rfl) (meet_cons (by exact meetV (.int .i64 site) rfl rfl) (meet_cons (by exact meetV (.int .i64 tick) rfl rfl) (meet_cons rfl (meet_cons (by exact meetV (.int .i64 (nextSt l site tick).1) rfl rfl) (meet_cons (by exact meetV (.int .i64 (nextSt l site tick).2.1) rfl rfl) (meet_cons (by exact meetV (.int .i64 (nextSt l site tick).2.2.1) rfl rfl) (meet_cons (by exact meetV (.int .i64 (nextSt l site tick).2.2.2) rfl rfl) meet_nil)))))))) (fun _ _ h => h) (by exact Nat.zero_le _) ?_
      intro i hI a w hh
      letI := (sg (heapOf W) l a_l c_l site tick i [] none 0 [] none 0)
      by_cases p0 : ((i : Nat) : Int) < ((l.length : Nat) : Int)
      · by_cases p1 : 0 ≤ (cmpS (l.getD (i) default) (nextSt l site tick))
        · refine walk_to (F := F2) (T := C2) (fuel := 1000) (d := 10) mixed (allF_cons (FactOk.arrLen hl rfl rfl under27 rfl rfl) (allF_cons (FactOk.bi rfl rfl rfl rfl rfl rfl (boolT (by omega))) (allF_cons (FactOk.arrIxa hl (show i < l.length by omega) rfl rfl rfl under27 sizeSt rfl rfl rfl) (allF_cons (FactOk.arrLd hl (getSome (show i < l.length by omega)) rfl rfl aggSt sizeSt rfl rfl rfl) (allF_cons (FactOk.bi rfl rfl rfl rfl rfl rfl (boolT (by omega))) allF_nil))))) (allC_cons (callCmpS rfl rfl rfl rfl) allC_nil) ?_ hh
          refine walk_leave (F := F3) (T := C3) (fuel := 1000) (d := 10) mixed allF_nil allC_nil ?_
          exact ostop_end e2 fun w2 hLow hIn => ⟨(by first | rfl | (exfalso; first | exact h2 (nextBad h1) | (have := nextCmp h1 (show i < l.length by omega); omega) | (have := nextSeq h1 (show i < l.length by omega) p2; omega) | exact v0 (nextLast h1).1 | exact v1 (nextLast h1).2.1 | exact v2 (nextLast h1).2.2.1 | exact v4 ((nextOrd h1 (by rw [hb1, hb0]; rfl)).1 v3) | exact v3 ((nextOrd h1 (by rw [hb1, hb0]; rfl)).2 v4))), hLow⟩   -- returns .bool false
        · by_cases p2 : (l.getD (i) default).2.2.1 = (nextSt l site tick).2.2.1
          · by_cases p3 : (nextSt l site tick).2.2.2 ≤ (l.getD (i) default).2.2.2
            · refine walk_to (F := F4) (T := C4) (fuel := 1000) (d := 10) mixed (allF_cons (FactOk.arrLen hl rfl rfl under27 rfl rfl) (allF_cons (FactOk.bi rfl rfl rfl rfl rfl rfl (boolT (by omega))) (allF_cons (FactOk.arrIxa hl (show i < l.length by omega) rfl rfl rfl under27 sizeSt rfl rfl rfl) (allF_cons (FactOk.arrLd hl (getSome (show i < l.length by omega)) rfl rfl aggSt sizeSt rfl rfl rfl) (allF_cons (FactOk.bi rfl rfl rfl rfl rfl rfl (boolF (by omega))) (allF_cons (arrFa2 hl (show i < l.length by omega) rfl rfl rfl rfl) (allF_cons (FactOk.arrLd1 (j := 2) hl (getSome (show i < l.length by omega)) rfl rfl aggInt rfl rfl rfl rfl) (allF_cons (FactOk.bi rfl rfl rfl rfl rfl rfl (boolT (by omega))) (allF_cons (arrFa3 hl (show i < l.length by omega) rfl rfl rfl rfl) (allF_cons (FactOk.arrLd1 (j := 3) hl (getSome (show i < l.length by omega)) rfl rfl aggInt rfl rfl rfl rfl) (allF_cons (FactOk.bi rfl rfl rfl rfl rfl rfl (boolT (by omega))) allF_nil))))))))))) (allC_cons (callCmpS rfl rfl rfl rfl) allC_nil) ?_ hh
              refine walk_leave (F := F3) (T := C3) (fuel := 1000) (d := 10) mixed allF_nil allC_nil ?_
              exact ostop_end e3 fun w2 hLow hIn => ⟨(by first | rfl | (exfalso; first | exact h2 (nextBad h1) | (have := nextCmp h1 (show i < l.length by omega); omega) | (have := nextSeq h1 (show i < l.length by omega) p2; omega) | exact v0 (nextLast h1).1 | exact v1 (nextLast h1).2.1 | exact v2 (nextLast h1).2.2.1 | exact v4 ((nextOrd h1 (by rw [hb1, hb0]; rfl)).1 v3) | exact v3 ((nextOrd h1 (by rw [hb1, hb0]; rfl)).2 v4))), hLow⟩   -- returns .bool false
            · refine walk_to (F := F5) (T := C5) (fuel := 1000) (d := 10) mixed (allF_cons (FactOk.arrLen hl rfl rfl under27 rfl rfl) (allF_cons (FactOk.bi rfl rfl rfl rfl rfl rfl (boolT (by omega))) (allF_cons (FactOk.arrIxa hl (show i < l.length by omega) rfl rfl rfl under27 sizeSt rfl rfl rfl) (allF_cons (FactOk.arrLd hl (getSome (show i < l.length by omega)) rfl rfl aggSt sizeSt rfl rfl rfl) (allF_cons (FactOk.bi rfl rfl rfl rfl rfl rfl (boolF (by omega))) (allF_cons (arrFa2 hl (show i < l.length by omega) rfl rfl rfl rfl) (allF_cons (FactOk.arrLd1 (j := 2) hl (getSome (show i < l.length by omega)) rfl rfl aggInt rfl rfl rfl rfl) (allF_cons (FactOk.bi rfl rfl rfl rfl rfl rfl (boolT (by omega))) (allF_cons (arrFa3 hl (show i < l.length by omega) rfl rfl rfl rfl) (allF_cons (FactOk.arrLd1 (j := 3) hl (getSome (show i < l.length by omega)) rfl rfl aggInt rfl rfl rfl rfl) (allF_cons (FactOk.bi rfl rfl rfl rfl rfl rfl (boolF (by omega))) (allF_cons (FactOk.bi rfl rfl rfl rfl rfl rfl (intI (by omega) (by omega) (by omega))) allF_nil)))))))))))) (allC_cons (callCmpS rfl rfl rfl rfl) allC_nil) ?_ hh
              exact ostop_back (sg := (fun i => sg (heapOf W) l a_l c_l site tick i [] none 0 [] none 0)) (I := fun i => i ≤ l.length) (μ := fun i => l.length - i) (x := i) (i + 1) e4 (meet_cons (by exact meetV (.slice a_l l.length c_l) rfl rfl) (meet_cons (by exact meetV (.int .i64 site) rfl rfl) (meet_cons (by exact meetV (.int .i64 tick) rfl rfl) (meet_cons (by exact meetV (.int .i64 ((i + 1 : Nat) : Int)) rfl rfl) (meet_cons (by exact meetV (.int .i64 (nextSt l site tick).1) rfl rfl) (meet_cons (by exact meetV (.int .i64 (nextSt l site tick).2.1) rfl rfl) (meet_cons (by exact meetV (.int .i64 (nextSt l site tick).2.2.1) rfl rfl) (meet_cons (by exact meetV (.int .i64 (nextSt l site tick).2.2.2) rfl rfl) meet_nil)))))))) (fun _ _ h => h) (by show i + 1 ≤ l.length; omega) (by show _ < _; omega)
          · refine walk_to (F := F6) (T := C6) (fuel := 1000) (d := 10) mixed (allF_cons (FactOk.arrLen hl rfl rfl under27 rfl rfl) (allF_cons (FactOk.bi rfl rfl rfl rfl rfl rfl (boolT (by omega))) (allF_cons (FactOk.arrIxa hl (show i < l.length by omega) rfl rfl rfl under27 sizeSt rfl rfl rfl) (allF_cons (FactOk.arrLd hl (getSome (show i < l.length by omega)) rfl rfl aggSt sizeSt rfl rfl rfl) (allF_cons (FactOk.bi rfl rfl rfl rfl rfl rfl (boolF (by omega))) (allF_cons (arrFa2 hl (show i < l.length by omega) rfl rfl rfl rfl) (allF_cons (FactOk.arrLd1 (j := 2) hl (getSome (show i < l.length by omega)) rfl rfl aggInt rfl rfl rfl rfl) (allF_cons (FactOk.bi rfl rfl rfl rfl rfl rfl (boolF (by omega))) (allF_cons (FactOk.bi rfl rfl rfl rfl rfl rfl (intI (by omega) (by omega) (by omega))) allF_nil))))))))) (allC_cons (callCmpS rfl rfl rfl rfl) allC_nil) ?_ hh
            exact ostop_back (sg := (fun i => sg (heapOf W) l a_l c_l site tick i [] none 0 [] none 0)) (I := fun i => i ≤ l.length) (μ := fun i => l.length - i) (x := i) (i + 1) e5 (meet_cons (by exact meetV (.slice a_l l.length c_l) rfl rfl) (meet_cons (by exact meetV (.int .i64 site) rfl rfl) (meet_cons (by exact meetV (.int .i64 tick) rfl rfl) (meet_cons (by exact meetV (.int .i64 ((i + 1 : Nat) : Int)) rfl rfl) (meet_cons (by exact meetV (.int .i64 (nextSt l site tick).1) rfl rfl) (meet_cons (by exact meetV (.int .i64 (nextSt l site tick).2.1) rfl rfl) (meet_cons (by exact meetV (.int .i64 (nextSt l site tick).2.2.1) rfl rfl) (meet_cons (by exact meetV (.int .i64 (nextSt l site tick).2.2.2) rfl rfl) meet_nil)))))))) (fun _ _ h => h) (by show i + 1 ≤ l.length; omega) (by show _ < _; omega)
      · refine walk_to (F := F7) (T := C7) (fuel := 1000) (d := 10) mixed (allF_cons (FactOk.arrLen hl rfl rfl under27 rfl rfl) (allF_cons (FactOk.bi rfl rfl rfl rfl rfl rfl (boolF (by omega))) allF_nil)) allC_nil ?_ hh
        refine walk_leave (F := F3) (T := C3) (fuel := 1000) (d := 10) mixed allF_nil allC_nil ?_
        refine ostop_draw mixed e6 (belowS (belowS (belowS (belowS (belowS (belowS (belowS (belowS (belowS (belowS (belowS (belowS (belowS (belowS (belowS (belowS (belowS (belowS (belowS (belowS below0 ?_) ?_) ?_) ?_) ?_) ?_) ?_) ?_) ?_) ?_) ?_) ?_) ?_) ?_) ?_) ?_) ?_) ?_) ?_) ?_)
        · intro a w hh
          refine walk_ops (F := F3) (T := C3) (fuel := 1000) (d := 10) mixed allF_nil allC_nil ?_ hh
          obtain ⟨b0, hb0⟩ : ∃ b0 : List St, b0 = [] ++ l := ⟨_, rfl⟩
          have hn0 : b0.length = 0 + l.length := by rw [hb0]; first | rfl | simp
          refine ostop_appendO (l := []) (lx := l) (l' := b0) (vals2 := fun a c => (vL l a_l c_l site tick i b0 a c [] none 0)) (T := none) hb0 e7 underSl infoS zeroS iszS ibyS zszS (by decide) hkS honeS e8 e9 rfl (appTo_blk (by kernel_rfl)) (app_sym rfl rfl fun w hw => hl.reads hkS hw) (lenMax (show 0 + l.length ≤ 1000000 by omega)) (show (0 + l.length) * bytesS ≤ 140737488355328 by unfold bytesS; omega) (fun _ _ _ => (meet_cons (by exact meetV (.slice a_l l.length c_l) rfl rfl) (meet_cons (by exact meetV (.int .i64 site) rfl rfl) (meet_cons (by exact meetV (.int .i64 tick) rfl rfl) (meet_cons (by exact meetV (.int .i64 (nextSt l site tick).1) rfl rfl) (meet_cons (by exact meetV (.int .i64 (nextSt l site tick).2.1) rfl rfl) (meet_cons (by exact meetV (.int .i64 (nextSt l site tick).2.2.1) rfl rfl) (meet_cons (by exact meetV (.int .i64 (nextSt l site tick).2.2.2) rfl rfl) meet_nil)))))))) (fun _ _ _ => rfl) ?_
          intro M0 a0 c0 hO0 hK0 hT0 a w hh
          have hM0 := hK0.up hT0 (Nat.le_refl _) (fun _ _ h => h)
          letI := (sg M0 l a_l c_l site tick i b0 a0 c0 [] none 0)
          refine walk_ops (F := F3) (T := C3) (fuel := 1000) (d := 10) mixed allF_nil allC_nil ?_ hh
          obtain ⟨b1, hb1⟩ : ∃ b1 : List St, b1 = b0 ++ [(nextSt l site tick)] := ⟨_, rfl⟩
          have hn1 : b1.length = b0.length + 1 := by rw [hb1]; first | rfl | simp
          refine ostop_appendO (l := b0) (lx := [(nextSt l site tick)]) (l' := b1) (vals2 := fun a c => (vL l a_l c_l site tick i b0 a0 c0 b1 a c)) (T := (obl (.slice a0 b0.length c0))) hb1 e11 underSl infoS zeroS iszS ibyS zszS (by decide) hkS honeS e12 e13 rfl (appTo_sym rfl rfl hO0) (app_cells e10 hkS (by decide) rfl) (lenMax (show b0.length + 1 ≤ 1000000 by omega)) (show (b0.length + 1) * bytesS ≤ 140737488355328 by unfold bytesS; omega) (fun _ _ _ => (meet_cons (by exact meetV (.slice a_l l.length c_l) rfl rfl) (meet_cons (by exact meetV (.int .i64 site) rfl rfl) (meet_cons (by exact meetV (.int .i64 tick) rfl rfl) (meet_cons (by exact meetV (.int .i64 (nextSt l site tick).1) rfl rfl) (meet_cons (by exact meetV (.int .i64 (nextSt l site tick).2.1) rfl rfl) (meet_cons (by exact meetV (.int .i64 (nextSt l site tick).2.2.1) rfl rfl) (meet_cons (by exact meetV (.int .i64 (nextSt l site tick).2.2.2) rfl rfl) meet_nil)))))))) (fun _ _ _ => rfl) ?_
          intro M1 a1 c1 hO1 hK1 hT1 a w hh
          have hM1 := hK1.up hT1 (Nat.le_refl _) hM0
          letI := (sg M1 l a_l c_l site tick i b0 a0 c0 b1 a1 c1)
          by_cases v0 : ValidP (nextSt l site tick)
          · by_cases v1 : (nextSt l site tick).2.2.1 = site
            · by_cases v2 : (nextSt l site tick).1 = tick
              · by_cases v3 : ordB b1 = true
                · by_cases v4 : ordB l = true
                  · refine walk_ops (F := F8) (T := C8) (fuel := 1000) (d := 10) mixed (allF_cons (FactOk.bi rfl rfl rfl rfl rfl rfl (boolT (by omega))) (allF_cons (FactOk.bi rfl rfl rfl rfl rfl rfl (boolT (by omega))) allF_nil)) (allC_cons (callValidT rfl rfl v0) (allC_cons (callOrdT rfl rfl (hO1.arr hkS) (by omega) v3) (allC_cons (callOrdT rfl rfl (hl.mono hM1) (by omega) v4) allC_nil))) ?_ hh
                    exact ostop_end e14 fun w2 hLow hIn => ⟨(by first | rfl | (exfalso; first | exact h2 (nextBad h1) | (have := nextCmp h1 (show i < l.length by omega); omega) | (have := nextSeq h1 (show i < l.length by omega) p2; omega) | exact v0 (nextLast h1).1 | exact v1 (nextLast h1).2.1 | exact v2 (nextLast h1).2.2.1 | exact v4 ((nextOrd h1 (by rw [hb1, hb0]; rfl)).1 v3) | exact v3 ((nextOrd h1 (by rw [hb1, hb0]; rfl)).2 v4))), hLow⟩   -- returns .bool true
                  · refine walk_ops (F := F9) (T := C9) (fuel := 1000) (d := 10) mixed (allF_cons (FactOk.bi rfl rfl rfl rfl rfl rfl (boolT (by omega))) (allF_cons (FactOk.bi rfl rfl rfl rfl rfl rfl (boolT (by omega))) allF_nil)) (allC_cons (callValidT rfl rfl v0) (allC_cons (callOrdT rfl rfl (hO1.arr hkS) (by omega) v3) (allC_cons (callOrdF rfl rfl (hl.mono hM1) (by omega) v4) allC_nil))) ?_ hh
                    exact ostop_end e15 fun w2 hLow hIn => ⟨(by first | rfl | (exfalso; first | exact h2 (nextBad h1) | (have := nextCmp h1 (show i < l.length by omega); omega) | (have := nextSeq h1 (show i < l.length by omega) p2; omega) | exact v0 (nextLast h1).1 | exact v1 (nextLast h1).2.1 | exact v2 (nextLast h1).2.2.1 | exact v4 ((nextOrd h1 (by rw [hb1, hb0]; rfl)).1 v3) | exact v3 ((nextOrd h1 (by rw [hb1, hb0]; rfl)).2 v4))), hLow⟩   -- returns .bool false
                · by_cases v4 : ordB l = true
                  · refine walk_ops (F := F10) (T := C10) (fuel := 1000) (d := 10) mixed (allF_cons (FactOk.bi rfl rfl rfl rfl rfl rfl (boolT (by omega))) (allF_cons (FactOk.bi rfl rfl rfl rfl rfl rfl (boolT (by omega))) allF_nil)) (allC_cons (callValidT rfl rfl v0) (allC_cons (callOrdF rfl rfl (hO1.arr hkS) (by omega) v3) (allC_cons (callOrdT rfl rfl (hl.mono hM1) (by omega) v4) allC_nil))) ?_ hh
                    exact ostop_end e16 fun w2 hLow hIn => ⟨(by first | rfl | (exfalso; first | exact h2 (nextBad h1) | (have := nextCmp h1 (show i < l.length by omega); omega) | (have := nextSeq h1 (show i < l.length by omega) p2; omega) | exact v0 (nextLast h1).1 | exact v1 (nextLast h1).2.1 | exact v2 (nextLast h1).2.2.1 | exact v4 ((nextOrd h1 (by rw [hb1, hb0]; rfl)).1 v3) | exact v3 ((nextOrd h1 (by rw [hb1, hb0]; rfl)).2 v4))), hLow⟩   -- returns .bool false
                  · refine walk_ops (F := F11) (T := C11) (fuel := 1000) (d := 10) mixed (allF_cons (FactOk.bi rfl rfl rfl rfl rfl rfl (boolT (by omega))) (allF_cons (FactOk.bi rfl rfl rfl rfl rfl rfl (boolT (by omega))) allF_nil)) (allC_cons (callValidT rfl rfl v0) (allC_cons (callOrdF rfl rfl (hO1.arr hkS) (by omega) v3) (allC_cons (callOrdF rfl rfl (hl.mono hM1) (by omega) v4) allC_nil))) ?_ hh
                    exact ostop_end e17 fun w2 hLow hIn => ⟨(by first | rfl | (exfalso; first | exact h2 (nextBad h1) | (have := nextCmp h1 (show i < l.length by omega); omega) | (have := nextSeq h1 (show i < l.length by omega) p2; omega) | exact v0 (nextLast h1).1 | exact v1 (nextLast h1).2.1 | exact v2 (nextLast h1).2.2.1 | exact v4 ((nextOrd h1 (by rw [hb1, hb0]; rfl)).1 v3) | exact v3 ((nextOrd h1 (by rw [hb1, hb0]; rfl)).2 v4))), hLow⟩   -- returns .bool true
              · refine walk_ops (F := F12) (T := C12) (fuel := 1000) (d := 10) mixed (allF_cons (FactOk.bi rfl rfl rfl rfl rfl rfl (boolT (by omega))) (allF_cons (FactOk.bi rfl rfl rfl rfl rfl rfl (boolF (by omega))) allF_nil)) (allC_cons (callValidT rfl rfl v0) allC_nil) ?_ hh
                exact ostop_end e18 fun w2 hLow hIn => ⟨(by first | rfl | (exfalso; first | exact h2 (nextBad h1) | (have := nextCmp h1 (show i < l.length by omega); omega) | (have := nextSeq h1 (show i < l.length by omega) p2; omega) | exact v0 (nextLast h1).1 | exact v1 (nextLast h1).2.1 | exact v2 (nextLast h1).2.2.1 | exact v4 ((nextOrd h1 (by rw [hb1, hb0]; rfl)).1 v3) | exact v3 ((nextOrd h1 (by rw [hb1, hb0]; rfl)).2 v4))), hLow⟩   -- returns .bool false
            · refine walk_ops (F := F13) (T := C13) (fuel := 1000) (d := 10) mixed (allF_cons (FactOk.bi rfl rfl rfl rfl rfl rfl (boolF (by omega))) allF_nil) (allC_cons (callValidT rfl rfl v0) allC_nil) ?_ hh
              exact ostop_end e19 fun w2 hLow hIn => ⟨(by first | rfl | (exfalso; first | exact h2 (nextBad h1) | (have := nextCmp h1 (show i < l.length by omega); omega) | (have := nextSeq h1 (show i < l.length by omega) p2; omega) | exact v0 (nextLast h1).1 | exact v1 (nextLast h1).2.1 | exact v2 (nextLast h1).2.2.1 | exact v4 ((nextOrd h1 (by rw [hb1, hb0]; rfl)).1 v3) | exact v3 ((nextOrd h1 (by rw [hb1, hb0]; rfl)).2 v4))), hLow⟩   -- returns .bool false
          · refine walk_ops (F := F14) (T := C14) (fuel := 1000) (d := 10) mixed allF_nil (allC_cons (callValidF rfl rfl v0) allC_nil) ?_ hh
            exact ostop_end e20 fun w2 hLow hIn => ⟨(by first | rfl | (exfalso; first | exact h2 (nextBad h1) | (have := nextCmp h1 (show i < l.length by omega); omega) | (have := nextSeq h1 (show i < l.length by omega) p2; omega) | exact v0 (nextLast h1).1 | exact v1 (nextLast h1).2.1 | exact v2 (nextLast h1).2.2.1 | exact v4 ((nextOrd h1 (by rw [hb1, hb0]; rfl)).1 v3) | exact v3 ((nextOrd h1 (by rw [hb1, hb0]; rfl)).2 v4))), hLow⟩   -- returns .bool false
        · intro a w hh
          refine walk_ops (F := F3) (T := C3) (fuel := 1000) (d := 10) mixed allF_nil allC_nil ?_ hh
          obtain ⟨b0, hb0⟩ : ∃ b0 : List St, b0 = [] ++ l := ⟨_, rfl⟩
          have hn0 : b0.length = 0 + l.length := by rw [hb0]; first | rfl | simp
          refine ostop_appendO (l := []) (lx := l) (l' := b0) (vals2 := fun a c => (vL l a_l c_l site tick i b0 a c [] none 0)) (T := none) hb0 e21 underSl infoS zeroS iszS ibyS zszS (by decide) hkS honeS e22 e23 rfl (appTo_blk (by kernel_rfl)) (app_sym rfl rfl fun w hw => hl.reads hkS hw) (lenMax (show 0 + l.length ≤ 1000000 by omega)) (show (0 + l.length) * bytesS ≤ 140737488355328 by unfold bytesS; omega) (fun _ _ _ => (meet_cons (by exact meetV (.slice a_l l.length c_l) rfl rfl) (meet_cons (by exact meetV (.int .i64 site) rfl rfl) (meet_cons (by exact meetV (.int .i64 tick) rfl rfl) (meet_cons (by exact meetV (.int .i64 (nextSt l site tick).1) rfl rfl) (meet_cons (by exact meetV (.int .i64 (nextSt l site tick).2.1) rfl rfl) (meet_cons (by exact meetV (.int .i64 (nextSt l site tick).2.2.1) rfl rfl) (meet_cons (by exact meetV (.int .i64 (nextSt l site tick).2.2.2) rfl rfl) (meet_cons (by exact meetV (.int .i64 (nextSt l site tick).1) rfl rfl) (meet_cons (by exact meetV (.int .i64 (nextSt l site tick).2.1) rfl rfl) (meet_cons (by exact meetV (.int .i64 (nextSt l site tick).2.2.1) rfl rfl) (meet_cons (by exact meetV (.int .i64 (nextSt l site tick).2.2.2) rfl rfl) meet_nil)))))))))))) (fun _ _ _ => rfl) ?_
          intro M0 a0 c0 hO0 hK0 hT0 a w hh
          have hM0 := hK0.up hT0 (Nat.le_refl _) (fun _ _ h => h)
          letI := (sg M0 l a_l c_l site tick i b0 a0 c0 [] none 0)
          refine walk_ops (F := F3) (T := C3) (fuel := 1000) (d := 10) mixed allF_nil allC_nil ?_ hh
          obtain ⟨b1, hb1⟩ : ∃ b1 : List St, b1 = b0 ++ [(nextSt l site tick)] := ⟨_, rfl⟩
          have hn1 : b1.length = b0.length + 1 := by rw [hb1]; first | rfl | simp
          refine ostop_appendO (l := b0) (lx := [(nextSt l site tick)]) (l' := b1) (vals2 := fun a c => (vL l a_l c_l site tick i b0 a0 c0 b1 a c)) (T := (obl (.slice a0 b0.length c0))) hb1 e25 underSl infoS zeroS iszS ibyS zszS (by decide) hkS honeS e26 e27 rfl (appTo_sym rfl rfl hO0) (app_cells e24 hkS (by decide) rfl) (lenMax (show b0.length + 1 ≤ 1000000 by omega)) (show (b0.length + 1) * bytesS ≤ 140737488355328 by unfold bytesS; omega) (fun _ _ _ => (meet_cons (by exact meetV (.slice a_l l.length c_l) rfl rfl) (meet_cons (by exact meetV (.int .i64 site) rfl rfl) (meet_cons (by exact meetV (.int .i64 tick) rfl rfl) (meet_cons (by exact meetV (.int .i64 (nextSt l site tick).1) rfl rfl) (meet_cons (by exact meetV (.int .i64 (nextSt l site tick).2.1) rfl rfl) (meet_cons (by exact meetV (.int .i64 (nextSt l site tick).2.2.1) rfl rfl) (meet_cons (by exact meetV (.int .i64 (nextSt l site tick).2.2.2) rfl rfl) meet_nil)))))))) (fun _ _ _ => rfl) ?_
          intro M1 a1 c1 hO1 hK1 hT1 a w hh
          have hM1 := hK1.up hT1 (Nat.le_refl _) hM0
          letI := (sg M1 l a_l c_l site tick i b0 a0 c0 b1 a1 c1)
          by_cases v0 : ValidP (nextSt l site tick)
          · by_cases v1 : (nextSt l site tick).2.2.1 = site
            · by_cases v2 : (nextSt l site tick).1 = tick
              · by_cases v3 : ordB b1 = true
                · by_cases v4 : ordB l = true
                  · refine walk_ops (F := F8) (T := C8) (fuel := 1000) (d := 10) mixed (allF_cons (FactOk.bi rfl rfl rfl rfl rfl rfl (boolT (by omega))) (allF_cons (FactOk.bi rfl rfl rfl rfl rfl rfl (boolT (by omega))) allF_nil)) (allC_cons (callValidT rfl rfl v0) (allC_cons (callOrdT rfl rfl (hO1.arr hkS) (by omega) v3) (allC_cons (callOrdT rfl rfl (hl.mono hM1) (by omega) v4) allC_nil))) ?_ hh
                    exact ostop_end e28 fun w2 hLow hIn => ⟨(by first | rfl | (exfalso; first | exact h2 (nextBad h1) | (have := nextCmp h1 (show i < l.length by omega); omega) | (have := nextSeq h1 (show i < l.length by omega) p2; omega) | exact v0 (nextLast h1).1 | exact v1 (nextLast h1).2.1 | exact v2 (nextLast h1).2.2.1 | exact v4 ((nextOrd h1 (by rw [hb1, hb0]; rfl)).1 v3) | exact v3 ((nextOrd h1 (by rw [hb1, hb0]; rfl)).2 v4))), hLow⟩   -- returns .bool true
                  · refine walk_ops (F := F9) (T := C9) (fuel := 1000) (d := 10) mixed (allF_cons (FactOk.bi rfl rfl rfl rfl rfl rfl (boolT (by omega))) (allF_cons (FactOk.bi rfl rfl rfl rfl rfl rfl (boolT (by omega))) allF_nil)) (allC_cons (callValidT rfl rfl v0) (allC_cons (callOrdT rfl rfl (hO1.arr hkS) (by omega) v3) (allC_cons (callOrdF rfl rfl (hl.mono hM1) (by omega) v4) allC_nil))) ?_ hh
                    exact ostop_end e29 fun w2 hLow hIn => ⟨(by first | rfl | (exfalso; first | exact h2 (nextBad h1) | (have := nextCmp h1 (show i < l.length by omega); omega) | (have := nextSeq h1 (show i < l.length by omega) p2; omega) | exact v0 (nextLast h1).1 | exact v1 (nextLast h1).2.1 | exact v2 (nextLast h1).2.2.1 | exact v4 ((nextOrd h1 (by rw [hb1, hb0]; rfl)).1 v3) | exact v3 ((nextOrd h1 (by rw [hb1, hb0]; rfl)).2 v4))), hLow⟩   -- returns .bool false
                · by_cases v4 : ordB l = true
                  · refine walk_ops (F := F10) (T := C10) (fuel := 1000) (d := 10) mixed (allF_cons (FactOk.bi rfl rfl rfl rfl rfl rfl (boolT (by omega))) (allF_cons (FactOk.bi rfl rfl rfl rfl rfl rfl (boolT (by omega))) allF_nil)) (allC_cons (callValidT rfl rfl v0) (allC_cons (callOrdF rfl rfl (hO1.arr hkS) (by omega) v3) (allC_cons (callOrdT rfl rfl (hl.mono hM1) (by omega) v4) allC_nil))) ?_ hh
                    exact ostop_end e30 fun w2 hLow hIn => ⟨(by first | rfl | (exfalso; first | exact h2 (nextBad h1) | (have := nextCmp h1 (show i < l.length by omega); omega) | (have := nextSeq h1 (show i < l.length by omega) p2; omega) | exact v0 (nextLast h1).1 | exact v1 (nextLast h1).2.1 | exact v2 (nextLast h1).2.2.1 | exact v4 ((nextOrd h1 (by rw [hb1, hb0]; rfl)).1 v3) | exact v3 ((nextOrd h1 (by rw [hb1, hb0]; rfl)).2 v4))), hLow⟩   -- returns .bool false
                  · refine walk_ops (F := F11) (T := C11) (fuel := 1000) (d := 10) mixed (allF_cons (FactOk.bi rfl rfl rfl rfl rfl rfl (boolT (by omega))) (allF_cons (FactOk.bi rfl rfl rfl rfl rfl rfl (boolT (by omega))) allF_nil)) (allC_cons (callValidT rfl rfl v0) (allC_cons (callOrdF rfl rfl (hO1.arr hkS) (by omega) v3) (allC_cons (callOrdF rfl rfl (hl.mono hM1) (by omega) v4) allC_nil))) ?_ hh
                    exact ostop_end e31 fun w2 hLow hIn => ⟨(by first | rfl | (exfalso; first | exact h2 (nextBad h1) | (have := nextCmp h1 (show i < l.length by omega); omega) | (have := nextSeq h1 (show i < l.length by omega) p2; omega) | exact v0 (nextLast h1).1 | exact v1 (nextLast h1).2.1 | exact v2 (nextLast h1).2.2.1 | exact v4 ((nextOrd h1 (by rw [hb1, hb0]; rfl)).1 v3) | exact v3 ((nextOrd h1 (by rw [hb1, hb0]; rfl)).2 v4))), hLow⟩   -- returns .bool true
              · refine walk_ops (F := F12) (T := C12) (fuel := 1000) (d := 10) mixed (allF_cons (FactOk.bi rfl rfl rfl rfl rfl rfl (boolT (by omega))) (allF_cons (FactOk.bi rfl rfl rfl rfl rfl rfl (boolF (by omega))) allF_nil)) (allC_cons (callValidT rfl rfl v0) allC_nil) ?_ hh
                exact ostop_end e32 fun w2 hLow hIn => ⟨(by first | rfl | (exfalso; first | exact h2 (nextBad h1) | (have := nextCmp h1 (show i < l.length by omega); omega) | (have := nextSeq h1 (show i < l.length by omega) p2; omega) | exact v0 (nextLast h1).1 | exact v1 (nextLast h1).2.1 | exact v2 (nextLast h1).2.2.1 | exact v4 ((nextOrd h1 (by rw [hb1, hb0]; rfl)).1 v3) | exact v3 ((nextOrd h1 (by rw [hb1, hb0]; rfl)).2 v4))), hLow⟩   -- returns .bool false
            · refine walk_ops (F := F13) (T := C13) (fuel := 1000) (d := 10) mixed (allF_cons (FactOk.bi rfl rfl rfl rfl rfl rfl (boolF (by omega))) allF_nil) (allC_cons (callValidT rfl rfl v0) allC_nil) ?_ hh
              exact ostop_end e33 fun w2 hLow hIn => ⟨(by first | rfl | (exfalso; first | exact h2 (nextBad h1) | (have := nextCmp h1 (show i < l.length by omega); omega) | (have := nextSeq h1 (show i < l.length by omega) p2; omega) | exact v0 (nextLast h1).1 | exact v1 (nextLast h1).2.1 | exact v2 (nextLast h1).2.2.1 | exact v4 ((nextOrd h1 (by rw [hb1, hb0]; rfl)).1 v3) | exact v3 ((nextOrd h1 (by rw [hb1, hb0]; rfl)).2 v4))), hLow⟩   -- returns .bool false
          · refine walk_ops (F := F14) (T := C14) (fuel := 1000) (d := 10) mixed allF_nil (allC_cons (callValidF rfl rfl v0) allC_nil) ?_ hh
            exact ostop_end e34 fun w2 hLow hIn => ⟨(by first | rfl | (exfalso; first | exact h2 (nextBad h1) | (have := nextCmp h1 (show i < l.length by omega); omega) | (have := nextSeq h1 (show i < l.length by omega) p2; omega) | exact v0 (nextLast h1).1 | exact v1 (nextLast h1).2.1 | exact v2 (nextLast h1).2.2.1 | exact v4 ((nextOrd h1 (by rw [hb1, hb0]; rfl)).1 v3) | exact v3 ((nextOrd h1 (by rw [hb1, hb0]; rfl)).2 v4))), hLow⟩   -- returns .bool false
        · intro a w hh
          refine walk_ops (F := F3) (T := C3) (fuel := 1000) (d := 10) mixed allF_nil allC_nil ?_ hh
          obtain ⟨b0, hb0⟩ : ∃ b0 : List St, b0 = [] ++ l := ⟨_, rfl⟩
          have hn0 : b0.length = 0 + l.length := by rw [hb0]; first | rfl | simp
          refine ostop_appendO (l := []) (lx := l) (l' := b0) (vals2 := fun a c => (vL l a_l c_l site tick i b0 a c [] none 0)) (T := none) hb0 e35 underSl infoS zeroS iszS ibyS zszS (by decide) hkS honeS e36 e37 rfl (appTo_blk (by kernel_rfl)) (app_sym rfl rfl fun w hw => hl.reads hkS hw) (lenMax (show 0 + l.length ≤ 1000000 by omega)) (show (0 + l.length) * bytesS ≤ 140737488355328 by unfold bytesS; omega) (fun _ _ _ => (meet_cons (by exact meetV (.slice a_l l.length c_l) rfl rfl) (meet_cons (by exact meetV (.int .i64 site) rfl rfl) (meet_cons (by exact meetV (.int .i64 tick) rfl rfl) (meet_cons (by exact meetV (.int .i64 (nextSt l site tick).1) rfl rfl) (meet_cons (by exact meetV (.int .i64 (nextSt l site tick).2.1) rfl rfl) (meet_cons (by exact meetV (.int .i64 (nextSt l site tick).2.2.1) rfl rfl) (meet_cons (by exact meetV (.int .i64 (nextSt l site tick).2.2.2) rfl rfl) (meet_cons (by exact meetV (.int .i64 (nextSt l site tick).1) rfl rfl) (meet_cons (by exact meetV (.int .i64 (nextSt l site tick).2.1) rfl rfl) (meet_cons (by exact meetV (.int .i64 (nextSt l site tick).2.2.1) rfl rfl) (meet_cons (by exact meetV (.int .i64 (nextSt l site tick).2.2.2) rfl rfl) meet_nil)))))))))))) (fun _ _ _ => rfl) ?_
          intro M0 a0 c0 hO0 hK0 hT0 a w hh
          have hM0 := hK0.up hT0 (Nat.le_refl _) (fun _ _ h => h)
          letI := (sg M0 l a_l c_l site tick i b0 a0 c0 [] none 0)
          refine walk_ops (F := F3) (T := C3) (fuel := 1000) (d := 10) mixed allF_nil allC_nil ?_ hh
          obtain ⟨b1, hb1⟩ : ∃ b1 : List St, b1 = b0 ++ [(nextSt l site tick)] := ⟨_, rfl⟩
          have hn1 : b1.length = b0.length + 1 := by rw [hb1]; first | rfl | simp
          refine ostop_appendO (l := b0) (lx := [(nextSt l site tick)]) (l' := b1) (vals2 := fun a c => (vL l a_l c_l site tick i b0 a0 c0 b1 a c)) (T := (obl (.slice a0 b0.length c0))) hb1 e39 underSl infoS zeroS iszS ibyS zszS (by decide) hkS honeS e40 e41 rfl (appTo_sym rfl rfl hO0) (app_cells e38 hkS (by decide) rfl) (lenMax (show b0.length + 1 ≤ 1000000 by omega)) (show (b0.length + 1) * bytesS ≤ 140737488355328 by unfold bytesS; omega) (fun _ _ _ => (meet_cons (by exact meetV (.slice a_l l.length c_l) rfl rfl) (meet_cons (by exact meetV (.int .i64 site) rfl rfl) (meet_cons (by exact meetV (.int .i64 tick) rfl rfl) (meet_cons (by exact meetV (.int .i64 (nextSt l site tick).1) rfl rfl) (meet_cons (by exact meetV (.int .i64 (nextSt l site tick).2.1) rfl rfl) (meet_cons (by exact meetV (.int .i64 (nextSt l site tick).2.2.1) rfl rfl) (meet_cons (by exact meetV (.int .i64 (nextSt l site tick).2.2.2) rfl rfl) meet_nil)))))))) (fun _ _ _ => rfl) ?_
          intro M1 a1 c1 hO1 hK1 hT1 a w hh
          have hM1 := hK1.up hT1 (Nat.le_refl _) hM0
          letI := (sg M1 l a_l c_l site tick i b0 a0 c0 b1 a1 c1)
          by_cases v0 : ValidP (nextSt l site tick)
          · by_cases v1 : (nextSt l site tick).2.2.1 = site
            · by_cases v2 : (nextSt l site tick).1 = tick
              · by_cases v3 : ordB b1 = true
                · by_cases v4 : ordB l = true
                  · refine walk_ops (F := F8) (T := C8) (fuel := 1000) (d := 10) mixed (allF_cons (FactOk.bi rfl rfl rfl rfl rfl rfl (boolT (by omega))) (allF_cons (FactOk.bi rfl rfl rfl rfl rfl rfl (boolT (by omega))) allF_nil)) (allC_cons (callValidT rfl rfl v0) (allC_cons (callOrdT rfl rfl (hO1.arr hkS) (by omega) v3) (allC_cons (callOrdT rfl rfl (hl.mono hM1) (by omega) v4) allC_nil))) ?_ hh
                    exact ostop_end e42 fun w2 hLow hIn => ⟨(by first | rfl | (exfalso; first | exact h2 (nextBad h1) | (have := nextCmp h1 (show i < l.length by omega); omega) | (have := nextSeq h1 (show i < l.length by omega) p2; omega) | exact v0 (nextLast h1).1 | exact v1 (nextLast h1).2.1 | exact v2 (nextLast h1).2.2.1 | exact v4 ((nextOrd h1 (by rw [hb1, hb0]; rfl)).1 v3) | exact v3 ((nextOrd h1 (by rw [hb1, hb0]; rfl)).2 v4))), hLow⟩   -- returns .bool true
                  · refine walk_ops (F := F9) (T := C9) (fuel := 1000) (d := 10) mixed (allF_cons (FactOk.bi rfl rfl rfl rfl rfl rfl (boolT (by omega))) (allF_cons (FactOk.bi rfl rfl rfl rfl rfl rfl (boolT (by omega))) allF_nil)) (allC_cons (callValidT rfl rfl v0) (allC_cons (callOrdT rfl rfl (hO1.arr hkS) (by omega) v3) (allC_cons (callOrdF rfl rfl (hl.mono hM1) (by omega) v4) allC_nil))) ?_ hh
                    exact ostop_end e43 fun w2 hLow hIn => ⟨(by first | rfl | (exfalso; first | exact h2 (nextBad h1) | (have := nextCmp h1 (show i < l.length by omega); omega) | (have := nextSeq h1 (show i < l.length by omega) p2; omega) | exact v0 (nextLast h1).1 | exact v1 (nextLast h1).2.1 | exact v2 (nextLast h1).2.2.1 | exact v4 ((nextOrd h1 (by rw [hb1, hb0]; rfl)).1 v3) | exact v3 ((nextOrd h1 (by rw [hb1, hb0]; rfl)).2 v4))), hLow⟩   -- returns .bool false
                · by_cases v4 : ordB l = true
                  · refine walk_ops (F := F10) (T := C10) (fuel := 1000) (d := 10) mixed (allF_cons (FactOk.bi rfl rfl rfl rfl rfl rfl (boolT (by omega))) (allF_cons (FactOk.bi rfl rfl rfl rfl rfl rfl (boolT (by omega))) allF_nil)) (allC_cons (callValidT rfl rfl v0) (allC_cons (callOrdF rfl rfl (hO1.arr hkS) (by omega) v3) (allC_cons (callOrdT rfl rfl (hl.mono hM1) (by omega) v4) allC_nil))) ?_ hh
                    exact ostop_end e44 fun w2 hLow hIn => ⟨(by first | rfl | (exfalso; first | exact h2 (nextBad h1) | (have := nextCmp h1 (show i < l.length by omega); omega) | (have := nextSeq h1 (show i < l.length by omega) p2; omega) | exact v0 (nextLast h1).1 | exact v1 (nextLast h1).2.1 | exact v2 (nextLast h1).2.2.1 | exact v4 ((nextOrd h1 (by rw [hb1, hb0]; rfl)).1 v3) | exact v3 ((nextOrd h1 (by rw [hb1, hb0]; rfl)).2 v4))), hLow⟩   -- returns .bool false
                  · refine walk_ops (F := F11) (T := C11) (fuel := 1000) (d := 10) mixed (allF_cons (FactOk.bi rfl rfl rfl rfl rfl rfl (boolT (by omega))) (allF_cons (FactOk.bi rfl rfl rfl rfl rfl rfl (boolT (by omega))) allF_nil)) (allC_cons (callValidT rfl rfl v0) (allC_cons (callOrdF rfl rfl (hO1.arr hkS) (by omega) v3) (allC_cons (callOrdF rfl rfl (hl.mono hM1) (by omega) v4) allC_nil))) ?_ hh
                    exact ostop_end e45 fun w2 hLow hIn => ⟨(by first | rfl | (exfalso; first | exact h2 (nextBad h1) | (have := nextCmp h1 (show i < l.length by omega); omega) | (have := nextSeq h1 (show i < l.length by omega) p2; omega) | exact v0 (nextLast h1).1 | exact v1 (nextLast h1).2.1 | exact v2 (nextLast h1).2.2.1 | exact v4 ((nextOrd h1 (by rw [hb1, hb0]; rfl)).1 v3) | exact v3 ((nextOrd h1 (by rw [hb1, hb0]; rfl)).2 v4))), hLow⟩   -- returns .bool true
              · refine walk_ops (F := F12) (T := C12) (fuel := 1000) (d := 10) mixed (allF_cons (FactOk.bi rfl rfl rfl rfl rfl rfl (boolT (by omega))) (allF_cons (FactOk.bi rfl rfl rfl rfl rfl rfl (boolF (by omega))) allF_nil)) (allC_cons (callValidT rfl rfl v0) allC_nil) ?_ hh
                exact ostop_end e46 fun w2 hLow hIn => ⟨(by first | rfl | (exfalso; first | exact h2 (nextBad h1) | (have := nextCmp h1 (show i < l.length by omega); omega) | (have := nextSeq h1 (show i < l.length by omega) p2; omega) | exact v0 (nextLast h1).1 | exact v1 (nextLast h1).2.1 | exact v2 (nextLast h1).2.2.1 | exact v4 ((nextOrd h1 (by rw [hb1, hb0]; rfl)).1 v3) | exact v3 ((nextOrd h1 (by rw [hb1, hb0]; rfl)).2 v4))), hLow⟩   -- returns .bool false
            · refine walk_ops (F := F13) (T := C13) (fuel := 1000) (d := 10) mixed (allF_cons (FactOk.bi rfl rfl rfl rfl rfl rfl (boolF (by omega))) allF_nil) (allC_cons (callValidT rfl rfl v0) allC_nil) ?_ hh
              exact ostop_end e47 fun w2 hLow hIn => ⟨(by first | rfl | (exfalso; first | exact h2 (nextBad h1) | (have := nextCmp h1 (show i < l.length by omega); omega) | (have := nextSeq h1 (show i < l.length by omega) p2; omega) | exact v0 (nextLast h1).1 | exact v1 (nextLast h1).2.1 | exact v2 (nextLast h1).2.2.1 | exact v4 ((nextOrd h1 (by rw [hb1, hb0]; rfl)).1 v3) | exact v3 ((nextOrd h1 (by rw [hb1, hb0]; rfl)).2 v4))), hLow⟩   -- returns .bool false
          · refine walk_ops (F := F14) (T := C14) (fuel := 1000) (d := 10) mixed allF_nil (allC_cons (callValidF rfl rfl v0) allC_nil) ?_ hh
            exact ostop_end e48 fun w2 hLow hIn => ⟨(by first | rfl | (exfalso; first | exact h2 (nextBad h1) | (have := nextCmp h1 (show i < l.length by omega); omega) | (have := nextSeq h1 (show i < l.length by omega) p2; omega) | exact v0 (nextLast h1).1 | exact v1 (nextLast h1).2.1 | exact v2 (nextLast h1).2.2.1 | exact v4 ((nextOrd h1 (by rw [hb1, hb0]; rfl)).1 v3) | exact v3 ((nextOrd h1 (by rw [hb1, hb0]; rfl)).2 v4))), hLow⟩   -- returns .bool false
        · intro a w hh
          refine walk_ops (F := F3) (T := C3) (fuel := 1000) (d := 10) mixed allF_nil allC_nil ?_ hh
          obtain ⟨b0, hb0⟩ : ∃ b0 : List St, b0 = [] ++ l := ⟨_, rfl⟩
          have hn0 : b0.length = 0 + l.length := by rw [hb0]; first | rfl | simp
          refine ostop_appendO (l := []) (lx := l) (l' := b0) (vals2 := fun a c => (vL l a_l c_l site tick i b0 a c [] none 0)) (T := none) hb0 e49 underSl infoS zeroS iszS ibyS zszS (by decide) hkS honeS e50 e51 rfl (appTo_blk (by kernel_rfl)) (app_sym rfl rfl fun w hw => hl.reads hkS hw) (lenMax (show 0 + l.length ≤ 1000000 by omega)) (show (0 + l.length) * bytesS ≤ 140737488355328 by unfold bytesS; omega) (fun _ _ _ => (meet_cons (by exact meetV (.slice a_l l.length c_l) rfl rfl) (meet_cons (by exact meetV (.int .i64 site) rfl rfl) (meet_cons (by exact meetV (.int .i64 tick) rfl rfl) (meet_cons (by exact meetV (.int .i64 (nextSt l site tick).1) rfl rfl) (meet_cons (by exact meetV (.int .i64 (nextSt l site tick).2.1) rfl rfl) (meet_cons (by exact meetV (.int .i64 (nextSt l site tick).2.2.1) rfl rfl) (meet_cons (by exact meetV (.int .i64 (nextSt l site tick).2.2.2) rfl rfl) (meet_cons (by exact meetV (.int .i64 (nextSt l site tick).1) rfl rfl) (meet_cons (by exact meetV (.int .i64 (nextSt l site tick).2.1) rfl rfl) (meet_cons (by exact meetV (.int .i64 (nextSt l site tick).2.2.1) rfl rfl) (meet_cons (by exact meetV (.int .i64 (nextSt l site tick).2.2.2) rfl rfl) meet_nil)))))))))))) (fun _ _ _ => rfl) ?_
          intro M0 a0 c0 hO0 hK0 hT0 a w hh
          have hM0 := hK0.up hT0 (Nat.le_refl _) (fun _ _ h => h)
          letI := (sg M0 l a_l c_l site tick i b0 a0 c0 [] none 0)
          refine walk_ops (F := F3) (T := C3) (fuel := 1000) (d := 10) mixed allF_nil allC_nil ?_ hh
          obtain ⟨b1, hb1⟩ : ∃ b1 : List St, b1 = b0 ++ [(nextSt l site tick)] := ⟨_, rfl⟩
          have hn1 : b1.length = b0.length + 1 := by rw [hb1]; first | rfl | simp
          refine ostop_appendO (l := b0) (lx := [(nextSt l site tick)]) (l' := b1) (vals2 := fun a c => (vL l a_l c_l site tick i b0 a0 c0 b1 a c)) (T := (obl (.slice a0 b0.length c0))) hb1 e53 underSl infoS zeroS iszS ibyS zszS (by decide) hkS honeS e54 e55 rfl (appTo_sym rfl rfl hO0) (app_cells e52 hkS (by decide) rfl) (lenMax (show b0.length + 1 ≤ 1000000 by omega)) (show (b0.length + 1) * bytesS ≤ 140737488355328 by unfold bytesS; omega) (fun _ _ _ => (meet_cons (by exact meetV (.slice a_l l.length c_l) rfl rfl) (meet_cons (by exact meetV (.int .i64 site) rfl rfl) (meet_cons (by exact meetV (.int .i64 tick) rfl rfl) (meet_cons (by exact meetV (.int .i64 (nextSt l site tick).1) rfl rfl) (meet_cons (by exact meetV (.int .i64 (nextSt l site tick).2.1) rfl rfl) (meet_cons (by exact meetV (.int .i64 (nextSt l site tick).2.2.1) rfl rfl) (meet_cons (by exact meetV (.int .i64 (nextSt l site tick).2.2.2) rfl rfl) meet_nil)))))))) (fun _ _ _ => rfl) ?_
          intro M1 a1 c1 hO1 hK1 hT1 a w hh
          have hM1 := hK1.up hT1 (Nat.le_refl _) hM0
          letI := (sg M1 l a_l c_l site tick i b0 a0 c0 b1 a1 c1)
          by_cases v0 : ValidP (nextSt l site tick)
          · by_cases v1 : (nextSt l site tick).2.2.1 = site
            · by_cases v2 : (nextSt l site tick).1 = tick
              · by_cases v3 : ordB b1 = true
                · by_cases v4 : ordB l = true
                  · refine walk_ops (F := F8) (T := C8) (fuel := 1000) (d := 10) mixed (allF_cons (FactOk.bi rfl rfl rfl rfl rfl rfl (boolT (by omega))) (allF_cons (FactOk.bi rfl rfl rfl rfl rfl rfl (boolT (by omega))) allF_nil)) (allC_cons (callValidT rfl rfl v0) (allC_cons (callOrdT rfl rfl (hO1.arr hkS) (by omega) v3) (allC_cons (callOrdT rfl rfl (hl.mono hM1) (by omega) v4) allC_nil))) ?_ hh
                    exact ostop_end e56 fun w2 hLow hIn => ⟨(by first | rfl | (exfalso; first | exact h2 (nextBad h1) | (have := nextCmp h1 (show i < l.length by omega); omega) | (have := nextSeq h1 (show i < l.length by omega) p2; omega) | exact v0 (nextLast h1).1 | exact v1 (nextLast h1).2.1 | exact v2 (nextLast h1).2.2.1 | exact v4 ((nextOrd h1 (by rw [hb1, hb0]; rfl)).1 v3) | exact v3 ((nextOrd h1 (by rw [hb1, hb0]; rfl)).2 v4))), hLow⟩   -- returns .bool true
                  · refine walk_ops (F := F9) (T := C9) (fuel := 1000) (d := 10) mixed (allF_cons (FactOk.bi rfl rfl rfl rfl rfl rfl (boolT (by omega))) (allF_cons (FactOk.bi rfl rfl rfl rfl rfl rfl (boolT (by omega))) allF_nil)) (allC_cons (callValidT rfl rfl v0) (allC_cons (callOrdT rfl rfl (hO1.arr hkS) (by omega) v3) (allC_cons (callOrdF rfl rfl (hl.mono hM1) (by omega) v4) allC_nil))) ?_ hh
                    exact ostop_end e57 fun w2 hLow hIn => ⟨(by first | rfl | (exfalso; first | exact h2 (nextBad h1) | (have := nextCmp h1 (show i < l.length by omega); omega) | (have := nextSeq h1 (show i < l.length by omega) p2; omega) | exact v0 (nextLast h1).1 | exact v1 (nextLast h1).2.1 | exact v2 (nextLast h1).2.2.1 | exact v4 ((nextOrd h1 (by rw [hb1, hb0]; rfl)).1 v3) | exact v3 ((nextOrd h1 (by rw [hb1, hb0]; rfl)).2 v4))), hLow⟩   -- returns .bool false
                · by_cases v4 : ordB l = true
                  · refine walk_ops (F := F10) (T := C10) (fuel := 1000) (d := 10) mixed (allF_cons (FactOk.bi rfl rfl rfl rfl rfl rfl (boolT (by omega))) (allF_cons (FactOk.bi rfl rfl rfl rfl rfl rfl (boolT (by omega))) allF_nil)) (allC_cons (callValidT rfl rfl v0) (allC_cons (callOrdF rfl rfl (hO1.arr hkS) (by omega) v3) (allC_cons (callOrdT rfl rfl (hl.mono hM1) (by omega) v4) allC_nil))) ?_ hh
                    exact ostop_end e58 fun w2 hLow hIn => ⟨(by first | rfl | (exfalso; first | exact h2 (nextBad h1) | (have := nextCmp h1 (show i < l.length by omega); omega) | (have := nextSeq h1 (show i < l.length by omega) p2; omega) | exact v0 (nextLast h1).1 | exact v1 (nextLast h1).2.1 | exact v2 (nextLast h1).2.2.1 | exact v4 ((nextOrd h1 (by rw [hb1, hb0]; rfl)).1 v3) | exact v3 ((nextOrd h1 (by rw [hb1, hb0]; rfl)).2 v4))), hLow⟩   -- returns .bool false
                  · refine walk_ops (F := F11) (T := C11) (fuel := 1000) (d := 10) mixed (allF_cons (FactOk.bi rfl rfl rfl rfl rfl rfl (boolT (by omega))) (allF_cons (FactOk.bi rfl rfl rfl rfl rfl rfl (boolT (by omega))) allF_nil)) (allC_cons (callValidT rfl rfl v0) (allC_cons (callOrdF rfl rfl (hO1.arr hkS) (by omega) v3) (allC_cons (callOrdF rfl rfl (hl.mono hM1) (by omega) v4) allC_nil))) ?_ hh
                    exact ostop_end e59 fun w2 hLow hIn => ⟨(by first | rfl | (exfalso; first | exact h2 (nextBad h1) | (have := nextCmp h1 (show i < l.length by omega); omega) | (have := nextSeq h1 (show i < l.length by omega) p2; omega) | exact v0 (nextLast h1).1 | exact v1 (nextLast h1).2.1 | exact v2 (nextLast h1).2.2.1 | exact v4 ((nextOrd h1 (by rw [hb1, hb0]; rfl)).1 v3) | exact v3 ((nextOrd h1 (by rw [hb1, hb0]; rfl)).2 v4))), hLow⟩   -- returns .bool true
              · refine walk_ops (F := F12) (T := C12) (fuel := 1000) (d := 10) mixed (allF_cons (FactOk.bi rfl rfl rfl rfl rfl rfl (boolT (by omega))) (allF_cons (FactOk.bi rfl rfl rfl rfl rfl rfl (boolF (by omega))) allF_nil)) (allC_cons (callValidT rfl rfl v0) allC_nil) ?_ hh
                exact ostop_end e60 fun w2 hLow hIn => ⟨(by first | rfl | (exfalso; first | exact h2 (nextBad h1) | (have := nextCmp h1 (show i < l.length by omega); omega) | (have := nextSeq h1 (show i < l.length by omega) p2; omega) | exact v0 (nextLast h1).1 | exact v1 (nextLast h1).2.1 | exact v2 (nextLast h1).2.2.1 | exact v4 ((nextOrd h1 (by rw [hb1, hb0]; rfl)).1 v3) | exact v3 ((nextOrd h1 (by rw [hb1, hb0]; rfl)).2 v4))), hLow⟩   -- returns .bool false
            · refine walk_ops (F := F13) (T := C13) (fuel := 1000) (d := 10) mixed (allF_cons (FactOk.bi rfl rfl rfl rfl rfl rfl (boolF (by omega))) allF_nil) (allC_cons (callValidT rfl rfl v0) allC_nil) ?_ hh
              exact ostop_end e61 fun w2 hLow hIn => ⟨(by first | rfl | (exfalso; first | exact h2 (nextBad h1) | (have := nextCmp h1 (show i < l.length by omega); omega) | (have := nextSeq h1 (show i < l.length by omega) p2; omega) | exact v0 (nextLast h1).1 | exact v1 (nextLast h1).2.1 | exact v2 (nextLast h1).2.2.1 | exact v4 ((nextOrd h1 (by rw [hb1, hb0]; rfl)).1 v3) | exact v3 ((nextOrd h1 (by rw [hb1, hb0]; rfl)).2 v4))), hLow⟩   -- returns .bool false
          · refine walk_ops (F := F14) (T := C14) (fuel := 1000) (d := 10) mixed allF_nil (allC_cons (callValidF rfl rfl v0) allC_nil) ?_ hh
            exact ostop_end e62 fun w2 hLow hIn => ⟨(by first | rfl | (exfalso; first | exact h2 (nextBad h1) | (have := nextCmp h1 (show i < l.length by omega); omega) | (have := nextSeq h1 (show i < l.length by omega) p2; omega) | exact v0 (nextLast h1).1 | exact v1 (nextLast h1).2.1 | exact v2 (nextLast h1).2.2.1 | exact v4 ((nextOrd h1 (by rw [hb1, hb0]; rfl)).1 v3) | exact v3 ((nextOrd h1 (by rw [hb1, hb0]; rfl)).2 v4))), hLow⟩   -- returns .bool false
        · intro a w hh
          refine walk_ops (F := F3) (T := C3) (fuel := 1000) (d := 10) mixed allF_nil allC_nil ?_ hh
          obtain ⟨b0, hb0⟩ : ∃ b0 : List St, b0 = [] ++ l := ⟨_, rfl⟩
          have hn0 : b0.length = 0 + l.length := by rw [hb0]; first | rfl | simp
          refine ostop_appendO (l := []) (lx := l) (l' := b0) (vals2 := fun a c => (vL l a_l c_l site tick i b0 a c [] none 0)) (T := none) hb0 e63 underSl infoS zeroS iszS ibyS zszS (by decide) hkS honeS e64 e65 rfl (appTo_blk (by kernel_rfl)) (app_sym rfl rfl fun w hw => hl.reads hkS hw) (lenMax (show 0 + l.length ≤ 1000000 by omega)) (show (0 + l.length) * bytesS ≤ 140737488355328 by unfold bytesS; omega) (fun _ _ _ => (meet_cons (by exact meetV (.slice a_l l.length c_l) rfl rfl) (meet_cons (by exact meetV (.int .i64 site) rfl rfl) (meet_cons (by exact meetV (.int .i64 tick) rfl rfl) (meet_cons (by exact meetV (.int .i64 (nextSt l site tick).1) rfl rfl) (meet_cons (by exact meetV (.int .i64 (nextSt l site tick).2.1) rfl rfl) (meet_cons (by exact meetV (.int .i64 (nextSt l site tick).2.2.1) rfl rfl) (meet_cons (by exact meetV (.int .i64 (nextSt l site tick).2.2.2) rfl rfl) (meet_cons (by exact meetV (.int .i64 (nextSt l site tick).1) rfl rfl) (meet_cons (by exact meetV (.int .i64 (nextSt l site tick).2.1) rfl rfl) (meet_cons (by exact meetV (.int .i64 (nextSt l site tick).2.2.1) rfl rfl) (meet_cons (by exact meetV (.int .i64 (nextSt l site tick).2.2.2) rfl rfl) meet_nil)))))))))))) (fun _ _ _ => rfl) ?_
          intro M0 a0 c0 hO0 hK0 hT0 a w hh
          have hM0 := hK0.up hT0 (Nat.le_refl _) (fun _ _ h => h)
          letI := (sg M0 l a_l c_l site tick i b0 a0 c0 [] none 0)
          refine walk_ops (F := F3) (T := C3) (fuel := 1000) (d := 10) mixed allF_nil allC_nil ?_ hh
          obtain ⟨b1, hb1⟩ : ∃ b1 : List St, b1 = b0 ++ [(nextSt l site tick)] := ⟨_, rfl⟩
          have hn1 : b1.length = b0.length + 1 := by rw [hb1]; first | rfl | simp
          refine ostop_appendO (l := b0) (lx := [(nextSt l site tick)]) (l' := b1) (vals2 := fun a c => (vL l a_l c_l site tick i b0 a0 c0 b1 a c)) (T := (obl (.slice a0 b0.length c0))) hb1 e67 underSl infoS zeroS iszS ibyS zszS (by decide) hkS honeS e68 e69 rfl (appTo_sym rfl rfl hO0) (app_cells e66 hkS (by decide) rfl) (lenMax (show b0.length + 1 ≤ 1000000 by omega)) (show (b0.length + 1) * bytesS ≤ 140737488355328 by unfold bytesS; omega) (fun _ _ _ => (meet_cons (by exact meetV (.slice a_l l.length c_l) rfl rfl) (meet_cons (by exact meetV (.int .i64 site) rfl rfl) (meet_cons (by exact meetV (.int .i64 tick) rfl rfl) (meet_cons (by exact meetV (.int .i64 (nextSt l site tick).1) rfl rfl) (meet_cons (by exact meetV (.int .i64 (nextSt l site tick).2.1) rfl rfl) (meet_cons (by exact meetV (.int .i64 (nextSt l site tick).2.2.1) rfl rfl) (meet_cons (by exact meetV (.int .i64 (nextSt l site tick).2.2.2) rfl rfl) meet_nil)))))))) (fun _ _ _ => rfl) ?_
          intro M1 a1 c1 hO1 hK1 hT1 a w hh
          have hM1 := hK1.up hT1 (Nat.le_refl _) hM0
          letI := (sg M1 l a_l c_l site tick i b0 a0 c0 b1 a1 c1)
          by_cases v0 : ValidP (nextSt l site tick)
          · by_cases v1 : (nextSt l site tick).2.2.1 = site
            · by_cases v2 : (nextSt l site tick).1 = tick
              · by_cases v3 : ordB b1 = true
                · by_cases v4 : ordB l = true
                  · refine walk_ops (F := F8) (T := C8) (fuel := 1000) (d := 10) mixed (allF_cons (FactOk.bi rfl rfl rfl rfl rfl rfl (boolT (by omega))) (allF_cons (FactOk.bi rfl rfl rfl rfl rfl rfl (boolT (by omega))) allF_nil)) (allC_cons (callValidT rfl rfl v0) (allC_cons (callOrdT rfl rfl (hO1.arr hkS) (by omega) v3) (allC_cons (callOrdT rfl rfl (hl.mono hM1) (by omega) v4) allC_nil))) ?_ hh
                    exact ostop_end e70 fun w2 hLow hIn => ⟨(by first | rfl | (exfalso; first | exact h2 (nextBad h1) | (have := nextCmp h1 (show i < l.length by omega); omega) | (have := nextSeq h1 (show i < l.length by omega) p2; omega) | exact v0 (nextLast h1).1 | exact v1 (nextLast h1).2.1 | exact v2 (nextLast h1).2.2.1 | exact v4 ((nextOrd h1 (by rw [hb1, hb0]; rfl)).1 v3) | exact v3 ((nextOrd h1 (by rw [hb1, hb0]; rfl)).2 v4))), hLow⟩   -- returns .bool true
                  · refine walk_ops (F := F9) (T := C9) (fuel := 1000) (d := 10) mixed (allF_cons (FactOk.bi rfl rfl rfl rfl rfl rfl (boolT (by omega))) (allF_cons (FactOk.bi rfl rfl rfl rfl rfl rfl (boolT (by omega))) allF_nil)) (allC_cons (callValidT rfl rfl v0) (allC_cons (callOrdT rfl rfl (hO1.arr hkS) (by omega) v3) (allC_cons (callOrdF rfl rfl (hl.mono hM1) (by omega) v4) allC_nil))) ?_ hh
                    exact ostop_end e71 fun w2 hLow hIn => ⟨(by first | rfl | (exfalso; first | exact h2 (nextBad h1) | (have := nextCmp h1 (show i < l.length by omega); omega) | (have := nextSeq h1 (show i < l.length by omega) p2; omega) | exact v0 (nextLast h1).1 | exact v1 (nextLast h1).2.1 | exact v2 (nextLast h1).2.2.1 | exact v4 ((nextOrd h1 (by rw [hb1, hb0]; rfl)).1 v3) | exact v3 ((nextOrd h1 (by rw [hb1, hb0]; rfl)).2 v4))), hLow⟩   -- returns .bool false
                · by_cases v4 : ordB l = true
                  · refine walk_ops (F := F10) (T := C10) (fuel := 1000) (d := 10) mixed (allF_cons (FactOk.bi rfl rfl rfl rfl rfl rfl (boolT (by omega))) (allF_cons (FactOk.bi rfl rfl rfl rfl rfl rfl (boolT (by omega))) allF_nil)) (allC_cons (callValidT rfl rfl v0) (allC_cons (callOrdF rfl rfl (hO1.arr hkS) (by omega) v3) (allC_cons (callOrdT rfl rfl (hl.mono hM1) (by omega) v4) allC_nil))) ?_ hh
                    exact ostop_end e72 fun w2 hLow hIn => ⟨(by first | rfl | (exfalso; first | exact h2 (nextBad h1) | (have := nextCmp h1 (show i < l.length by omega); omega) | (have := nextSeq h1 (show i < l.length by omega) p2; omega) | exact v0 (nextLast h1).1 | exact v1 (nextLast h1).2.1 | exact v2 (nextLast h1).2.2.1 | exact v4 ((nextOrd h1 (by rw [hb1, hb0]; rfl)).1 v3) | exact v3 ((nextOrd h1 (by rw [hb1, hb0]; rfl)).2 v4))), hLow⟩   -- returns .bool false
                  · refine walk_ops (F := F11) (T := C11) (fuel := 1000) (d := 10) mixed (allF_cons (FactOk.bi rfl rfl rfl rfl rfl rfl (boolT (by omega))) (allF_cons (FactOk.bi rfl rfl rfl rfl rfl rfl (boolT (by omega))) allF_nil)) (allC_cons (callValidT rfl rfl v0) (allC_cons (callOrdF rfl rfl (hO1.arr hkS) (by omega) v3) (allC_cons (callOrdF rfl rfl (hl.mono hM1) (by omega) v4) allC_nil))) ?_ hh
                    exact ostop_end e73 fun w2 hLow hIn => ⟨(by first | rfl | (exfalso; first | exact h2 (nextBad h1) | (have := nextCmp h1 (show i < l.length by omega); omega) | (have := nextSeq h1 (show i < l.length by omega) p2; omega) | exact v0 (nextLast h1).1 | exact v1 (nextLast h1).2.1 | exact v2 (nextLast h1).2.2.1 | exact v4 ((nextOrd h1 (by rw [hb1, hb0]; rfl)).1 v3) | exact v3 ((nextOrd h1 (by rw [hb1, hb0]; rfl)).2 v4))), hLow⟩   -- returns .bool true
              · refine walk_ops (F := F12) (T := C12) (fuel := 1000) (d := 10) mixed (allF_cons (FactOk.bi rfl rfl rfl rfl rfl rfl (boolT (by omega))) (allF_cons (FactOk.bi rfl rfl rfl rfl rfl rfl (boolF (by omega))) allF_nil)) (allC_cons (callValidT rfl rfl v0) allC_nil) ?_ hh
                exact ostop_end e74 fun w2 hLow hIn => ⟨(by first | rfl | (exfalso; first | exact h2 (nextBad h1) | (have := nextCmp h1 (show i < l.length by omega); omega) | (have := nextSeq h1 (show i < l.length by omega) p2; omega) | exact v0 (nextLast h1).1 | exact v1 (nextLast h1).2.1 | exact v2 (nextLast h1).2.2.1 | exact v4 ((nextOrd h1 (by rw [hb1, hb0]; rfl)).1 v3) | exact v3 ((nextOrd h1 (by rw [hb1, hb0]; rfl)).2 v4))), hLow⟩   -- returns .bool false
            · refine walk_ops (F := F13) (T := C13) (fuel := 1000) (d := 10) mixed (allF_cons (FactOk.bi rfl rfl rfl rfl rfl rfl (boolF (by omega))) allF_nil) (allC_cons (callValidT rfl rfl v0) allC_nil) ?_ hh
              exact ostop_end e75 fun w2 hLow hIn => ⟨(by first | rfl | (exfalso; first | exact h2 (nextBad h1) | (have := nextCmp h1 (show i < l.length by omega); omega) | (have := nextSeq h1 (show i < l.length by omega) p2; omega) | exact v0 (nextLast h1).1 | exact v1 (nextLast h1).2.1 | exact v2 (nextLast h1).2.2.1 | exact v4 ((nextOrd h1 (by rw [hb1, hb0]; rfl)).1 v3) | exact v3 ((nextOrd h1 (by rw [hb1, hb0]; rfl)).2 v4))), hLow⟩   -- returns .bool false
          · refine walk_ops (F := F14) (T := C14) (fuel := 1000) (d := 10) mixed allF_nil (allC_cons (callValidF rfl rfl v0) allC_nil) ?_ hh
            exact ostop_end e76 fun w2 hLow hIn => ⟨(by first | rfl | (exfalso; first | exact h2 (nextBad h1) | (have := nextCmp h1 (show i < l.length by omega); omega) | (have := nextSeq h1 (show i < l.length by omega) p2; omega) | exact v0 (nextLast h1).1 | exact v1 (nextLast h1).2.1 | exact v2 (nextLast h1).2.2.1 | exact v4 ((nextOrd h1 (by rw [hb1, hb0]; rfl)).1 v3) | exact v3 ((nextOrd h1 (by rw [hb1, hb0]; rfl)).2 v4))), hLow⟩   -- returns .bool false
        · intro a w hh
          refine walk_ops (F := F3) (T := C3) (fuel := 1000) (d := 10) mixed allF_nil allC_nil ?_ hh
          obtain ⟨b0, hb0⟩ : ∃ b0 : List St, b0 = [] ++ l := ⟨_, rfl⟩
          have hn0 : b0.length = 0 + l.length := by rw [hb0]; first | rfl | simp
          refine ostop_appendO (l := []) (lx := l) (l' := b0) (vals2 := fun a c => (vL l a_l c_l site tick i b0 a c [] none 0)) (T := none) hb0 e77 underSl infoS zeroS iszS ibyS zszS (by decide) hkS honeS e78 e79 rfl (appTo_blk (by kernel_rfl)) (app_sym rfl rfl fun w hw => hl.reads hkS hw) (lenMax (show 0 + l.length ≤ 1000000 by omega)) (show (0 + l.length) * bytesS ≤ 140737488355328 by unfold bytesS; omega) (fun _ _ _ => (meet_cons (by exact meetV (.slice a_l l.length c_l) rfl rfl) (meet_cons (by exact meetV (.int .i64 site) rfl rfl) (meet_cons (by exact meetV (.int .i64 tick) rfl rfl) (meet_cons (by exact meetV (.int .i64 (nextSt l site tick).1) rfl rfl) (meet_cons (by exact meetV (.int .i64 (nextSt l site tick).2.1) rfl rfl) (meet_cons (by exact meetV (.int .i64 (nextSt l site tick).2.2.1) rfl rfl) (meet_cons (by exact meetV (.int .i64 (nextSt l site tick).2.2.2) rfl rfl) (meet_cons (by exact meetV (.int .i64 (nextSt l site tick).1) rfl rfl) (meet_cons (by exact meetV (.int .i64 (nextSt l site tick).2.1) rfl rfl) (meet_cons (by exact meetV (.int .i64 (nextSt l site tick).2.2.1) rfl rfl) (meet_cons (by exact meetV (.int .i64 (nextSt l site tick).2.2.2) rfl rfl) meet_nil)))))))))))) (fun _ _ _ => rfl) ?_
          intro M0 a0 c0 hO0 hK0 hT0 a w hh
          have hM0 := hK0.up hT0 (Nat.le_refl _) (fun _ _ h => h)
          letI := (sg M0 l a_l c_l site tick i b0 a0 c0 [] none 0)
          refine walk_ops (F := F3) (T := C3) (fuel := 1000) (d := 10) mixed allF_nil allC_nil ?_ hh
          obtain ⟨b1, hb1⟩ : ∃ b1 : List St, b1 = b0 ++ [(nextSt l site tick)] := ⟨_, rfl⟩
          have hn1 : b1.length = b0.length + 1 := by rw [hb1]; first | rfl | simp
          refine ostop_appendO (l := b0) (lx := [(nextSt l site tick)]) (l' := b1) (vals2 := fun a c => (vL l a_l c_l site tick i b0 a0 c0 b1 a c)) (T := (obl (.slice a0 b0.length c0))) hb1 e81 underSl infoS zeroS iszS ibyS zszS (by decide) hkS honeS e82 e83 rfl (appTo_sym rfl rfl hO0) (app_cells e80 hkS (by decide) rfl) (lenMax (show b0.length + 1 ≤ 1000000 by omega)) (show (b0.length + 1) * bytesS ≤ 140737488355328 by unfold bytesS; omega) (fun _ _ _ => (meet_cons (by exact meetV (.slice a_l l.length c_l) rfl rfl) (meet_cons (by exact meetV (.int .i64 site) rfl rfl) (meet_cons (by exact meetV (.int .i64 tick) rfl rfl) (meet_cons (by exact meetV (.int .i64 (nextSt l site tick).1) rfl rfl) (meet_cons (by exact meetV (.int .i64 (nextSt l site tick).2.1) rfl rfl) (meet_cons (by exact meetV (.int .i64 (nextSt l site tick).2.2.1) rfl rfl) (meet_cons (by exact meetV (.int .i64 (nextSt l site tick).2.2.2) rfl rfl) meet_nil)))))))) (fun _ _ _ => rfl) ?_
          intro M1 a1 c1 hO1 hK1 hT1 a w hh
          have hM1 := hK1.up hT1 (Nat.le_refl _) hM0
          letI := (sg M1 l a_l c_l site tick i b0 a0 c0 b1 a1 c1)
          by_cases v0 : ValidP (nextSt l site tick)
          · by_cases v1 : (nextSt l site tick).2.2.1 = site
            · by_cases v2 : (nextSt l site tick).1 = tick
              · by_cases v3 : ordB b1 = true
                · by_cases v4 : ordB l = true
                  · refine walk_ops (F := F8) (T := C8) (fuel := 1000) (d := 10) mixed (allF_cons (FactOk.bi rfl rfl rfl rfl rfl rfl (boolT (by omega))) (allF_cons (FactOk.bi rfl rfl rfl rfl rfl rfl (boolT (by omega))) allF_nil)) (allC_cons (callValidT rfl rfl v0) (allC_cons (callOrdT rfl rfl (hO1.arr hkS) (by omega) v3) (allC_cons (callOrdT rfl rfl (hl.mono hM1) (by omega) v4) allC_nil))) ?_ hh
                    exact ostop_end e84 fun w2 hLow hIn => ⟨(by first | rfl | (exfalso; first | exact h2 (nextBad h1) | (have := nextCmp h1 (show i < l.length by omega); omega) | (have := nextSeq h1 (show i < l.length by omega) p2; omega) | exact v0 (nextLast h1).1 | exact v1 (nextLast h1).2.1 | exact v2 (nextLast h1).2.2.1 | exact v4 ((nextOrd h1 (by rw [hb1, hb0]; rfl)).1 v3) | exact v3 ((nextOrd h1 (by rw [hb1, hb0]; rfl)).2 v4))), hLow⟩   -- returns .bool true
                  · refine walk_ops (F := F9) (T := C9) (fuel := 1000) (d := 10) mixed (allF_cons (FactOk.bi rfl rfl rfl rfl rfl rfl (boolT (by omega))) (allF_cons (FactOk.bi rfl rfl rfl rfl rfl rfl (boolT (by omega))) allF_nil)) (allC_cons (callValidT rfl rfl v0) (allC_cons (callOrdT rfl rfl (hO1.arr hkS) (by omega) v3) (allC_cons (callOrdF rfl rfl (hl.mono hM1) (by omega) v4) allC_nil))) ?_ hh
                    exact ostop_end e85 fun w2 hLow hIn => ⟨(by first | rfl | (exfalso; first | exact h2 (nextBad h1) | (have := nextCmp h1 (show i < l.length by omega); omega) | (have := nextSeq h1 (show i < l.length by omega) p2; omega) | exact v0 (nextLast h1).1 | exact v1 (nextLast h1).2.1 | exact v2 (nextLast h1).2.2.1 | exact v4 ((nextOrd h1 (by rw [hb1, hb0]; rfl)).1 v3) | exact v3 ((nextOrd h1 (by rw [hb1, hb0]; rfl)).2 v4))), hLow⟩   -- returns .bool false
                · by_cases v4 : ordB l = true
                  · refine walk_ops (F := F10) (T := C10) (fuel := 1000) (d := 10) mixed (allF_cons (FactOk.bi rfl rfl rfl rfl rfl rfl (boolT (by omega))) (allF_cons (FactOk.bi rfl rfl rfl rfl rfl rfl (boolT (by omega))) allF_nil)) (allC_cons (callValidT rfl rfl v0) (allC_cons (callOrdF rfl rfl (hO1.arr hkS) (by omega) v3) (allC_cons (callOrdT rfl rfl (hl.mono hM1) (by omega) v4) allC_nil))) ?_ hh
                    exact ostop_end e86 fun w2 hLow hIn => ⟨(by first | rfl | (exfalso; first | exact h2 (nextBad h1) | (have := nextCmp h1 (show i < l.length by omega); omega) | (have := nextSeq h1 (show i < l.length by omega) p2; omega) | exact v0 (nextLast h1).1 | exact v1 (nextLast h1).2.1 | exact v2 (nextLast h1).2.2.1 | exact v4 ((nextOrd h1 (by rw [hb1, hb0]; rfl)).1 v3) | exact v3 ((nextOrd h1 (by rw [hb1, hb0]; rfl)).2 v4))), hLow⟩   -- returns .bool false
                  · refine walk_ops (F := F11) (T := C11) (fuel := 1000) (d := 10) mixed (allF_cons (FactOk.bi rfl rfl rfl rfl rfl rfl (boolT (by omega))) (allF_cons (FactOk.bi rfl rfl rfl rfl rfl rfl (boolT (by omega))) allF_nil)) (allC_cons (callValidT rfl rfl v0) (allC_cons (callOrdF rfl rfl (hO1.arr hkS) (by omega) v3) (allC_cons (callOrdF rfl rfl (hl.mono hM1) (by omega) v4) allC_nil))) ?_ hh
                    exact ostop_end e87 fun w2 hLow hIn => ⟨(by first | rfl | (exfalso; first | exact h2 (nextBad h1) | (have := nextCmp h1 (show i < l.length by omega); omega) | (have := nextSeq h1 (show i < l.length by omega) p2; omega) | exact v0 (nextLast h1).1 | exact v1 (nextLast h1).2.1 | exact v2 (nextLast h1).2.2.1 | exact v4 ((nextOrd h1 (by rw [hb1, hb0]; rfl)).1 v3) | exact v3 ((nextOrd h1 (by rw [hb1, hb0]; rfl)).2 v4))), hLow⟩   -- returns .bool true
              · refine walk_ops (F := F12) (T := C12) (fuel := 1000) (d := 10) mixed (allF_cons (FactOk.bi rfl rfl rfl rfl rfl rfl (boolT (by omega))) (allF_cons (FactOk.bi rfl rfl rfl rfl rfl rfl (boolF (by omega))) allF_nil)) (allC_cons (callValidT rfl rfl v0) allC_nil) ?_ hh
                exact ostop_end e88 fun w2 hLow hIn => ⟨(by first | rfl | (exfalso; first | exact h2 (nextBad h1) | (have := nextCmp h1 (show i < l.length by omega); omega) | (have := nextSeq h1 (show i < l.length by omega) p2; omega) | exact v0 (nextLast h1).1 | exact v1 (nextLast h1).2.1 | exact v2 (nextLast h1).2.2.1 | exact v4 ((nextOrd h1 (by rw [hb1, hb0]; rfl)).1 v3) | exact v3 ((nextOrd h1 (by rw [hb1, hb0]; rfl)).2 v4))), hLow⟩   -- returns .bool false
            · refine walk_ops (F := F13) (T := C13) (fuel := 1000) (d := 10) mixed (allF_cons (FactOk.bi rfl rfl rfl rfl rfl rfl (boolF (by omega))) allF_nil) (allC_cons (callValidT rfl rfl v0) allC_nil) ?_ hh
              exact ostop_end e89 fun w2 hLow hIn => ⟨(by first | rfl | (exfalso; first | exact h2 (nextBad h1) | (have := nextCmp h1 (show i < l.length by omega); omega) | (have := nextSeq h1 (show i < l.length by omega) p2; omega) | exact v0 (nextLast h1).1 | exact v1 (nextLast h1).2.1 | exact v2 (nextLast h1).2.2.1 | exact v4 ((nextOrd h1 (by rw [hb1, hb0]; rfl)).1 v3) | exact v3 ((nextOrd h1 (by rw [hb1, hb0]; rfl)).2 v4))), hLow⟩   -- returns .bool false
          · refine walk_ops (F := F14) (T := C14) (fuel := 1000) (d := 10) mixed allF_nil (allC_cons (callValidF rfl rfl v0) allC_nil) ?_ hh
            exact ostop_end e90 fun w2 hLow hIn => ⟨(by first | rfl | (exfalso; first | exact h2 (nextBad h1) | (have := nextCmp h1 (show i < l.length by omega); omega) | (have := nextSeq h1 (show i < l.length by omega) p2; omega) | exact v0 (nextLast h1).1 | exact v1 (nextLast h1).2.1 | exact v2 (nextLast h1).2.2.1 | exact v4 ((nextOrd h1 (by rw [hb1, hb0]; rfl)).1 v3) | exact v3 ((nextOrd h1 (by rw [hb1, hb0]; rfl)).2 v4))), hLow⟩   -- returns .bool false
        · intro a w hh
          refine walk_ops (F := F3) (T := C3) (fuel := 1000) (d := 10) mixed allF_nil allC_nil ?_ hh
          obtain ⟨b0, hb0⟩ : ∃ b0 : List St, b0 = [] ++ l := ⟨_, rfl⟩
          have hn0 : b0.length = 0 + l.length := by rw [hb0]; first | rfl | simp
          refine ostop_appendO (l := []) (lx := l) (l' := b0) (vals2 := fun a c => (vL l a_l c_l site tick i b0 a c [] none 0)) (T := none) hb0 e91 underSl infoS zeroS iszS ibyS zszS (by decide) hkS honeS e92 e93 rfl (appTo_blk (by kernel_rfl)) (app_sym rfl rfl fun w hw => hl.reads hkS hw) (lenMax (show 0 + l.length ≤ 1000000 by omega)) (show (0 + l.length) * bytesS ≤ 140737488355328 by unfold bytesS; omega) (fun _ _ _ => (meet_cons (by exact meetV (.slice a_l l.length c_l) rfl rfl) (meet_cons (by exact meetV (.int .i64 site) rfl rfl) (meet_cons (by exact meetV (.int .i64 tick) rfl rfl) (meet_cons (by exact meetV (.int .i64 (nextSt l site tick).1) rfl rfl) (meet_cons (by exact meetV (.int .i64 (nextSt l site tick).2.1) rfl rfl) (meet_cons (by exact meetV (.int .i64 (nextSt l site tick).2.2.1) rfl rfl) (meet_cons (by exact meetV (.int .i64 (nextSt l site tick).2.2.2) rfl rfl) meet_nil)))))))) (fun _ _ _ => rfl) ?_
          intro M0 a0 c0 hO0 hK0 hT0 a w hh
          have hM0 := hK0.up hT0 (Nat.le_refl _) (fun _ _ h => h)
          letI := (sg M0 l a_l c_l site tick i b0 a0 c0 [] none 0)
          refine walk_ops (F := F3) (T := C3) (fuel := 1000) (d := 10) mixed allF_nil allC_nil ?_ hh
          obtain ⟨b1, hb1⟩ : ∃ b1 : List St, b1 = b0 ++ [(nextSt l site tick)] := ⟨_, rfl⟩
          have hn1 : b1.length = b0.length + 1 := by rw [hb1]; first | rfl | simp
          refine ostop_appendO (l := b0) (lx := [(nextSt l site tick)]) (l' := b1) (vals2 := fun a c => (vL l a_l c_l site tick i b0 a0 c0 b1 a c)) (T := (obl (.slice a0 b0.length c0))) hb1 e95 underSl infoS zeroS iszS ibyS zszS (by decide) hkS honeS e96 e97 rfl (appTo_sym rfl rfl hO0) (app_cells e94 hkS (by decide) rfl) (lenMax (show b0.length + 1 ≤ 1000000 by omega)) (show (b0.length + 1) * bytesS ≤ 140737488355328 by unfold bytesS; omega) (fun _ _ _ => (meet_cons (by exact meetV (.slice a_l l.length c_l) rfl rfl) (meet_cons (by exact meetV (.int .i64 site) rfl rfl) (meet_cons (by exact meetV (.int .i64 tick) rfl rfl) (meet_cons (by exact meetV (.int .i64 (nextSt l site tick).1) rfl rfl) (meet_cons (by exact meetV (.int .i64 (nextSt l site tick).2.1) rfl rfl) (meet_cons (by exact meetV (.int .i64 (nextSt l site tick).2.2.1) rfl rfl) (meet_cons (by exact meetV (.int .i64 (nextSt l site tick).2.2.2) rfl rfl) meet_nil)))))))) (fun _ _ _ => rfl) ?_
          intro M1 a1 c1 hO1 hK1 hT1 a w hh
          have hM1 := hK1.up hT1 (Nat.le_refl _) hM0
          letI := (sg M1 l a_l c_l site tick i b0 a0 c0 b1 a1 c1)
          by_cases v0 : ValidP (nextSt l site tick)
          · by_cases v1 : (nextSt l site tick).2.2.1 = site
            · by_cases v2 : (nextSt l site tick).1 = tick
              · by_cases v3 : ordB b1 = true
                · by_cases v4 : ordB l = true
                  · refine walk_ops (F := F8) (T := C8) (fuel := 1000) (d := 10) mixed (allF_cons (FactOk.bi rfl rfl rfl rfl rfl rfl (boolT (by omega))) (allF_cons (FactOk.bi rfl rfl rfl rfl rfl rfl (boolT (by omega))) allF_nil)) (allC_cons (callValidT rfl rfl v0) (allC_cons (callOrdT rfl rfl (hO1.arr hkS) (by omega) v3) (allC_cons (callOrdT rfl rfl (hl.mono hM1) (by omega) v4) allC_nil))) ?_ hh
                    exact ostop_end e98 fun w2 hLow hIn => ⟨(by first | rfl | (exfalso; first | exact h2 (nextBad h1) | (have := nextCmp h1 (show i < l.length by omega); omega) | (have := nextSeq h1 (show i < l.length by omega) p2; omega) | exact v0 (nextLast h1).1 | exact v1 (nextLast h1).2.1 | exact v2 (nextLast h1).2.2.1 | exact v4 ((nextOrd h1 (by rw [hb1, hb0]; rfl)).1 v3) | exact v3 ((nextOrd h1 (by rw [hb1, hb0]; rfl)).2 v4))), hLow⟩   -- returns .bool true
                  · refine walk_ops (F := F9) (T := C9) (fuel := 1000) (d := 10) mixed (allF_cons (FactOk.bi rfl rfl rfl rfl rfl rfl (boolT (by omega))) (allF_cons (FactOk.bi rfl rfl rfl rfl rfl rfl (boolT (by omega))) allF_nil)) (allC_cons (callValidT rfl rfl v0) (allC_cons (callOrdT rfl rfl (hO1.arr hkS) (by omega) v3) (allC_cons (callOrdF rfl rfl (hl.mono hM1) (by omega) v4) allC_nil))) ?_ hh
                    exact ostop_end e99 fun w2 hLow hIn => ⟨(by first | rfl | (exfalso; first | exact h2 (nextBad h1) | (have := nextCmp h1 (show i < l.length by omega); omega) | (have := nextSeq h1 (show i < l.length by omega) p2; omega) | exact v0 (nextLast h1).1 | exact v1 (nextLast h1).2.1 | exact v2 (nextLast h1).2.2.1 | exact v4 ((nextOrd h1 (by rw [hb1, hb0]; rfl)).1 v3) | exact v3 ((nextOrd h1 (by rw [hb1, hb0]; rfl)).2 v4))), hLow⟩   -- returns .bool false
                · by_cases v4 : ordB l = true
                  · refine walk_ops (F := F10) (T := C10) (fuel := 1000) (d := 10) mixed (allF_cons (FactOk.bi rfl rfl rfl rfl rfl rfl (boolT (by omega))) (allF_cons (FactOk.bi rfl rfl rfl rfl rfl rfl (boolT (by omega))) allF_nil)) (allC_cons (callValidT rfl rfl v0) (allC_cons (callOrdF rfl rfl (hO1.arr hkS) (by omega) v3) (allC_cons (callOrdT rfl rfl (hl.mono hM1) (by omega) v4) allC_nil))) ?_ hh
                    exact ostop_end e100 fun w2 hLow hIn => ⟨(by first | rfl | (exfalso; first | exact h2 (nextBad h1) | (have := nextCmp h1 (show i < l.length by omega); omega) | (have := nextSeq h1 (show i < l.length by omega) p2; omega) | exact v0 (nextLast h1).1 | exact v1 (nextLast h1).2.1 | exact v2 (nextLast h1).2.2.1 | exact v4 ((nextOrd h1 (by rw [hb1, hb0]; rfl)).1 v3) | exact v3 ((nextOrd h1 (by rw [hb1, hb0]; rfl)).2 v4))), hLow⟩   -- returns .bool false
                  · refine walk_ops (F := F11) (T := C11) (fuel := 1000) (d := 10) mixed (allF_cons (FactOk.bi rfl rfl rfl rfl rfl rfl (boolT (by omega))) (allF_cons (FactOk.bi rfl rfl rfl rfl rfl rfl (boolT (by omega))) allF_nil)) (allC_cons (callValidT rfl rfl v0) (allC_cons (callOrdF rfl rfl (hO1.arr hkS) (by omega) v3) (allC_cons (callOrdF rfl rfl (hl.mono hM1) (by omega) v4) allC_nil))) ?_ hh
                    exact ostop_end e101 fun w2 hLow hIn => ⟨(by first | rfl | (exfalso; first | exact h2 (nextBad h1) | (have := nextCmp h1 (show i < l.length by omega); omega) | (have := nextSeq h1 (show i < l.length by omega) p2; omega) | exact v0 (nextLast h1).1 | exact v1 (nextLast h1).2.1 | exact v2 (nextLast h1).2.2.1 | exact v4 ((nextOrd h1 (by rw [hb1, hb0]; rfl)).1 v3) | exact v3 ((nextOrd h1 (by rw [hb1, hb0]; rfl)).2 v4))), hLow⟩   -- returns .bool true
              · refine walk_ops (F := F12) (T := C12) (fuel := 1000) (d := 10) mixed (allF_cons (FactOk.bi rfl rfl rfl rfl rfl rfl (boolT (by omega))) (allF_cons (FactOk.bi rfl rfl rfl rfl rfl rfl (boolF (by omega))) allF_nil)) (allC_cons (callValidT rfl rfl v0) allC_nil) ?_ hh
                exact ostop_end e102 fun w2 hLow hIn => ⟨(by first | rfl | (exfalso; first | exact h2 (nextBad h1) | (have := nextCmp h1 (show i < l.length by omega); omega) | (have := nextSeq h1 (show i < l.length by omega) p2; omega) | exact v0 (nextLast h1).1 | exact v1 (nextLast h1).2.1 | exact v2 (nextLast h1).2.2.1 | exact v4 ((nextOrd h1 (by rw [hb1, hb0]; rfl)).1 v3) | exact v3 ((nextOrd h1 (by rw [hb1, hb0]; rfl)).2 v4))), hLow⟩   -- returns .bool false
            · refine walk_ops (F := F13) (T := C13) (fuel := 1000) (d := 10) mixed (allF_cons (FactOk.bi rfl rfl rfl rfl rfl rfl (boolF (by omega))) allF_nil) (allC_cons (callValidT rfl rfl v0) allC_nil) ?_ hh
              exact ostop_end e103 fun w2 hLow hIn => ⟨(by first | rfl | (exfalso; first | exact h2 (nextBad h1) | (have := nextCmp h1 (show i < l.length by omega); omega) | (have := nextSeq h1 (show i < l.length by omega) p2; omega) | exact v0 (nextLast h1).1 | exact v1 (nextLast h1).2.1 | exact v2 (nextLast h1).2.2.1 | exact v4 ((nextOrd h1 (by rw [hb1, hb0]; rfl)).1 v3) | exact v3 ((nextOrd h1 (by rw [hb1, hb0]; rfl)).2 v4))), hLow⟩   -- returns .bool false
          · refine walk_ops (F := F14) (T := C14) (fuel := 1000) (d := 10) mixed allF_nil (allC_cons (callValidF rfl rfl v0) allC_nil) ?_ hh
            exact ostop_end e104 fun w2 hLow hIn => ⟨(by first | rfl | (exfalso; first | exact h2 (nextBad h1) | (have := nextCmp h1 (show i < l.length by omega); omega) | (have := nextSeq h1 (show i < l.length by omega) p2; omega) | exact v0 (nextLast h1).1 | exact v1 (nextLast h1).2.1 | exact v2 (nextLast h1).2.2.1 | exact v4 ((nextOrd h1 (by rw [hb1, hb0]; rfl)).1 v3) | exact v3 ((nextOrd h1 (by rw [hb1, hb0]; rfl)).2 v4))), hLow⟩   -- returns .bool false
        · intro a w hh
          refine walk_ops (F := F3) (T := C3) (fuel := 1000) (d := 10) mixed allF_nil allC_nil ?_ hh
          obtain ⟨b0, hb0⟩ : ∃ b0 : List St, b0 = [] ++ l := ⟨_, rfl⟩
          have hn0 : b0.length = 0 + l.length := by rw [hb0]; first | rfl | simp
          refine ostop_appendO (l := []) (lx := l) (l' := b0) (vals2 := fun a c => (vL l a_l c_l site tick i b0 a c [] none 0)) (T := none) hb0 e105 underSl infoS zeroS iszS ibyS zszS (by decide) hkS honeS e106 e107 rfl (appTo_blk (by kernel_rfl)) (app_sym rfl rfl fun w hw => hl.reads hkS hw) (lenMax (show 0 + l.length ≤ 1000000 by omega)) (show (0 + l.length) * bytesS ≤ 140737488355328 by unfold bytesS; omega) (fun _ _ _ => (meet_cons (by exact meetV (.slice a_l l.length c_l) rfl rfl) (meet_cons (by exact meetV (.int .i64 site) rfl rfl) (meet_cons (by exact meetV (.int .i64 tick) rfl rfl) (meet_cons (by exact meetV (.int .i64 (nextSt l site tick).1) rfl rfl) (meet_cons (by exact meetV (.int .i64 (nextSt l site tick).2.1) rfl rfl) (meet_cons (by exact meetV (.int .i64 (nextSt l site tick).2.2.1) rfl rfl) (meet_cons (by exact meetV (.int .i64 (nextSt l site tick).2.2.2) rfl rfl) (meet_cons (by exact meetV (.int .i64 (nextSt l site tick).1) rfl rfl) (meet_cons (by exact meetV (.int .i64 (nextSt l site tick).2.1) rfl rfl) (meet_cons (by exact meetV (.int .i64 (nextSt l site tick).2.2.1) rfl rfl) (meet_cons (by exact meetV (.int .i64 (nextSt l site tick).2.2.2) rfl rfl) meet_nil)))))))))))) (fun _ _ _ => rfl) ?_
          intro M0 a0 c0 hO0 hK0 hT0 a w hh
          have hM0 := hK0.up hT0 (Nat.le_refl _) (fun _ _ h => h)
          letI := (sg M0 l a_l c_l site tick i b0 a0 c0 [] none 0)
          refine walk_ops (F := F3) (T := C3) (fuel := 1000) (d := 10) mixed allF_nil allC_nil ?_ hh
          obtain ⟨b1, hb1⟩ : ∃ b1 : List St, b1 = b0 ++ [(nextSt l site tick)] := ⟨_, rfl⟩
          have hn1 : b1.length = b0.length + 1 := by rw [hb1]; first | rfl | simp
          refine ostop_appendO (l := b0) (lx := [(nextSt l site tick)]) (l' := b1) (vals2 := fun a c => (vL l a_l c_l site tick i b0 a0 c0 b1 a c)) (T := (obl (.slice a0 b0.length c0))) hb1 e109 underSl infoS zeroS iszS ibyS zszS (by decide) hkS honeS e110 e111 rfl (appTo_sym rfl rfl hO0) (app_cells e108 hkS (by decide) rfl) (lenMax (show b0.length + 1 ≤ 1000000 by omega)) (show (b0.length + 1) * bytesS ≤ 140737488355328 by unfold bytesS; omega) (fun _ _ _ => (meet_cons (by exact meetV (.slice a_l l.length c_l) rfl rfl) (meet_cons (by exact meetV (.int .i64 site) rfl rfl) (meet_cons (by exact meetV (.int .i64 tick) rfl rfl) (meet_cons (by exact meetV (.int .i64 (nextSt l site tick).1) rfl rfl) (meet_cons (by exact meetV (.int .i64 (nextSt l site tick).2.1) rfl rfl) (meet_cons (by exact meetV (.int .i64 (nextSt l site tick).2.2.1) rfl rfl) (meet_cons (by exact meetV (.int .i64 (nextSt l site tick).2.2.2) rfl rfl) meet_nil)))))))) (fun _ _ _ => rfl) ?_
          intro M1 a1 c1 hO1 hK1 hT1 a w hh
          have hM1 := hK1.up hT1 (Nat.le_refl _) hM0
          letI := (sg M1 l a_l c_l site tick i b0 a0 c0 b1 a1 c1)
          by_cases v0 : ValidP (nextSt l site tick)
          · by_cases v1 : (nextSt l site tick).2.2.1 = site
            · by_cases v2 : (nextSt l site tick).1 = tick
              · by_cases v3 : ordB b1 = true
                · by_cases v4 : ordB l = true
                  · refine walk_ops (F := F8) (T := C8) (fuel := 1000) (d := 10) mixed (allF_cons (FactOk.bi rfl rfl rfl rfl rfl rfl (boolT (by omega))) (allF_cons (FactOk.bi rfl rfl rfl rfl rfl rfl (boolT (by omega))) allF_nil)) (allC_cons (callValidT rfl rfl v0) (allC_cons (callOrdT rfl rfl (hO1.arr hkS) (by omega) v3) (allC_cons (callOrdT rfl rfl (hl.mono hM1) (by omega) v4) allC_nil))) ?_ hh
                    exact ostop_end e112 fun w2 hLow hIn => ⟨(by first | rfl | (exfalso; first | exact h2 (nextBad h1) | (have := nextCmp h1 (show i < l.length by omega); omega) | (have := nextSeq h1 (show i < l.length by omega) p2; omega) | exact v0 (nextLast h1).1 | exact v1 (nextLast h1).2.1 | exact v2 (nextLast h1).2.2.1 | exact v4 ((nextOrd h1 (by rw [hb1, hb0]; rfl)).1 v3) | exact v3 ((nextOrd h1 (by rw [hb1, hb0]; rfl)).2 v4))), hLow⟩   -- returns .bool true
                  · refine walk_ops (F := F9) (T := C9) (fuel := 1000) (d := 10) mixed (allF_cons (FactOk.bi rfl rfl rfl rfl rfl rfl (boolT (by omega))) (allF_cons (FactOk.bi rfl rfl rfl rfl rfl rfl (boolT (by omega))) allF_nil)) (allC_cons (callValidT rfl rfl v0) (allC_cons (callOrdT rfl rfl (hO1.arr hkS) (by omega) v3) (allC_cons (callOrdF rfl rfl (hl.mono hM1) (by omega) v4) allC_nil))) ?_ hh
                    exact ostop_end e113 fun w2 hLow hIn => ⟨(by first | rfl | (exfalso; first | exact h2 (nextBad h1) | (have := nextCmp h1 (show i < l.length by omega); omega) | (have := nextSeq h1 (show i < l.length by omega) p2; omega) | exact v0 (nextLast h1).1 | exact v1 (nextLast h1).2.1 | exact v2 (nextLast h1).2.2.1 | exact v4 ((nextOrd h1 (by rw [hb1, hb0]; rfl)).1 v3) | exact v3 ((nextOrd h1 (by rw [hb1, hb0]; rfl)).2 v4))), hLow⟩   -- returns .bool false
                · by_cases v4 : ordB l = true
                  · refine walk_ops (F := F10) (T := C10) (fuel := 1000) (d := 10) mixed (allF_cons (FactOk.bi rfl rfl rfl rfl rfl rfl (boolT (by omega))) (allF_cons (FactOk.bi rfl rfl rfl rfl rfl rfl (boolT (by omega))) allF_nil)) (allC_cons (callValidT rfl rfl v0) (allC_cons (callOrdF rfl rfl (hO1.arr hkS) (by omega) v3) (allC_cons (callOrdT rfl rfl (hl.mono hM1) (by omega) v4) allC_nil))) ?_ hh
                    exact ostop_end e114 fun w2 hLow hIn => ⟨(by first | rfl | (exfalso; first | exact h2 (nextBad h1) | (have := nextCmp h1 (show i < l.length by omega); omega) | (have := nextSeq h1 (show i < l.length by omega) p2; omega) | exact v0 (nextLast h1).1 | exact v1 (nextLast h1).2.1 | exact v2 (nextLast h1).2.2.1 | exact v4 ((nextOrd h1 (by rw [hb1, hb0]; rfl)).1 v3) | exact v3 ((nextOrd h1 (by rw [hb1, hb0]; rfl)).2 v4))), hLow⟩   -- returns .bool false
                  · refine walk_ops (F := F11) (T := C11) (fuel := 1000) (d := 10) mixed (allF_cons (FactOk.bi rfl rfl rfl rfl rfl rfl (boolT (by omega))) (allF_cons (FactOk.bi rfl rfl rfl rfl rfl rfl (boolT (by omega))) allF_nil)) (allC_cons (callValidT rfl rfl v0) (allC_cons (callOrdF rfl rfl (hO1.arr hkS) (by omega) v3) (allC_cons (callOrdF rfl rfl (hl.mono hM1) (by omega) v4) allC_nil))) ?_ hh
                    exact ostop_end e115 fun w2 hLow hIn => ⟨(by first | rfl | (exfalso; first | exact h2 (nextBad h1) | (have := nextCmp h1 (show i < l.length by omega); omega) | (have := nextSeq h1 (show i < l.length by omega) p2; omega) | exact v0 (nextLast h1).1 | exact v1 (nextLast h1).2.1 | exact v2 (nextLast h1).2.2.1 | exact v4 ((nextOrd h1 (by rw [hb1, hb0]; rfl)).1 v3) | exact v3 ((nextOrd h1 (by rw [hb1, hb0]; rfl)).2 v4))), hLow⟩   -- returns .bool true
              · refine walk_ops (F := F12) (T := C12) (fuel := 1000) (d := 10) mixed (allF_cons (FactOk.bi rfl rfl rfl rfl rfl rfl (boolT (by omega))) (allF_cons (FactOk.bi rfl rfl rfl rfl rfl rfl (boolF (by omega))) allF_nil)) (allC_cons (callValidT rfl rfl v0) allC_nil) ?_ hh
                exact ostop_end e116 fun w2 hLow hIn => ⟨(by first | rfl | (exfalso; first | exact h2 (nextBad h1) | (have := nextCmp h1 (show i < l.length by omega); omega) | (have := nextSeq h1 (show i < l.length by omega) p2; omega) | exact v0 (nextLast h1).1 | exact v1 (nextLast h1).2.1 | exact v2 (nextLast h1).2.2.1 | exact v4 ((nextOrd h1 (by rw [hb1, hb0]; rfl)).1 v3) | exact v3 ((nextOrd h1 (by rw [hb1, hb0]; rfl)).2 v4))), hLow⟩   -- returns .bool false
            · refine walk_ops (F := F13) (T := C13) (fuel := 1000) (d := 10) mixed (allF_cons (FactOk.bi rfl rfl rfl rfl rfl rfl (boolF (by omega))) allF_nil) (allC_cons (callValidT rfl rfl v0) allC_nil) ?_ hh
              exact ostop_end e117 fun w2 hLow hIn => ⟨(by first | rfl | (exfalso; first | exact h2 (nextBad h1) | (have := nextCmp h1 (show i < l.length by omega); omega) | (have := nextSeq h1 (show i < l.length by omega) p2; omega) | exact v0 (nextLast h1).1 | exact v1 (nextLast h1).2.1 | exact v2 (nextLast h1).2.2.1 | exact v4 ((nextOrd h1 (by rw [hb1, hb0]; rfl)).1 v3) | exact v3 ((nextOrd h1 (by rw [hb1, hb0]; rfl)).2 v4))), hLow⟩   -- returns .bool false
          · refine walk_ops (F := F14) (T := C14) (fuel := 1000) (d := 10) mixed allF_nil (allC_cons (callValidF rfl rfl v0) allC_nil) ?_ hh
            exact ostop_end e118 fun w2 hLow hIn => ⟨(by first | rfl | (exfalso; first | exact h2 (nextBad h1) | (have := nextCmp h1 (show i < l.length by omega); omega) | (have := nextSeq h1 (show i < l.length by omega) p2; omega) | exact v0 (nextLast h1).1 | exact v1 (nextLast h1).2.1 | exact v2 (nextLast h1).2.2.1 | exact v4 ((nextOrd h1 (by rw [hb1, hb0]; rfl)).1 v3) | exact v3 ((nextOrd h1 (by rw [hb1, hb0]; rfl)).2 v4))), hLow⟩   -- returns .bool false
        · intro a w hh
          refine walk_ops (F := F3) (T := C3) (fuel := 1000) (d := 10) mixed allF_nil allC_nil ?_ hh
          obtain ⟨b0, hb0⟩ : ∃ b0 : List St, b0 = [] ++ l := ⟨_, rfl⟩
          have hn0 : b0.length = 0 + l.length := by rw [hb0]; first | rfl | simp
          refine ostop_appendO (l := []) (lx := l) (l' := b0) (vals2 := fun a c => (vL l a_l c_l site tick i b0 a c [] none 0)) (T := none) hb0 e119 underSl infoS zeroS iszS ibyS zszS (by decide) hkS honeS e120 e121 rfl (appTo_blk (by kernel_rfl)) (app_sym rfl rfl fun w hw => hl.reads hkS hw) (lenMax (show 0 + l.length ≤ 1000000 by omega)) (show (0 + l.length) * bytesS ≤ 140737488355328 by unfold bytesS; omega) (fun _ _ _ => (meet_cons (by exact meetV (.slice a_l l.length c_l) rfl rfl) (meet_cons (by exact meetV (.int .i64 site) rfl rfl) (meet_cons (by exact meetV (.int .i64 tick) rfl rfl) (meet_cons (by exact meetV (.int .i64 (nextSt l site tick).1) rfl rfl) (meet_cons (by exact meetV (.int .i64 (nextSt l site tick).2.1) rfl rfl) (meet_cons (by exact meetV (.int .i64 (nextSt l site tick).2.2.1) rfl rfl) (meet_cons (by exact meetV (.int .i64 (nextSt l site tick).2.2.2) rfl rfl) (meet_cons (by exact meetV (.int .i64 (nextSt l site tick).1) rfl rfl) (meet_cons (by exact meetV (.int .i64 (nextSt l site tick).2.1) rfl rfl) (meet_cons (by exact meetV (.int .i64 (nextSt l site tick).2.2.1) rfl rfl) (meet_cons (by exact meetV (.int .i64 (nextSt l site tick).2.2.2) rfl rfl) meet_nil)))))))))))) (fun _ _ _ => rfl) ?_
          intro M0 a0 c0 hO0 hK0 hT0 a w hh
          have hM0 := hK0.up hT0 (Nat.le_refl _) (fun _ _ h => h)
          letI := (sg M0 l a_l c_l site tick i b0 a0 c0 [] none 0)
          refine walk_ops (F := F3) (T := C3) (fuel := 1000) (d := 10) mixed allF_nil allC_nil ?_ hh
          obtain ⟨b1, hb1⟩ : ∃ b1 : List St, b1 = b0 ++ [(nextSt l site tick)] := ⟨_, rfl⟩
          have hn1 : b1.length = b0.length + 1 := by rw [hb1]; first | rfl | simp
          refine ostop_appendO (l := b0) (lx := [(nextSt l site tick)]) (l' := b1) (vals2 := fun a c => (vL l a_l c_l site tick i b0 a0 c0 b1 a c)) (T := (obl (.slice a0 b0.length c0))) hb1 e123 underSl infoS zeroS iszS ibyS zszS (by decide) hkS honeS e124 e125 rfl (appTo_sym rfl rfl hO0) (app_cells e122 hkS (by decide) rfl) (lenMax (show b0.length + 1 ≤ 1000000 by omega)) (show (b0.length + 1) * bytesS ≤ 140737488355328 by unfold bytesS; omega) (fun _ _ _ => (meet_cons (by exact meetV (.slice a_l l.length c_l) rfl rfl) (meet_cons (by exact meetV (.int .i64 site) rfl rfl) (meet_cons (by exact meetV (.int .i64 tick) rfl rfl) (meet_cons (by exact meetV (.int .i64 (nextSt l site tick).1) rfl rfl) (meet_cons (by exact meetV (.int .i64 (nextSt l site tick).2.1) rfl rfl) (meet_cons (by exact meetV (.int .i64 (nextSt l site tick).2.2.1) rfl rfl) (meet_cons (by exact meetV (.int .i64 (nextSt l site tick).2.2.2) rfl rfl) meet_nil)))))))) (fun _ _ _ => rfl) ?_
          intro M1 a1 c1 hO1 hK1 hT1 a w hh
          have hM1 := hK1.up hT1 (Nat.le_refl _) hM0
          letI := (sg M1 l a_l c_l site tick i b0 a0 c0 b1 a1 c1)
          by_cases v0 : ValidP (nextSt l site tick)
          · by_cases v1 : (nextSt l site tick).2.2.1 = site
            · by_cases v2 : (nextSt l site tick).1 = tick
              · by_cases v3 : ordB b1 = true
                · by_cases v4 : ordB l = true
                  · refine walk_ops (F := F8) (T := C8) (fuel := 1000) (d := 10) mixed (allF_cons (FactOk.bi rfl rfl rfl rfl rfl rfl (boolT (by omega))) (allF_cons (FactOk.bi rfl rfl rfl rfl rfl rfl (boolT (by omega))) allF_nil)) (allC_cons (callValidT rfl rfl v0) (allC_cons (callOrdT rfl rfl (hO1.arr hkS) (by omega) v3) (allC_cons (callOrdT rfl rfl (hl.mono hM1) (by omega) v4) allC_nil))) ?_ hh
                    exact ostop_end e126 fun w2 hLow hIn => ⟨(by first | rfl | (exfalso; first | exact h2 (nextBad h1) | (have := nextCmp h1 (show i < l.length by omega); omega) | (have := nextSeq h1 (show i < l.length by omega) p2; omega) | exact v0 (nextLast h1).1 | exact v1 (nextLast h1).2.1 | exact v2 (nextLast h1).2.2.1 | exact v4 ((nextOrd h1 (by rw [hb1, hb0]; rfl)).1 v3) | exact v3 ((nextOrd h1 (by rw [hb1, hb0]; rfl)).2 v4))), hLow⟩   -- returns .bool true
                  · refine walk_ops (F := F9) (T := C9) (fuel := 1000) (d := 10) mixed (allF_cons (FactOk.bi rfl rfl rfl rfl rfl rfl (boolT (by omega))) (allF_cons (FactOk.bi rfl rfl rfl rfl rfl rfl (boolT (by omega))) allF_nil)) (allC_cons (callValidT rfl rfl v0) (allC_cons (callOrdT rfl rfl (hO1.arr hkS) (by omega) v3) (allC_cons (callOrdF rfl rfl (hl.mono hM1) (by omega) v4) allC_nil))) ?_ hh
                    exact ostop_end e127 fun w2 hLow hIn => ⟨(by first | rfl | (exfalso; first | exact h2 (nextBad h1) | (have := nextCmp h1 (show i < l.length by omega); omega) | (have := nextSeq h1 (show i < l.length by omega) p2; omega) | exact v0 (nextLast h1).1 | exact v1 (nextLast h1).2.1 | exact v2 (nextLast h1).2.2.1 | exact v4 ((nextOrd h1 (by rw [hb1, hb0]; rfl)).1 v3) | exact v3 ((nextOrd h1 (by rw [hb1, hb0]; rfl)).2 v4))), hLow⟩   -- returns .bool false
                · by_cases v4 : ordB l = true
                  · refine walk_ops (F := F10) (T := C10) (fuel := 1000) (d := 10) mixed (allF_cons (FactOk.bi rfl rfl rfl rfl rfl rfl (boolT (by omega))) (allF_cons (FactOk.bi rfl rfl rfl rfl rfl rfl (boolT (by omega))) allF_nil)) (allC_cons (callValidT rfl rfl v0) (allC_cons (callOrdF rfl rfl (hO1.arr hkS) (by omega) v3) (allC_cons (callOrdT rfl rfl (hl.mono hM1) (by omega) v4) allC_nil))) ?_ hh
                    exact ostop_end e128 fun w2 hLow hIn => ⟨(by first | rfl | (exfalso; first | exact h2 (nextBad h1) | (have := nextCmp h1 (show i < l.length by omega); omega) | (have := nextSeq h1 (show i < l.length by omega) p2; omega) | exact v0 (nextLast h1).1 | exact v1 (nextLast h1).2.1 | exact v2 (nextLast h1).2.2.1 | exact v4 ((nextOrd h1 (by rw [hb1, hb0]; rfl)).1 v3) | exact v3 ((nextOrd h1 (by rw [hb1, hb0]; rfl)).2 v4))), hLow⟩   -- returns .bool false
                  · refine walk_ops (F := F11) (T := C11) (fuel := 1000) (d := 10) mixed (allF_cons (FactOk.bi rfl rfl rfl rfl rfl rfl (boolT (by omega))) (allF_cons (FactOk.bi rfl rfl rfl rfl rfl rfl (boolT (by omega))) allF_nil)) (allC_cons (callValidT rfl rfl v0) (allC_cons (callOrdF rfl rfl (hO1.arr hkS) (by omega) v3) (allC_cons (callOrdF rfl rfl (hl.mono hM1) (by omega) v4) allC_nil))) ?_ hh
                    exact ostop_end e129 fun w2 hLow hIn => ⟨(by first | rfl | (exfalso; first | exact h2 (nextBad h1) | (have := nextCmp h1 (show i < l.length by omega); omega) | (have := nextSeq h1 (show i < l.length by omega) p2; omega) | exact v0 (nextLast h1).1 | exact v1 (nextLast h1).2.1 | exact v2 (nextLast h1).2.2.1 | exact v4 ((nextOrd h1 (by rw [hb1, hb0]; rfl)).1 v3) | exact v3 ((nextOrd h1 (by rw [hb1, hb0]; rfl)).2 v4))), hLow⟩   -- returns .bool true
              · refine walk_ops (F := F12) (T := C12) (fuel := 1000) (d := 10) mixed (allF_cons (FactOk.bi rfl rfl rfl rfl rfl rfl (boolT (by omega))) (allF_cons (FactOk.bi rfl rfl rfl rfl rfl rfl (boolF (by omega))) allF_nil)) (allC_cons (callValidT rfl rfl v0) allC_nil) ?_ hh
                exact ostop_end e130 fun w2 hLow hIn => ⟨(by first | rfl | (exfalso; first | exact h2 (nextBad h1) | (have := nextCmp h1 (show i < l.length by omega); omega) | (have := nextSeq h1 (show i < l.length by omega) p2; omega) | exact v0 (nextLast h1).1 | exact v1 (nextLast h1).2.1 | exact v2 (nextLast h1).2.2.1 | exact v4 ((nextOrd h1 (by rw [hb1, hb0]; rfl)).1 v3) | exact v3 ((nextOrd h1 (by rw [hb1, hb0]; rfl)).2 v4))), hLow⟩   -- returns .bool false
            · refine walk_ops (F := F13) (T := C13) (fuel := 1000) (d := 10) mixed (allF_cons (FactOk.bi rfl rfl rfl rfl rfl rfl (boolF (by omega))) allF_nil) (allC_cons (callValidT rfl rfl v0) allC_nil) ?_ hh
              exact ostop_end e131 fun w2 hLow hIn => ⟨(by first | rfl | (exfalso; first | exact h2 (nextBad h1) | (have := nextCmp h1 (show i < l.length by omega); omega) | (have := nextSeq h1 (show i < l.length by omega) p2; omega) | exact v0 (nextLast h1).1 | exact v1 (nextLast h1).2.1 | exact v2 (nextLast h1).2.2.1 | exact v4 ((nextOrd h1 (by rw [hb1, hb0]; rfl)).1 v3) | exact v3 ((nextOrd h1 (by rw [hb1, hb0]; rfl)).2 v4))), hLow⟩   -- returns .bool false
          · refine walk_ops (F := F14) (T := C14) (fuel := 1000) (d := 10) mixed allF_nil (allC_cons (callValidF rfl rfl v0) allC_nil) ?_ hh
            exact ostop_end e132 fun w2 hLow hIn => ⟨(by first | rfl | (exfalso; first | exact h2 (nextBad h1) | (have := nextCmp h1 (show i < l.length by omega); omega) | (have := nextSeq h1 (show i < l.length by omega) p2; omega) | exact v0 (nextLast h1).1 | exact v1 (nextLast h1).2.1 | exact v2 (nextLast h1).2.2.1 | exact v4 ((nextOrd h1 (by rw [hb1, hb0]; rfl)).1 v3) | exact v3 ((nextOrd h1 (by rw [hb1, hb0]; rfl)).2 v4))), hLow⟩   -- returns .bool false
        · intro a w hh
          refine walk_ops (F := F3) (T := C3) (fuel := 1000) (d := 10) mixed allF_nil allC_nil ?_ hh
          obtain ⟨b0, hb0⟩ : ∃ b0 : List St, b0 = [] ++ l := ⟨_, rfl⟩
          have hn0 : b0.length = 0 + l.length := by rw [hb0]; first | rfl | simp
          refine ostop_appendO (l := []) (lx := l) (l' := b0) (vals2 := fun a c => (vL l a_l c_l site tick i b0 a c [] none 0)) (T := none) hb0 e133 underSl infoS zeroS iszS ibyS zszS (by decide) hkS honeS e134 e135 rfl (appTo_blk (by kernel_rfl)) (app_sym rfl rfl fun w hw => hl.reads hkS hw) (lenMax (show 0 + l.length ≤ 1000000 by omega)) (show (0 + l.length) * bytesS ≤ 140737488355328 by unfold bytesS; omega) (fun _ _ _ => (meet_cons (by exact meetV (.slice a_l l.length c_l) rfl rfl) (meet_cons (by exact meetV (.int .i64 site) rfl rfl) (meet_cons (by exact meetV (.int .i64 tick) rfl rfl) (meet_cons (by exact meetV (.int .i64 (nextSt l site tick).1) rfl rfl) (meet_cons (by exact meetV (.int .i64 (nextSt l site tick).2.1) rfl rfl) (meet_cons (by exact meetV (.int .i64 (nextSt l site tick).2.2.1) rfl rfl) (meet_cons (by exact meetV (.int .i64 (nextSt l site tick).2.2.2) rfl rfl) (meet_cons (by exact meetV (.int .i64 (nextSt l site tick).1) rfl rfl) (meet_cons (by exact meetV (.int .i64 (nextSt l site tick).2.1) rfl rfl) (meet_cons (by exact meetV (.int .i64 (nextSt l site tick).2.2.1) rfl rfl) (meet_cons (by exact meetV (.int .i64 (nextSt l site tick).2.2.2) rfl rfl) meet_nil)))))))))))) (fun _ _ _ => rfl) ?_
          intro M0 a0 c0 hO0 hK0 hT0 a w hh
          have hM0 := hK0.up hT0 (Nat.le_refl _) (fun _ _ h => h)
          letI := (sg M0 l a_l c_l site tick i b0 a0 c0 [] none 0)
          refine walk_ops (F := F3) (T := C3) (fuel := 1000) (d := 10) mixed allF_nil allC_nil ?_ hh
          obtain ⟨b1, hb1⟩ : ∃ b1 : List St, b1 = b0 ++ [(nextSt l site tick)] := ⟨_, rfl⟩
          have hn1 : b1.length = b0.length + 1 := by rw [hb1]; first | rfl | simp
          refine ostop_appendO (l := b0) (lx := [(nextSt l site tick)]) (l' := b1) (vals2 := fun a c => (vL l a_l c_l site tick i b0 a0 c0 b1 a c)) (T := (obl (.slice a0 b0.length c0))) hb1 e137 underSl infoS zeroS iszS ibyS zszS (by decide) hkS honeS e138 e139 rfl (appTo_sym rfl rfl hO0) (app_cells e136 hkS (by decide) rfl) (lenMax (show b0.length + 1 ≤ 1000000 by omega)) (show (b0.length + 1) * bytesS ≤ 140737488355328 by unfold bytesS; omega) (fun _ _ _ => (meet_cons (by exact meetV (.slice a_l l.length c_l) rfl rfl) (meet_cons (by exact meetV (.int .i64 site) rfl rfl) (meet_cons (by exact meetV (.int .i64 tick) rfl rfl) (meet_cons (by exact meetV (.int .i64 (nextSt l site tick).1) rfl rfl) (meet_cons (by exact meetV (.int .i64 (nextSt l site tick).2.1) rfl rfl) (meet_cons (by exact meetV (.int .i64 (nextSt l site tick).2.2.1) rfl rfl) (meet_cons (by exact meetV (.int .i64 (nextSt l site tick).2.2.2) rfl rfl) meet_nil)))))))) (fun _ _ _ => rfl) ?_
          intro M1 a1 c1 hO1 hK1 hT1 a w hh
          have hM1 := hK1.up hT1 (Nat.le_refl _) hM0
          letI := (sg M1 l a_l c_l site tick i b0 a0 c0 b1 a1 c1)
          by_cases v0 : ValidP (nextSt l site tick)
          · by_cases v1 : (nextSt l site tick).2.2.1 = site
            · by_cases v2 : (nextSt l site tick).1 = tick
              · by_cases v3 : ordB b1 = true
                · by_cases v4 : ordB l = true
                  · refine walk_ops (F := F8) (T := C8) (fuel := 1000) (d := 10) mixed (allF_cons (FactOk.bi rfl rfl rfl rfl rfl rfl (boolT (by omega))) (allF_cons (FactOk.bi rfl rfl rfl rfl rfl rfl (boolT (by omega))) allF_nil)) (allC_cons (callValidT rfl rfl v0) (allC_cons (callOrdT rfl rfl (hO1.arr hkS) (by omega) v3) (allC_cons (callOrdT rfl rfl (hl.mono hM1) (by omega) v4) allC_nil))) ?_ hh
                    exact ostop_end e140 fun w2 hLow hIn => ⟨(by first | rfl | (exfalso; first | exact h2 (nextBad h1) | (have := nextCmp h1 (show i < l.length by omega); omega) | (have := nextSeq h1 (show i < l.length by omega) p2; omega) | exact v0 (nextLast h1).1 | exact v1 (nextLast h1).2.1 | exact v2 (nextLast h1).2.2.1 | exact v4 ((nextOrd h1 (by rw [hb1, hb0]; rfl)).1 v3) | exact v3 ((nextOrd h1 (by rw [hb1, hb0]; rfl)).2 v4))), hLow⟩   -- returns .bool true
                  · refine walk_ops (F := F9) (T := C9) (fuel := 1000) (d := 10) mixed (allF_cons (FactOk.bi rfl rfl rfl rfl rfl rfl (boolT (by omega))) (allF_cons (FactOk.bi rfl rfl rfl rfl rfl rfl (boolT (by omega))) allF_nil)) (allC_cons (callValidT rfl rfl v0) (allC_cons (callOrdT rfl rfl (hO1.arr hkS) (by omega) v3) (allC_cons (callOrdF rfl rfl (hl.mono hM1) (by omega) v4) allC_nil))) ?_ hh
                    exact ostop_end e141 fun w2 hLow hIn => ⟨(by first | rfl | (exfalso; first | exact h2 (nextBad h1) | (have := nextCmp h1 (show i < l.length by omega); omega) | (have := nextSeq h1 (show i < l.length by omega) p2; omega) | exact v0 (nextLast h1).1 | exact v1 (nextLast h1).2.1 | exact v2 (nextLast h1).2.2.1 | exact v4 ((nextOrd h1 (by rw [hb1, hb0]; rfl)).1 v3) | exact v3 ((nextOrd h1 (by rw [hb1, hb0]; rfl)).2 v4))), hLow⟩   -- returns .bool false
                · by_cases v4 : ordB l = true
                  · refine walk_ops (F := F10) (T := C10) (fuel := 1000) (d := 10) mixed (allF_cons (FactOk.bi rfl rfl rfl rfl rfl rfl (boolT (by omega))) (allF_cons (FactOk.bi rfl rfl rfl rfl rfl rfl (boolT (by omega))) allF_nil)) (allC_cons (callValidT rfl rfl v0) (allC_cons (callOrdF rfl rfl (hO1.arr hkS) (by omega) v3) (allC_cons (callOrdT rfl rfl (hl.mono hM1) (by omega) v4) allC_nil))) ?_ hh
                    exact ostop_end e142 fun w2 hLow hIn => ⟨(by first | rfl | (exfalso; first | exact h2 (nextBad h1) | (have := nextCmp h1 (show i < l.length by omega); omega) | (have := nextSeq h1 (show i < l.length by omega) p2; omega) | exact v0 (nextLast h1).1 | exact v1 (nextLast h1).2.1 | exact v2 (nextLast h1).2.2.1 | exact v4 ((nextOrd h1 (by rw [hb1, hb0]; rfl)).1 v3) | exact v3 ((nextOrd h1 (by rw [hb1, hb0]; rfl)).2 v4))), hLow⟩   -- returns .bool false
                  · refine walk_ops (F := F11) (T := C11) (fuel := 1000) (d := 10) mixed (allF_cons (FactOk.bi rfl rfl rfl rfl rfl rfl (boolT (by omega))) (allF_cons (FactOk.bi rfl rfl rfl rfl rfl rfl (boolT (by omega))) allF_nil)) (allC_cons (callValidT rfl rfl v0) (allC_cons (callOrdF rfl rfl (hO1.arr hkS) (by omega) v3) (allC_cons (callOrdF rfl rfl (hl.mono hM1) (by omega) v4) allC_nil))) ?_ hh
                    exact ostop_end e143 fun w2 hLow hIn => ⟨(by first | rfl | (exfalso; first | exact h2 (nextBad h1) | (have := nextCmp h1 (show i < l.length by omega); omega) | (have := nextSeq h1 (show i < l.length by omega) p2; omega) | exact v0 (nextLast h1).1 | exact v1 (nextLast h1).2.1 | exact v2 (nextLast h1).2.2.1 | exact v4 ((nextOrd h1 (by rw [hb1, hb0]; rfl)).1 v3) | exact v3 ((nextOrd h1 (by rw [hb1, hb0]; rfl)).2 v4))), hLow⟩   -- returns .bool true
              · refine walk_ops (F := F12) (T := C12) (fuel := 1000) (d := 10) mixed (allF_cons (FactOk.bi rfl rfl rfl rfl rfl rfl (boolT (by omega))) (allF_cons (FactOk.bi rfl rfl rfl rfl rfl rfl (boolF (by omega))) allF_nil)) (allC_cons (callValidT rfl rfl v0) allC_nil) ?_ hh
                exact ostop_end e144 fun w2 hLow hIn => ⟨(by first | rfl | (exfalso; first | exact h2 (nextBad h1) | (have := nextCmp h1 (show i < l.length by omega); omega) | (have := nextSeq h1 (show i < l.length by omega) p2; omega) | exact v0 (nextLast h1).1 | exact v1 (nextLast h1).2.1 | exact v2 (nextLast h1).2.2.1 | exact v4 ((nextOrd h1 (by rw [hb1, hb0]; rfl)).1 v3) | exact v3 ((nextOrd h1 (by rw [hb1, hb0]; rfl)).2 v4))), hLow⟩   -- returns .bool false
            · refine walk_ops (F := F13) (T := C13) (fuel := 1000) (d := 10) mixed (allF_cons (FactOk.bi rfl rfl rfl rfl rfl rfl (boolF (by omega))) allF_nil) (allC_cons (callValidT rfl rfl v0) allC_nil) ?_ hh
              exact ostop_end e145 fun w2 hLow hIn => ⟨(by first | rfl | (exfalso; first | exact h2 (nextBad h1) | (have := nextCmp h1 (show i < l.length by omega); omega) | (have := nextSeq h1 (show i < l.length by omega) p2; omega) | exact v0 (nextLast h1).1 | exact v1 (nextLast h1).2.1 | exact v2 (nextLast h1).2.2.1 | exact v4 ((nextOrd h1 (by rw [hb1, hb0]; rfl)).1 v3) | exact v3 ((nextOrd h1 (by rw [hb1, hb0]; rfl)).2 v4))), hLow⟩   -- returns .bool false
          · refine walk_ops (F := F14) (T := C14) (fuel := 1000) (d := 10) mixed allF_nil (allC_cons (callValidF rfl rfl v0) allC_nil) ?_ hh
            exact ostop_end e146 fun w2 hLow hIn => ⟨(by first | rfl | (exfalso; first | exact h2 (nextBad h1) | (have := nextCmp h1 (show i < l.length by omega); omega) | (have := nextSeq h1 (show i < l.length by omega) p2; omega) | exact v0 (nextLast h1).1 | exact v1 (nextLast h1).2.1 | exact v2 (nextLast h1).2.2.1 | exact v4 ((nextOrd h1 (by rw [hb1, hb0]; rfl)).1 v3) | exact v3 ((nextOrd h1 (by rw [hb1, hb0]; rfl)).2 v4))), hLow⟩   -- returns .bool false
        · intro a w hh
          refine walk_ops (F := F3) (T := C3) (fuel := 1000) (d := 10) mixed allF_nil allC_nil ?_ hh
          obtain ⟨b0, hb0⟩ : ∃ b0 : List St, b0 = [] ++ l := ⟨_, rfl⟩
          have hn0 : b0.length = 0 + l.length := by rw [hb0]; first | rfl | simp
          refine ostop_appendO (l := []) (lx := l) (l' := b0) (vals2 := fun a c => (vL l a_l c_l site tick i b0 a c [] none 0)) (T := none) hb0 e147 underSl infoS zeroS iszS ibyS zszS (by decide) hkS honeS e148 e149 rfl (appTo_blk (by kernel_rfl)) (app_sym rfl rfl fun w hw => hl.reads hkS hw) (lenMax (show 0 + l.length ≤ 1000000 by omega)) (show (0 + l.length) * bytesS ≤ 140737488355328 by unfold bytesS; omega) (fun _ _ _ => (meet_cons (by exact meetV (.slice a_l l.length c_l) rfl rfl) (meet_cons (by exact meetV (.int .i64 site) rfl rfl) (meet_cons (by exact meetV (.int .i64 tick) rfl rfl) (meet_cons (by exact meetV (.int .i64 (nextSt l site tick).1) rfl rfl) (meet_cons (by exact meetV (.int .i64 (nextSt l site tick).2.1) rfl rfl) (meet_cons (by exact meetV (.int .i64 (nextSt l site tick).2.2.1) rfl rfl) (meet_cons (by exact meetV (.int .i64 (nextSt l site tick).2.2.2) rfl rfl) (meet_cons (by exact meetV (.int .i64 (nextSt l site tick).1) rfl rfl) (meet_cons (by exact meetV (.int .i64 (nextSt l site tick).2.1) rfl rfl) (meet_cons (by exact meetV (.int .i64 (nextSt l site tick).2.2.1) rfl rfl) (meet_cons (by exact meetV (.int .i64 (nextSt l site tick).2.2.2) rfl rfl) meet_nil)))))))))))) (fun _ _ _ => rfl) ?_
          intro M0 a0 c0 hO0 hK0 hT0 a w hh
          have hM0 := hK0.up hT0 (Nat.le_refl _) (fun _ _ h => h)
          letI := (sg M0 l a_l c_l site tick i b0 a0 c0 [] none 0)
          refine walk_ops (F := F3) (T := C3) (fuel := 1000) (d := 10) mixed allF_nil allC_nil ?_ hh
          obtain ⟨b1, hb1⟩ : ∃ b1 : List St, b1 = b0 ++ [(nextSt l site tick)] := ⟨_, rfl⟩
          have hn1 : b1.length = b0.length + 1 := by rw [hb1]; first | rfl | simp
          refine ostop_appendO (l := b0) (lx := [(nextSt l site tick)]) (l' := b1) (vals2 := fun a c => (vL l a_l c_l site tick i b0 a0 c0 b1 a c)) (T := (obl (.slice a0 b0.length c0))) hb1 e151 underSl infoS zeroS iszS ibyS zszS (by decide) hkS honeS e152 e153 rfl (appTo_sym rfl rfl hO0) (app_cells e150 hkS (by decide) rfl) (lenMax (show b0.length + 1 ≤ 1000000 by omega)) (show (b0.length + 1) * bytesS ≤ 140737488355328 by unfold bytesS; omega) (fun _ _ _ => (meet_cons (by exact meetV (.slice a_l l.length c_l) rfl rfl) (meet_cons (by exact meetV (.int .i64 site) rfl rfl) (meet_cons (by exact meetV (.int .i64 tick) rfl rfl) (meet_cons (by exact meetV (.int .i64 (nextSt l site tick).1) rfl rfl) (meet_cons (by exact meetV (.int .i64 (nextSt l site tick).2.1) rfl rfl) (meet_cons (by exact meetV (.int .i64 (nextSt l site tick).2.2.1) rfl rfl) (meet_cons (by exact meetV (.int .i64 (nextSt l site tick).2.2.2) rfl rfl) meet_nil)))))))) (fun _ _ _ => rfl) ?_
          intro M1 a1 c1 hO1 hK1 hT1 a w hh
          have hM1 := hK1.up hT1 (Nat.le_refl _) hM0
          letI := (sg M1 l a_l c_l site tick i b0 a0 c0 b1 a1 c1)
          by_cases v0 : ValidP (nextSt l site tick)
          · by_cases v1 : (nextSt l site tick).2.2.1 = site
            · by_cases v2 : (nextSt l site tick).1 = tick
              · by_cases v3 : ordB b1 = true
                · by_cases v4 : ordB l = true
                  · refine walk_ops (F := F8) (T := C8) (fuel := 1000) (d := 10) mixed (allF_cons (FactOk.bi rfl rfl rfl rfl rfl rfl (boolT (by omega))) (allF_cons (FactOk.bi rfl rfl rfl rfl rfl rfl (boolT (by omega))) allF_nil)) (allC_cons (callValidT rfl rfl v0) (allC_cons (callOrdT rfl rfl (hO1.arr hkS) (by omega) v3) (allC_cons (callOrdT rfl rfl (hl.mono hM1) (by omega) v4) allC_nil))) ?_ hh
                    exact ostop_end e154 fun w2 hLow hIn => ⟨(by first | rfl | (exfalso; first | exact h2 (nextBad h1) | (have := nextCmp h1 (show i < l.length by omega); omega) | (have := nextSeq h1 (show i < l.length by omega) p2; omega) | exact v0 (nextLast h1).1 | exact v1 (nextLast h1).2.1 | exact v2 (nextLast h1).2.2.1 | exact v4 ((nextOrd h1 (by rw [hb1, hb0]; rfl)).1 v3) | exact v3 ((nextOrd h1 (by rw [hb1, hb0]; rfl)).2 v4))), hLow⟩   -- returns .bool true
                  · refine walk_ops (F := F9) (T := C9) (fuel := 1000) (d := 10) mixed (allF_cons (FactOk.bi rfl rfl rfl rfl rfl rfl (boolT (by omega))) (allF_cons (FactOk.bi rfl rfl rfl rfl rfl rfl (boolT (by omega))) allF_nil)) (allC_cons (callValidT rfl rfl v0) (allC_cons (callOrdT rfl rfl (hO1.arr hkS) (by omega) v3) (allC_cons (callOrdF rfl rfl (hl.mono hM1) (by omega) v4) allC_nil))) ?_ hh
                    exact ostop_end e155 fun w2 hLow hIn => ⟨(by first | rfl | (exfalso; first | exact h2 (nextBad h1) | (have := nextCmp h1 (show i < l.length by omega); omega) | (have := nextSeq h1 (show i < l.length by omega) p2; omega) | exact v0 (nextLast h1).1 | exact v1 (nextLast h1).2.1 | exact v2 (nextLast h1).2.2.1 | exact v4 ((nextOrd h1 (by rw [hb1, hb0]; rfl)).1 v3) | exact v3 ((nextOrd h1 (by rw [hb1, hb0]; rfl)).2 v4))), hLow⟩   -- returns .bool false
                · by_cases v4 : ordB l = true
                  · refine walk_ops (F := F10) (T := C10) (fuel := 1000) (d := 10) mixed (allF_cons (FactOk.bi rfl rfl rfl rfl rfl rfl (boolT (by omega))) (allF_cons (FactOk.bi rfl rfl rfl rfl rfl rfl (boolT (by omega))) allF_nil)) (allC_cons (callValidT rfl rfl v0) (allC_cons (callOrdF rfl rfl (hO1.arr hkS) (by omega) v3) (allC_cons (callOrdT rfl rfl (hl.mono hM1) (by omega) v4) allC_nil))) ?_ hh
                    exact ostop_end e156 fun w2 hLow hIn => ⟨(by first | rfl | (exfalso; first | exact h2 (nextBad h1) | (have := nextCmp h1 (show i < l.length by omega); omega) | (have := nextSeq h1 (show i < l.length by omega) p2; omega) | exact v0 (nextLast h1).1 | exact v1 (nextLast h1).2.1 | exact v2 (nextLast h1).2.2.1 | exact v4 ((nextOrd h1 (by rw [hb1, hb0]; rfl)).1 v3) | exact v3 ((nextOrd h1 (by rw [hb1, hb0]; rfl)).2 v4))), hLow⟩   -- returns .bool false
                  · refine walk_ops (F := F11) (T := C11) (fuel := 1000) (d := 10) mixed (allF_cons (FactOk.bi rfl rfl rfl rfl rfl rfl (boolT (by omega))) (allF_cons (FactOk.bi rfl rfl rfl rfl rfl rfl (boolT (by omega))) allF_nil)) (allC_cons (callValidT rfl rfl v0) (allC_cons (callOrdF rfl rfl (hO1.arr hkS) (by omega) v3) (allC_cons (callOrdF rfl rfl (hl.mono hM1) (by omega) v4) allC_nil))) ?_ hh
                    exact ostop_end e157 fun w2 hLow hIn => ⟨(by first | rfl | (exfalso; first | exact h2 (nextBad h1) | (have := nextCmp h1 (show i < l.length by omega); omega) | (have := nextSeq h1 (show i < l.length by omega) p2; omega) | exact v0 (nextLast h1).1 | exact v1 (nextLast h1).2.1 | exact v2 (nextLast h1).2.2.1 | exact v4 ((nextOrd h1 (by rw [hb1, hb0]; rfl)).1 v3) | exact v3 ((nextOrd h1 (by rw [hb1, hb0]; rfl)).2 v4))), hLow⟩   -- returns .bool true
              · refine walk_ops (F := F12) (T := C12) (fuel := 1000) (d := 10) mixed (allF_cons (FactOk.bi rfl rfl rfl rfl rfl rfl (boolT (by omega))) (allF_cons (FactOk.bi rfl rfl rfl rfl rfl rfl (boolF (by omega))) allF_nil)) (allC_cons (callValidT rfl rfl v0) allC_nil) ?_ hh
                exact ostop_end e158 fun w2 hLow hIn => ⟨(by first | rfl | (exfalso; first | exact h2 (nextBad h1) | (have := nextCmp h1 (show i < l.length by omega); omega) | (have := nextSeq h1 (show i < l.length by omega) p2; omega) | exact v0 (nextLast h1).1 | exact v1 (nextLast h1).2.1 | exact v2 (nextLast h1).2.2.1 | exact v4 ((nextOrd h1 (by rw [hb1, hb0]; rfl)).1 v3) | exact v3 ((nextOrd h1 (by rw [hb1, hb0]; rfl)).2 v4))), hLow⟩   -- returns .bool false
            · refine walk_ops (F := F13) (T := C13) (fuel := 1000) (d := 10) mixed (allF_cons (FactOk.bi rfl rfl rfl rfl rfl rfl (boolF (by omega))) allF_nil) (allC_cons (callValidT rfl rfl v0) allC_nil) ?_ hh
              exact ostop_end e159 fun w2 hLow hIn => ⟨(by first | rfl | (exfalso; first | exact h2 (nextBad h1) | (have := nextCmp h1 (show i < l.length by omega); omega) | (have := nextSeq h1 (show i < l.length by omega) p2; omega) | exact v0 (nextLast h1).1 | exact v1 (nextLast h1).2.1 | exact v2 (nextLast h1).2.2.1 | exact v4 ((nextOrd h1 (by rw [hb1, hb0]; rfl)).1 v3) | exact v3 ((nextOrd h1 (by rw [hb1, hb0]; rfl)).2 v4))), hLow⟩   -- returns .bool false
          · refine walk_ops (F := F14) (T := C14) (fuel := 1000) (d := 10) mixed allF_nil (allC_cons (callValidF rfl rfl v0) allC_nil) ?_ hh
            exact ostop_end e160 fun w2 hLow hIn => ⟨(by first | rfl | (exfalso; first | exact h2 (nextBad h1) | (have := nextCmp h1 (show i < l.length by omega); omega) | (have := nextSeq h1 (show i < l.length by omega) p2; omega) | exact v0 (nextLast h1).1 | exact v1 (nextLast h1).2.1 | exact v2 (nextLast h1).2.2.1 | exact v4 ((nextOrd h1 (by rw [hb1, hb0]; rfl)).1 v3) | exact v3 ((nextOrd h1 (by rw [hb1, hb0]; rfl)).2 v4))), hLow⟩   -- returns .bool false
        · intro a w hh
          refine walk_ops (F := F3) (T := C3) (fuel := 1000) (d := 10) mixed allF_nil allC_nil ?_ hh
          obtain ⟨b0, hb0⟩ : ∃ b0 : List St, b0 = [] ++ l := ⟨_, rfl⟩
          have hn0 : b0.length = 0 + l.length := by rw [hb0]; first | rfl | simp
          refine ostop_appendO (l := []) (lx := l) (l' := b0) (vals2 := fun a c => (vL l a_l c_l site tick i b0 a c [] none 0)) (T := none) hb0 e161 underSl infoS zeroS iszS ibyS zszS (by decide) hkS honeS e162 e163 rfl (appTo_blk (by kernel_rfl)) (app_sym rfl rfl fun w hw => hl.reads hkS hw) (lenMax (show 0 + l.length ≤ 1000000 by omega)) (show (0 + l.length) * bytesS ≤ 140737488355328 by unfold bytesS; omega) (fun _ _ _ => (meet_cons (by exact meetV (.slice a_l l.length c_l) rfl rfl) (meet_cons (by exact meetV (.int .i64 site) rfl rfl) (meet_cons (by exact meetV (.int .i64 tick) rfl rfl) (meet_cons (by exact meetV (.int .i64 (nextSt l site tick).1) rfl rfl) (meet_cons (by exact meetV (.int .i64 (nextSt l site tick).2.1) rfl rfl) (meet_cons (by exact meetV (.int .i64 (nextSt l site tick).2.2.1) rfl rfl) (meet_cons (by exact meetV (.int .i64 (nextSt l site tick).2.2.2) rfl rfl) (meet_cons (by exact meetV (.int .i64 (nextSt l site tick).1) rfl rfl) (meet_cons (by exact meetV (.int .i64 (nextSt l site tick).2.1) rfl rfl) (meet_cons (by exact meetV (.int .i64 (nextSt l site tick).2.2.1) rfl rfl) (meet_cons (by exact meetV (.int .i64 (nextSt l site tick).2.2.2) rfl rfl) meet_nil)))))))))))) (fun _ _ _ => rfl) ?_
          intro M0 a0 c0 hO0 hK0 hT0 a w hh
          have hM0 := hK0.up hT0 (Nat.le_refl _) (fun _ _ h => h)
          letI := (sg M0 l a_l c_l site tick i b0 a0 c0 [] none 0)
          refine walk_ops (F := F3) (T := C3) (fuel := 1000) (d := 10) mixed allF_nil allC_nil ?_ hh
          obtain ⟨b1, hb1⟩ : ∃ b1 : List St, b1 = b0 ++ [(nextSt l site tick)] := ⟨_, rfl⟩
          have hn1 : b1.length = b0.length + 1 := by rw [hb1]; first | rfl | simp
          refine ostop_appendO (l := b0) (lx := [(nextSt l site tick)]) (l' := b1) (vals2 := fun a c => (vL l a_l c_l site tick i b0 a0 c0 b1 a c)) (T := (obl (.slice a0 b0.length c0))) hb1 e165 underSl infoS zeroS iszS ibyS zszS (by decide) hkS honeS e166 e167 rfl (appTo_sym rfl rfl hO0) (app_cells e164 hkS (by decide) rfl) (lenMax (show b0.length + 1 ≤ 1000000 by omega)) (show (b0.length + 1) * bytesS ≤ 140737488355328 by unfold bytesS; omega) (fun _ _ _ => (meet_cons (by exact meetV (.slice a_l l.length c_l) rfl rfl) (meet_cons (by exact meetV (.int .i64 site) rfl rfl) (meet_cons (by exact meetV (.int .i64 tick) rfl rfl) (meet_cons (by exact meetV (.int .i64 (nextSt l site tick).1) rfl rfl) (meet_cons (by exact meetV (.int .i64 (nextSt l site tick).2.1) rfl rfl) (meet_cons (by exact meetV (.int .i64 (nextSt l site tick).2.2.1) rfl rfl) (meet_cons (by exact meetV (.int .i64 (nextSt l site tick).2.2.2) rfl rfl) meet_nil)))))))) (fun _ _ _ => rfl) ?_
          intro M1 a1 c1 hO1 hK1 hT1 a w hh
          have hM1 := hK1.up hT1 (Nat.le_refl _) hM0
          letI := (sg M1 l a_l c_l site tick i b0 a0 c0 b1 a1 c1)
          by_cases v0 : ValidP (nextSt l site tick)
          · by_cases v1 : (nextSt l site tick).2.2.1 = site
            · by_cases v2 : (nextSt l site tick).1 = tick
              · by_cases v3 : ordB b1 = true
                · by_cases v4 : ordB l = true
                  · refine walk_ops (F := F8) (T := C8) (fuel := 1000) (d := 10) mixed (allF_cons (FactOk.bi rfl rfl rfl rfl rfl rfl (boolT (by omega))) (allF_cons (FactOk.bi rfl rfl rfl rfl rfl rfl (boolT (by omega))) allF_nil)) (allC_cons (callValidT rfl rfl v0) (allC_cons (callOrdT rfl rfl (hO1.arr hkS) (by omega) v3) (allC_cons (callOrdT rfl rfl (hl.mono hM1) (by omega) v4) allC_nil))) ?_ hh
                    exact ostop_end e168 fun w2 hLow hIn => ⟨(by first | rfl | (exfalso; first | exact h2 (nextBad h1) | (have := nextCmp h1 (show i < l.length by omega); omega) | (have := nextSeq h1 (show i < l.length by omega) p2; omega) | exact v0 (nextLast h1).1 | exact v1 (nextLast h1).2.1 | exact v2 (nextLast h1).2.2.1 | exact v4 ((nextOrd h1 (by rw [hb1, hb0]; rfl)).1 v3) | exact v3 ((nextOrd h1 (by rw [hb1, hb0]; rfl)).2 v4))), hLow⟩   -- returns .bool true
                  · refine walk_ops (F := F9) (T := C9) (fuel := 1000) (d := 10) mixed (allF_cons (FactOk.bi rfl rfl rfl rfl rfl rfl (boolT (by omega))) (allF_cons (FactOk.bi rfl rfl rfl rfl rfl rfl (boolT (by omega))) allF_nil)) (allC_cons (callValidT rfl rfl v0) (allC_cons (callOrdT rfl rfl (hO1.arr hkS) (by omega) v3) (allC_cons (callOrdF rfl rfl (hl.mono hM1) (by omega) v4) allC_nil))) ?_ hh
                    exact ostop_end e169 fun w2 hLow hIn => ⟨(by first | rfl | (exfalso; first | exact h2 (nextBad h1) | (have := nextCmp h1 (show i < l.length by omega); omega) | (have := nextSeq h1 (show i < l.length by omega) p2; omega) | exact v0 (nextLast h1).1 | exact v1 (nextLast h1).2.1 | exact v2 (nextLast h1).2.2.1 | exact v4 ((nextOrd h1 (by rw [hb1, hb0]; rfl)).1 v3) | exact v3 ((nextOrd h1 (by rw [hb1, hb0]; rfl)).2 v4))), hLow⟩   -- returns .bool false
                · by_cases v4 : ordB l = true
                  · refine walk_ops (F := F10) (T := C10) (fuel := 1000) (d := 10) mixed (allF_cons (FactOk.bi rfl rfl rfl rfl rfl rfl (boolT (by omega))) (allF_cons (FactOk.bi rfl rfl rfl rfl rfl rfl (boolT (by omega))) allF_nil)) (allC_cons (callValidT rfl rfl v0) (allC_cons (callOrdF rfl rfl (hO1.arr hkS) (by omega) v3) (allC_cons (callOrdT rfl rfl (hl.mono hM1) (by omega) v4) allC_nil))) ?_ hh
                    exact ostop_end e170 fun w2 hLow hIn => ⟨(by first | rfl | (exfalso; first | exact h2 (nextBad h1) | (have := nextCmp h1 (show i < l.length by omega); omega) | (have := nextSeq h1 (show i < l.length by omega) p2; omega) | exact v0 (nextLast h1).1 | exact v1 (nextLast h1).2.1 | exact v2 (nextLast h1).2.2.1 | exact v4 ((nextOrd h1 (by rw [hb1, hb0]; rfl)).1 v3) | exact v3 ((nextOrd h1 (by rw [hb1, hb0]; rfl)).2 v4))), hLow⟩   -- returns .bool false
                  · refine walk_ops (F := F11) (T := C11) (fuel := 1000) (d := 10) mixed (allF_cons (FactOk.bi rfl rfl rfl rfl rfl rfl (boolT (by omega))) (allF_cons (FactOk.bi rfl rfl rfl rfl rfl rfl (boolT (by omega))) allF_nil)) (allC_cons (callValidT rfl rfl v0) (allC_cons (callOrdF rfl rfl (hO1.arr hkS) (by omega) v3) (allC_cons (callOrdF rfl rfl (hl.mono hM1) (by omega) v4) allC_nil))) ?_ hh
                    exact ostop_end e171 fun w2 hLow hIn => ⟨(by first | rfl | (exfalso; first | exact h2 (nextBad h1) | (have := nextCmp h1 (show i < l.length by omega); omega) | (have := nextSeq h1 (show i < l.length by omega) p2; omega) | exact v0 (nextLast h1).1 | exact v1 (nextLast h1).2.1 | exact v2 (nextLast h1).2.2.1 | exact v4 ((nextOrd h1 (by rw [hb1, hb0]; rfl)).1 v3) | exact v3 ((nextOrd h1 (by rw [hb1, hb0]; rfl)).2 v4))), hLow⟩   -- returns .bool true
              · refine walk_ops (F := F12) (T := C12) (fuel := 1000) (d := 10) mixed (allF_cons (FactOk.bi rfl rfl rfl rfl rfl rfl (boolT (by omega))) (allF_cons (FactOk.bi rfl rfl rfl rfl rfl rfl (boolF (by omega))) allF_nil)) (allC_cons (callValidT rfl rfl v0) allC_nil) ?_ hh
                exact ostop_end e172 fun w2 hLow hIn => ⟨(by first | rfl | (exfalso; first | exact h2 (nextBad h1) | (have := nextCmp h1 (show i < l.length by omega); omega) | (have := nextSeq h1 (show i < l.length by omega) p2; omega) | exact v0 (nextLast h1).1 | exact v1 (nextLast h1).2.1 | exact v2 (nextLast h1).2.2.1 | exact v4 ((nextOrd h1 (by rw [hb1, hb0]; rfl)).1 v3) | exact v3 ((nextOrd h1 (by rw [hb1, hb0]; rfl)).2 v4))), hLow⟩   -- returns .bool false
            · refine walk_ops (F := F13) (T := C13) (fuel := 1000) (d := 10) mixed (allF_cons (FactOk.bi rfl rfl rfl rfl rfl rfl (boolF (by omega))) allF_nil) (allC_cons (callValidT rfl rfl v0) allC_nil) ?_ hh
              exact ostop_end e173 fun w2 hLow hIn => ⟨(by first | rfl | (exfalso; first | exact h2 (nextBad h1) | (have := nextCmp h1 (show i < l.length by omega); omega) | (have := nextSeq h1 (show i < l.length by omega) p2; omega) | exact v0 (nextLast h1).1 | exact v1 (nextLast h1).2.1 | exact v2 (nextLast h1).2.2.1 | exact v4 ((nextOrd h1 (by rw [hb1, hb0]; rfl)).1 v3) | exact v3 ((nextOrd h1 (by rw [hb1, hb0]; rfl)).2 v4))), hLow⟩   -- returns .bool false
          · refine walk_ops (F := F14) (T := C14) (fuel := 1000) (d := 10) mixed allF_nil (allC_cons (callValidF rfl rfl v0) allC_nil) ?_ hh
            exact ostop_end e174 fun w2 hLow hIn => ⟨(by first | rfl | (exfalso; first | exact h2 (nextBad h1) | (have := nextCmp h1 (show i < l.length by omega); omega) | (have := nextSeq h1 (show i < l.length by omega) p2; omega) | exact v0 (nextLast h1).1 | exact v1 (nextLast h1).2.1 | exact v2 (nextLast h1).2.2.1 | exact v4 ((nextOrd h1 (by rw [hb1, hb0]; rfl)).1 v3) | exact v3 ((nextOrd h1 (by rw [hb1, hb0]; rfl)).2 v4))), hLow⟩   -- returns .bool false
        · intro a w hh
          refine walk_ops (F := F3) (T := C3) (fuel := 1000) (d := 10) mixed allF_nil allC_nil ?_ hh
          obtain ⟨b0, hb0⟩ : ∃ b0 : List St, b0 = [] ++ l := ⟨_, rfl⟩
          have hn0 : b0.length = 0 + l.length := by rw [hb0]; first | rfl | simp
          refine ostop_appendO (l := []) (lx := l) (l' := b0) (vals2 := fun a c => (vL l a_l c_l site tick i b0 a c [] none 0)) (T := none) hb0 e175 underSl infoS zeroS iszS ibyS zszS (by decide) hkS honeS e176 e177 rfl (appTo_blk (by kernel_rfl)) (app_sym rfl rfl fun w hw => hl.reads hkS hw) (lenMax (show 0 + l.length ≤ 1000000 by omega)) (show (0 + l.length) * bytesS ≤ 140737488355328 by unfold bytesS; omega) (fun _ _ _ => (meet_cons (by exact meetV (.slice a_l l.length c_l) rfl rfl) (meet_cons (by exact meetV (.int .i64 site) rfl rfl) (meet_cons (by exact meetV (.int .i64 tick) rfl rfl) (meet_cons (by exact meetV (.int .i64 (nextSt l site tick).1) rfl rfl) (meet_cons (by exact meetV (.int .i64 (nextSt l site tick).2.1) rfl rfl) (meet_cons (by exact meetV (.int .i64 (nextSt l site tick).2.2.1) rfl rfl) (meet_cons (by exact meetV (.int .i64 (nextSt l site tick).2.2.2) rfl rfl) (meet_cons (by exact meetV (.int .i64 (nextSt l site tick).1) rfl rfl) (meet_cons (by exact meetV (.int .i64 (nextSt l site tick).2.1) rfl rfl) (meet_cons (by exact meetV (.int .i64 (nextSt l site tick).2.2.1) rfl rfl) (meet_cons (by exact meetV (.int .i64 (nextSt l site tick).2.2.2) rfl rfl) meet_nil)))))))))))) (fun _ _ _ => rfl) ?_
          intro M0 a0 c0 hO0 hK0 hT0 a w hh
          have hM0 := hK0.up hT0 (Nat.le_refl _) (fun _ _ h => h)
          letI := (sg M0 l a_l c_l site tick i b0 a0 c0 [] none 0)
          refine walk_ops (F := F3) (T := C3) (fuel := 1000) (d := 10) mixed allF_nil allC_nil ?_ hh
          obtain ⟨b1, hb1⟩ : ∃ b1 : List St, b1 = b0 ++ [(nextSt l site tick)] := ⟨_, rfl⟩
          have hn1 : b1.length = b0.length + 1 := by rw [hb1]; first | rfl | simp
          refine ostop_appendO (l := b0) (lx := [(nextSt l site tick)]) (l' := b1) (vals2 := fun a c => (vL l a_l c_l site tick i b0 a0 c0 b1 a c)) (T := (obl (.slice a0 b0.length c0))) hb1 e179 underSl infoS zeroS iszS ibyS zszS (by decide) hkS honeS e180 e181 rfl (appTo_sym rfl rfl hO0) (app_cells e178 hkS (by decide) rfl) (lenMax (show b0.length + 1 ≤ 1000000 by omega)) (show (b0.length + 1) * bytesS ≤ 140737488355328 by unfold bytesS; omega) (fun _ _ _ => (meet_cons (by exact meetV (.slice a_l l.length c_l) rfl rfl) (meet_cons (by exact meetV (.int .i64 site) rfl rfl) (meet_cons (by exact meetV (.int .i64 tick) rfl rfl) (meet_cons (by exact meetV (.int .i64 (nextSt l site tick).1) rfl rfl) (meet_cons (by exact meetV (.int .i64 (nextSt l site tick).2.1) rfl rfl) (meet_cons (by exact meetV (.int .i64 (nextSt l site tick).2.2.1) rfl rfl) (meet_cons (by exact meetV (.int .i64 (nextSt l site tick).2.2.2) rfl rfl) meet_nil)))))))) (fun _ _ _ => rfl) ?_
          intro M1 a1 c1 hO1 hK1 hT1 a w hh
          have hM1 := hK1.up hT1 (Nat.le_refl _) hM0
          letI := (sg M1 l a_l c_l site tick i b0 a0 c0 b1 a1 c1)
          by_cases v0 : ValidP (nextSt l site tick)
          · by_cases v1 : (nextSt l site tick).2.2.1 = site
            · by_cases v2 : (nextSt l site tick).1 = tick
              · by_cases v3 : ordB b1 = true
                · by_cases v4 : ordB l = true
                  · refine walk_ops (F := F8) (T := C8) (fuel := 1000) (d := 10) mixed (allF_cons (FactOk.bi rfl rfl rfl rfl rfl rfl (boolT (by omega))) (allF_cons (FactOk.bi rfl rfl rfl rfl rfl rfl (boolT (by omega))) allF_nil)) (allC_cons (callValidT rfl rfl v0) (allC_cons (callOrdT rfl rfl (hO1.arr hkS) (by omega) v3) (allC_cons (callOrdT rfl rfl (hl.mono hM1) (by omega) v4) allC_nil))) ?_ hh
                    exact ostop_end e182 fun w2 hLow hIn => ⟨(by first | rfl | (exfalso; first | exact h2 (nextBad h1) | (have := nextCmp h1 (show i < l.length by omega); omega) | (have := nextSeq h1 (show i < l.length by omega) p2; omega) | exact v0 (nextLast h1).1 | exact v1 (nextLast h1).2.1 | exact v2 (nextLast h1).2.2.1 | exact v4 ((nextOrd h1 (by rw [hb1, hb0]; rfl)).1 v3) | exact v3 ((nextOrd h1 (by rw [hb1, hb0]; rfl)).2 v4))), hLow⟩   -- returns .bool true
                  · refine walk_ops (F := F9) (T := C9) (fuel := 1000) (d := 10) mixed (allF_cons (FactOk.bi rfl rfl rfl rfl rfl rfl (boolT (by omega))) (allF_cons (FactOk.bi rfl rfl rfl rfl rfl rfl (boolT (by omega))) allF_nil)) (allC_cons (callValidT rfl rfl v0) (allC_cons (callOrdT rfl rfl (hO1.arr hkS) (by omega) v3) (allC_cons (callOrdF rfl rfl (hl.mono hM1) (by omega) v4) allC_nil))) ?_ hh
                    exact ostop_end e183 fun w2 hLow hIn => ⟨(by first | rfl | (exfalso; first | exact h2 (nextBad h1) | (have := nextCmp h1 (show i < l.length by omega); omega) | (have := nextSeq h1 (show i < l.length by omega) p2; omega) | exact v0 (nextLast h1).1 | exact v1 (nextLast h1).2.1 | exact v2 (nextLast h1).2.2.1 | exact v4 ((nextOrd h1 (by rw [hb1, hb0]; rfl)).1 v3) | exact v3 ((nextOrd h1 (by rw [hb1, hb0]; rfl)).2 v4))), hLow⟩   -- returns .bool false
                · by_cases v4 : ordB l = true
                  · refine walk_ops (F := F10) (T := C10) (fuel := 1000) (d := 10) mixed (allF_cons (FactOk.bi rfl rfl rfl rfl rfl rfl (boolT (by omega))) (allF_cons (FactOk.bi rfl rfl rfl rfl rfl rfl (boolT (by omega))) allF_nil)) (allC_cons (callValidT rfl rfl v0) (allC_cons (callOrdF rfl rfl (hO1.arr hkS) (by omega) v3) (allC_cons (callOrdT rfl rfl (hl.mono hM1) (by omega) v4) allC_nil))) ?_ hh
                    exact ostop_end e184 fun w2 hLow hIn => ⟨(by first | rfl | (exfalso; first | exact h2 (nextBad h1) | (have := nextCmp h1 (show i < l.length by omega); omega) | (have := nextSeq h1 (show i < l.length by omega) p2; omega) | exact v0 (nextLast h1).1 | exact v1 (nextLast h1).2.1 | exact v2 (nextLast h1).2.2.1 | exact v4 ((nextOrd h1 (by rw [hb1, hb0]; rfl)).1 v3) | exact v3 ((nextOrd h1 (by rw [hb1, hb0]; rfl)).2 v4))), hLow⟩   -- returns .bool false
                  · refine walk_ops (F := F11) (T := C11) (fuel := 1000) (d := 10) mixed (allF_cons (FactOk.bi rfl rfl rfl rfl rfl rfl (boolT (by omega))) (allF_cons (FactOk.bi rfl rfl rfl rfl rfl rfl (boolT (by omega))) allF_nil)) (allC_cons (callValidT rfl rfl v0) (allC_cons (callOrdF rfl rfl (hO1.arr hkS) (by omega) v3) (allC_cons (callOrdF rfl rfl (hl.mono hM1) (by omega) v4) allC_nil))) ?_ hh
                    exact ostop_end e185 fun w2 hLow hIn => ⟨(by first | rfl | (exfalso; first | exact h2 (nextBad h1) | (have := nextCmp h1 (show i < l.length by omega); omega) | (have := nextSeq h1 (show i < l.length by omega) p2; omega) | exact v0 (nextLast h1).1 | exact v1 (nextLast h1).2.1 | exact v2 (nextLast h1).2.2.1 | exact v4 ((nextOrd h1 (by rw [hb1, hb0]; rfl)).1 v3) | exact v3 ((nextOrd h1 (by rw [hb1, hb0]; rfl)).2 v4))), hLow⟩   -- returns .bool true
              · refine walk_ops (F := F12) (T := C12) (fuel := 1000) (d := 10) mixed (allF_cons (FactOk.bi rfl rfl rfl rfl rfl rfl (boolT (by omega))) (allF_cons (FactOk.bi rfl rfl rfl rfl rfl rfl (boolF (by omega))) allF_nil)) (allC_cons (callValidT rfl rfl v0) allC_nil) ?_ hh
                exact ostop_end e186 fun w2 hLow hIn => ⟨(by first | rfl | (exfalso; first | exact h2 (nextBad h1) | (have := nextCmp h1 (show i < l.length by omega); omega) | (have := nextSeq h1 (show i < l.length by omega) p2; omega) | exact v0 (nextLast h1).1 | exact v1 (nextLast h1).2.1 | exact v2 (nextLast h1).2.2.1 | exact v4 ((nextOrd h1 (by rw [hb1, hb0]; rfl)).1 v3) | exact v3 ((nextOrd h1 (by rw [hb1, hb0]; rfl)).2 v4))), hLow⟩   -- returns .bool false
            · refine walk_ops (F := F13) (T := C13) (fuel := 1000) (d := 10) mixed (allF_cons (FactOk.bi rfl rfl rfl rfl rfl rfl (boolF (by omega))) allF_nil) (allC_cons (callValidT rfl rfl v0) allC_nil) ?_ hh
              exact ostop_end e187 fun w2 hLow hIn => ⟨(by first | rfl | (exfalso; first | exact h2 (nextBad h1) | (have := nextCmp h1 (show i < l.length by omega); omega) | (have := nextSeq h1 (show i < l.length by omega) p2; omega) | exact v0 (nextLast h1).1 | exact v1 (nextLast h1).2.1 | exact v2 (nextLast h1).2.2.1 | exact v4 ((nextOrd h1 (by rw [hb1, hb0]; rfl)).1 v3) | exact v3 ((nextOrd h1 (by rw [hb1, hb0]; rfl)).2 v4))), hLow⟩   -- returns .bool false
          · refine walk_ops (F := F14) (T := C14) (fuel := 1000) (d := 10) mixed allF_nil (allC_cons (callValidF rfl rfl v0) allC_nil) ?_ hh
            exact ostop_end e188 fun w2 hLow hIn => ⟨(by first | rfl | (exfalso; first | exact h2 (nextBad h1) | (have := nextCmp h1 (show i < l.length by omega); omega) | (have := nextSeq h1 (show i < l.length by omega) p2; omega) | exact v0 (nextLast h1).1 | exact v1 (nextLast h1).2.1 | exact v2 (nextLast h1).2.2.1 | exact v4 ((nextOrd h1 (by rw [hb1, hb0]; rfl)).1 v3) | exact v3 ((nextOrd h1 (by rw [hb1, hb0]; rfl)).2 v4))), hLow⟩   -- returns .bool false
        · intro a w hh
          refine walk_ops (F := F3) (T := C3) (fuel := 1000) (d := 10) mixed allF_nil allC_nil ?_ hh
          obtain ⟨b0, hb0⟩ : ∃ b0 : List St, b0 = [] ++ l := ⟨_, rfl⟩
          have hn0 : b0.length = 0 + l.length := by rw [hb0]; first | rfl | simp
          refine ostop_appendO (l := []) (lx := l) (l' := b0) (vals2 := fun a c => (vL l a_l c_l site tick i b0 a c [] none 0)) (T := none) hb0 e189 underSl infoS zeroS iszS ibyS zszS (by decide) hkS honeS e190 e191 rfl (appTo_blk (by kernel_rfl)) (app_sym rfl rfl fun w hw => hl.reads hkS hw) (lenMax (show 0 + l.length ≤ 1000000 by omega)) (show (0 + l.length) * bytesS ≤ 140737488355328 by unfold bytesS; omega) (fun _ _ _ => (meet_cons (by exact meetV (.slice a_l l.length c_l) rfl rfl) (meet_cons (by exact meetV (.int .i64 site) rfl rfl) (meet_cons (by exact meetV (.int .i64 tick) rfl rfl) (meet_cons (by exact meetV (.int .i64 (nextSt l site tick).1) rfl rfl) (meet_cons (by exact meetV (.int .i64 (nextSt l site tick).2.1) rfl rfl) (meet_cons (by exact meetV (.int .i64 (nextSt l site tick).2.2.1) rfl rfl) (meet_cons (by exact meetV (.int .i64 (nextSt l site tick).2.2.2) rfl rfl) (meet_cons (by exact meetV (.int .i64 (nextSt l site tick).1) rfl rfl) (meet_cons (by exact meetV (.int .i64 (nextSt l site tick).2.1) rfl rfl) (meet_cons (by exact meetV (.int .i64 (nextSt l site tick).2.2.1) rfl rfl) (meet_cons (by exact meetV (.int .i64 (nextSt l site tick).2.2.2) rfl rfl) meet_nil)))))))))))) (fun _ _ _ => rfl) ?_
          intro M0 a0 c0 hO0 hK0 hT0 a w hh
          have hM0 := hK0.up hT0 (Nat.le_refl _) (fun _ _ h => h)
          letI := (sg M0 l a_l c_l site tick i b0 a0 c0 [] none 0)
          refine walk_ops (F := F3) (T := C3) (fuel := 1000) (d := 10) mixed allF_nil allC_nil ?_ hh
          obtain ⟨b1, hb1⟩ : ∃ b1 : List St, b1 = b0 ++ [(nextSt l site tick)] := ⟨_, rfl⟩
          have hn1 : b1.length = b0.length + 1 := by rw [hb1]; first | rfl | simp
          refine ostop_appendO (l := b0) (lx := [(nextSt l site tick)]) (l' := b1) (vals2 := fun a c => (vL l a_l c_l site tick i b0 a0 c0 b1 a c)) (T := (obl (.slice a0 b0.length c0))) hb1 e193 underSl infoS zeroS iszS ibyS zszS (by decide) hkS honeS e194 e195 rfl (appTo_sym rfl rfl hO0) (app_cells e192 hkS (by decide) rfl) (lenMax (show b0.length + 1 ≤ 1000000 by omega)) (show (b0.length + 1) * bytesS ≤ 140737488355328 by unfold bytesS; omega) (fun _ _ _ => (meet_cons (by exact meetV (.slice a_l l.length c_l) rfl rfl) (meet_cons (by exact meetV (.int .i64 site) rfl rfl) (meet_cons (by exact meetV (.int .i64 tick) rfl rfl) (meet_cons (by exact meetV (.int .i64 (nextSt l site tick).1) rfl rfl) (meet_cons (by exact meetV (.int .i64 (nextSt l site tick).2.1) rfl rfl) (meet_cons (by exact meetV (.int .i64 (nextSt l site tick).2.2.1) rfl rfl) (meet_cons (by exact meetV (.int .i64 (nextSt l site tick).2.2.2) rfl rfl) meet_nil)))))))) (fun _ _ _ => rfl) ?_
          intro M1 a1 c1 hO1 hK1 hT1 a w hh
          have hM1 := hK1.up hT1 (Nat.le_refl _) hM0
          letI := (sg M1 l a_l c_l site tick i b0 a0 c0 b1 a1 c1)
          by_cases v0 : ValidP (nextSt l site tick)
          · by_cases v1 : (nextSt l site tick).2.2.1 = site
            · by_cases v2 : (nextSt l site tick).1 = tick
              · by_cases v3 : ordB b1 = true
                · by_cases v4 : ordB l = true
                  · refine walk_ops (F := F8) (T := C8) (fuel := 1000) (d := 10) mixed (allF_cons (FactOk.bi rfl rfl rfl rfl rfl rfl (boolT (by omega))) (allF_cons (FactOk.bi rfl rfl rfl rfl rfl rfl (boolT (by omega))) allF_nil)) (allC_cons (callValidT rfl rfl v0) (allC_cons (callOrdT rfl rfl (hO1.arr hkS) (by omega) v3) (allC_cons (callOrdT rfl rfl (hl.mono hM1) (by omega) v4) allC_nil))) ?_ hh
                    exact ostop_end e196 fun w2 hLow hIn => ⟨(by first | rfl | (exfalso; first | exact h2 (nextBad h1) | (have := nextCmp h1 (show i < l.length by omega); omega) | (have := nextSeq h1 (show i < l.length by omega) p2; omega) | exact v0 (nextLast h1).1 | exact v1 (nextLast h1).2.1 | exact v2 (nextLast h1).2.2.1 | exact v4 ((nextOrd h1 (by rw [hb1, hb0]; rfl)).1 v3) | exact v3 ((nextOrd h1 (by rw [hb1, hb0]; rfl)).2 v4))), hLow⟩   -- returns .bool true
                  · refine walk_ops (F := F9) (T := C9) (fuel := 1000) (d := 10) mixed (allF_cons (FactOk.bi rfl rfl rfl rfl rfl rfl (boolT (by omega))) (allF_cons (FactOk.bi rfl rfl rfl rfl rfl rfl (boolT (by omega))) allF_nil)) (allC_cons (callValidT rfl rfl v0) (allC_cons (callOrdT rfl rfl (hO1.arr hkS) (by omega) v3) (allC_cons (callOrdF rfl rfl (hl.mono hM1) (by omega) v4) allC_nil))) ?_ hh
                    exact ostop_end e197 fun w2 hLow hIn => ⟨(by first | rfl | (exfalso; first | exact h2 (nextBad h1) | (have := nextCmp h1 (show i < l.length by omega); omega) | (have := nextSeq h1 (show i < l.length by omega) p2; omega) | exact v0 (nextLast h1).1 | exact v1 (nextLast h1).2.1 | exact v2 (nextLast h1).2.2.1 | exact v4 ((nextOrd h1 (by rw [hb1, hb0]; rfl)).1 v3) | exact v3 ((nextOrd h1 (by rw [hb1, hb0]; rfl)).2 v4))), hLow⟩   -- returns .bool false
                · by_cases v4 : ordB l = true
                  · refine walk_ops (F := F10) (T := C10) (fuel := 1000) (d := 10) mixed (allF_cons (FactOk.bi rfl rfl rfl rfl rfl rfl (boolT (by omega))) (allF_cons (FactOk.bi rfl rfl rfl rfl rfl rfl (boolT (by omega))) allF_nil)) (allC_cons (callValidT rfl rfl v0) (allC_cons (callOrdF rfl rfl (hO1.arr hkS) (by omega) v3) (allC_cons (callOrdT rfl rfl (hl.mono hM1) (by omega) v4) allC_nil))) ?_ hh
                    exact ostop_end e198 fun w2 hLow hIn => ⟨(by first | rfl | (exfalso; first | exact h2 (nextBad h1) | (have := nextCmp h1 (show i < l.length by omega); omega) | (have := nextSeq h1 (show i < l.length by omega) p2; omega) | exact v0 (nextLast h1).1 | exact v1 (nextLast h1).2.1 | exact v2 (nextLast h1).2.2.1 | exact v4 ((nextOrd h1 (by rw [hb1, hb0]; rfl)).1 v3) | exact v3 ((nextOrd h1 (by rw [hb1, hb0]; rfl)).2 v4))), hLow⟩   -- returns .bool false
                  · refine walk_ops (F := F11) (T := C11) (fuel := 1000) (d := 10) mixed (allF_cons (FactOk.bi rfl rfl rfl rfl rfl rfl (boolT (by omega))) (allF_cons (FactOk.bi rfl rfl rfl rfl rfl rfl (boolT (by omega))) allF_nil)) (allC_cons (callValidT rfl rfl v0) (allC_cons (callOrdF rfl rfl (hO1.arr hkS) (by omega) v3) (allC_cons (callOrdF rfl rfl (hl.mono hM1) (by omega) v4) allC_nil))) ?_ hh
                    exact ostop_end e199 fun w2 hLow hIn => ⟨(by first | rfl | (exfalso; first | exact h2 (nextBad h1) | (have := nextCmp h1 (show i < l.length by omega); omega) | (have := nextSeq h1 (show i < l.length by omega) p2; omega) | exact v0 (nextLast h1).1 | exact v1 (nextLast h1).2.1 | exact v2 (nextLast h1).2.2.1 | exact v4 ((nextOrd h1 (by rw [hb1, hb0]; rfl)).1 v3) | exact v3 ((nextOrd h1 (by rw [hb1, hb0]; rfl)).2 v4))), hLow⟩   -- returns .bool true
              · refine walk_ops (F := F12) (T := C12) (fuel := 1000) (d := 10) mixed (allF_cons (FactOk.bi rfl rfl rfl rfl rfl rfl (boolT (by omega))) (allF_cons (FactOk.bi rfl rfl rfl rfl rfl rfl (boolF (by omega))) allF_nil)) (allC_cons (callValidT rfl rfl v0) allC_nil) ?_ hh
                exact ostop_end e200 fun w2 hLow hIn => ⟨(by first | rfl | (exfalso; first | exact h2 (nextBad h1) | (have := nextCmp h1 (show i < l.length by omega); omega) | (have := nextSeq h1 (show i < l.length by omega) p2; omega) | exact v0 (nextLast h1).1 | exact v1 (nextLast h1).2.1 | exact v2 (nextLast h1).2.2.1 | exact v4 ((nextOrd h1 (by rw [hb1, hb0]; rfl)).1 v3) | exact v3 ((nextOrd h1 (by rw [hb1, hb0]; rfl)).2 v4))), hLow⟩   -- returns .bool false
            · refine walk_ops (F := F13) (T := C13) (fuel := 1000) (d := 10) mixed (allF_cons (FactOk.bi rfl rfl rfl rfl rfl rfl (boolF (by omega))) allF_nil) (allC_cons (callValidT rfl rfl v0) allC_nil) ?_ hh
              exact ostop_end e201 fun w2 hLow hIn => ⟨(by first | rfl | (exfalso; first | exact h2 (nextBad h1) | (have := nextCmp h1 (show i < l.length by omega); omega) | (have := nextSeq h1 (show i < l.length by omega) p2; omega) | exact v0 (nextLast h1).1 | exact v1 (nextLast h1).2.1 | exact v2 (nextLast h1).2.2.1 | exact v4 ((nextOrd h1 (by rw [hb1, hb0]; rfl)).1 v3) | exact v3 ((nextOrd h1 (by rw [hb1, hb0]; rfl)).2 v4))), hLow⟩   -- returns .bool false
          · refine walk_ops (F := F14) (T := C14) (fuel := 1000) (d := 10) mixed allF_nil (allC_cons (callValidF rfl rfl v0) allC_nil) ?_ hh
            exact ostop_end e202 fun w2 hLow hIn => ⟨(by first | rfl | (exfalso; first | exact h2 (nextBad h1) | (have := nextCmp h1 (show i < l.length by omega); omega) | (have := nextSeq h1 (show i < l.length by omega) p2; omega) | exact v0 (nextLast h1).1 | exact v1 (nextLast h1).2.1 | exact v2 (nextLast h1).2.2.1 | exact v4 ((nextOrd h1 (by rw [hb1, hb0]; rfl)).1 v3) | exact v3 ((nextOrd h1 (by rw [hb1, hb0]; rfl)).2 v4))), hLow⟩   -- returns .bool false
        · intro a w hh
          refine walk_ops (F := F3) (T := C3) (fuel := 1000) (d := 10) mixed allF_nil allC_nil ?_ hh
          obtain ⟨b0, hb0⟩ : ∃ b0 : List St, b0 = [] ++ l := ⟨_, rfl⟩
          have hn0 : b0.length = 0 + l.length := by rw [hb0]; first | rfl | simp
          refine ostop_appendO (l := []) (lx := l) (l' := b0) (vals2 := fun a c => (vL l a_l c_l site tick i b0 a c [] none 0)) (T := none) hb0 e203 underSl infoS zeroS iszS ibyS zszS (by decide) hkS honeS e204 e205 rfl (appTo_blk (by kernel_rfl)) (app_sym rfl rfl fun w hw => hl.reads hkS hw) (lenMax (show 0 + l.length ≤ 1000000 by omega)) (show (0 + l.length) * bytesS ≤ 140737488355328 by unfold bytesS; omega) (fun _ _ _ => (meet_cons (by exact meetV (.slice a_l l.length c_l) rfl rfl) (meet_cons (by exact meetV (.int .i64 site) rfl rfl) (meet_cons (by exact meetV (.int .i64 tick) rfl rfl) (meet_cons (by exact meetV (.int .i64 (nextSt l site tick).1) rfl rfl) (meet_cons (by exact meetV (.int .i64 (nextSt l site tick).2.1) rfl rfl) (meet_cons (by exact meetV (.int .i64 (nextSt l site tick).2.2.1) rfl rfl) (meet_cons (by exact meetV (.int .i64 (nextSt l site tick).2.2.2) rfl rfl) (meet_cons (by exact meetV (.int .i64 (nextSt l site tick).1) rfl rfl) (meet_cons (by exact meetV (.int .i64 (nextSt l site tick).2.1) rfl rfl) (meet_cons (by exact meetV (.int .i64 (nextSt l site tick).2.2.1) rfl rfl) (meet_cons (by exact meetV (.int .i64 (nextSt l site tick).2.2.2) rfl rfl) meet_nil)))))))))))) (fun _ _ _ => rfl) ?_
          intro M0 a0 c0 hO0 hK0 hT0 a w hh
          have hM0 := hK0.up hT0 (Nat.le_refl _) (fun _ _ h => h)
          letI := (sg M0 l a_l c_l site tick i b0 a0 c0 [] none 0)
          refine walk_ops (F := F3) (T := C3) (fuel := 1000) (d := 10) mixed allF_nil allC_nil ?_ hh
          obtain ⟨b1, hb1⟩ : ∃ b1 : List St, b1 = b0 ++ [(nextSt l site tick)] := ⟨_, rfl⟩
          have hn1 : b1.length = b0.length + 1 := by rw [hb1]; first | rfl | simp
          refine ostop_appendO (l := b0) (lx := [(nextSt l site tick)]) (l' := b1) (vals2 := fun a c => (vL l a_l c_l site tick i b0 a0 c0 b1 a c)) (T := (obl (.slice a0 b0.length c0))) hb1 e207 underSl infoS zeroS iszS ibyS zszS (by decide) hkS honeS e208 e209 rfl (appTo_sym rfl rfl hO0) (app_cells e206 hkS (by decide) rfl) (lenMax (show b0.length + 1 ≤ 1000000 by omega)) (show (b0.length + 1) * bytesS ≤ 140737488355328 by unfold bytesS; omega) (fun _ _ _ => (meet_cons (by exact meetV (.slice a_l l.length c_l) rfl rfl) (meet_cons (by exact meetV (.int .i64 site) rfl rfl) (meet_cons (by exact meetV (.int .i64 tick) rfl rfl) (meet_cons (by exact meetV (.int .i64 (nextSt l site tick).1) rfl rfl) (meet_cons (by exact meetV (.int .i64 (nextSt l site tick).2.1) rfl rfl) (meet_cons (by exact meetV (.int .i64 (nextSt l site tick).2.2.1) rfl rfl) (meet_cons (by exact meetV (.int .i64 (nextSt l site tick).2.2.2) rfl rfl) meet_nil)))))))) (fun _ _ _ => rfl) ?_
          intro M1 a1 c1 hO1 hK1 hT1 a w hh
          have hM1 := hK1.up hT1 (Nat.le_refl _) hM0
          letI := (sg M1 l a_l c_l site tick i b0 a0 c0 b1 a1 c1)
          by_cases v0 : ValidP (nextSt l site tick)
          · by_cases v1 : (nextSt l site tick).2.2.1 = site
            · by_cases v2 : (nextSt l site tick).1 = tick
              · by_cases v3 : ordB b1 = true
                · by_cases v4 : ordB l = true
                  · refine walk_ops (F := F8) (T := C8) (fuel := 1000) (d := 10) mixed (allF_cons (FactOk.bi rfl rfl rfl rfl rfl rfl (boolT (by omega))) (allF_cons (FactOk.bi rfl rfl rfl rfl rfl rfl (boolT (by omega))) allF_nil)) (allC_cons (callValidT rfl rfl v0) (allC_cons (callOrdT rfl rfl (hO1.arr hkS) (by omega) v3) (allC_cons (callOrdT rfl rfl (hl.mono hM1) (by omega) v4) allC_nil))) ?_ hh
                    exact ostop_end e210 fun w2 hLow hIn => ⟨(by first | rfl | (exfalso; first | exact h2 (nextBad h1) | (have := nextCmp h1 (show i < l.length by omega); omega) | (have := nextSeq h1 (show i < l.length by omega) p2; omega) | exact v0 (nextLast h1).1 | exact v1 (nextLast h1).2.1 | exact v2 (nextLast h1).2.2.1 | exact v4 ((nextOrd h1 (by rw [hb1, hb0]; rfl)).1 v3) | exact v3 ((nextOrd h1 (by rw [hb1, hb0]; rfl)).2 v4))), hLow⟩   -- returns .bool true
                  · refine walk_ops (F := F9) (T := C9) (fuel := 1000) (d := 10) mixed (allF_cons (FactOk.bi rfl rfl rfl rfl rfl rfl (boolT (by omega))) (allF_cons (FactOk.bi rfl rfl rfl rfl rfl rfl (boolT (by omega))) allF_nil)) (allC_cons (callValidT rfl rfl v0) (allC_cons (callOrdT rfl rfl (hO1.arr hkS) (by omega) v3) (allC_cons (callOrdF rfl rfl (hl.mono hM1) (by omega) v4) allC_nil))) ?_ hh
                    exact ostop_end e211 fun w2 hLow hIn => ⟨(by first | rfl | (exfalso; first | exact h2 (nextBad h1) | (have := nextCmp h1 (show i < l.length by omega); omega) | (have := nextSeq h1 (show i < l.length by omega) p2; omega) | exact v0 (nextLast h1).1 | exact v1 (nextLast h1).2.1 | exact v2 (nextLast h1).2.2.1 | exact v4 ((nextOrd h1 (by rw [hb1, hb0]; rfl)).1 v3) | exact v3 ((nextOrd h1 (by rw [hb1, hb0]; rfl)).2 v4))), hLow⟩   -- returns .bool false
                · by_cases v4 : ordB l = true
                  · refine walk_ops (F := F10) (T := C10) (fuel := 1000) (d := 10) mixed (allF_cons (FactOk.bi rfl rfl rfl rfl rfl rfl (boolT (by omega))) (allF_cons (FactOk.bi rfl rfl rfl rfl rfl rfl (boolT (by omega))) allF_nil)) (allC_cons (callValidT rfl rfl v0) (allC_cons (callOrdF rfl rfl (hO1.arr hkS) (by omega) v3) (allC_cons (callOrdT rfl rfl (hl.mono hM1) (by omega) v4) allC_nil))) ?_ hh
                    exact ostop_end e212 fun w2 hLow hIn => ⟨(by first | rfl | (exfalso; first | exact h2 (nextBad h1) | (have := nextCmp h1 (show i < l.length by omega); omega) | (have := nextSeq h1 (show i < l.length by omega) p2; omega) | exact v0 (nextLast h1).1 | exact v1 (nextLast h1).2.1 | exact v2 (nextLast h1).2.2.1 | exact v4 ((nextOrd h1 (by rw [hb1, hb0]; rfl)).1 v3) | exact v3 ((nextOrd h1 (by rw [hb1, hb0]; rfl)).2 v4))), hLow⟩   -- returns .bool false
                  · refine walk_ops (F := F11) (T := C11) (fuel := 1000) (d := 10) mixed (allF_cons (FactOk.bi rfl rfl rfl rfl rfl rfl (boolT (by omega))) (allF_cons (FactOk.bi rfl rfl rfl rfl rfl rfl (boolT (by omega))) allF_nil)) (allC_cons (callValidT rfl rfl v0) (allC_cons (callOrdF rfl rfl (hO1.arr hkS) (by omega) v3) (allC_cons (callOrdF rfl rfl (hl.mono hM1) (by omega) v4) allC_nil))) ?_ hh
                    exact ostop_end e213 fun w2 hLow hIn => ⟨(by first | rfl | (exfalso; first | exact h2 (nextBad h1) | (have := nextCmp h1 (show i < l.length by omega); omega) | (have := nextSeq h1 (show i < l.length by omega) p2; omega) | exact v0 (nextLast h1).1 | exact v1 (nextLast h1).2.1 | exact v2 (nextLast h1).2.2.1 | exact v4 ((nextOrd h1 (by rw [hb1, hb0]; rfl)).1 v3) | exact v3 ((nextOrd h1 (by rw [hb1, hb0]; rfl)).2 v4))), hLow⟩   -- returns .bool true
              · refine walk_ops (F := F12) (T := C12) (fuel := 1000) (d := 10) mixed (allF_cons (FactOk.bi rfl rfl rfl rfl rfl rfl (boolT (by omega))) (allF_cons (FactOk.bi rfl rfl rfl rfl rfl rfl (boolF (by omega))) allF_nil)) (allC_cons (callValidT rfl rfl v0) allC_nil) ?_ hh
                exact ostop_end e214 fun w2 hLow hIn => ⟨(by first | rfl | (exfalso; first | exact h2 (nextBad h1) | (have := nextCmp h1 (show i < l.length by omega); omega) | (have := nextSeq h1 (show i < l.length by omega) p2; omega) | exact v0 (nextLast h1).1 | exact v1 (nextLast h1).2.1 | exact v2 (nextLast h1).2.2.1 | exact v4 ((nextOrd h1 (by rw [hb1, hb0]; rfl)).1 v3) | exact v3 ((nextOrd h1 (by rw [hb1, hb0]; rfl)).2 v4))), hLow⟩   -- returns .bool false
            · refine walk_ops (F := F13) (T := C13) (fuel := 1000) (d := 10) mixed (allF_cons (FactOk.bi rfl rfl rfl rfl rfl rfl (boolF (by omega))) allF_nil) (allC_cons (callValidT rfl rfl v0) allC_nil) ?_ hh
              exact ostop_end e215 fun w2 hLow hIn => ⟨(by first | rfl | (exfalso; first | exact h2 (nextBad h1) | (have := nextCmp h1 (show i < l.length by omega); omega) | (have := nextSeq h1 (show i < l.length by omega) p2; omega) | exact v0 (nextLast h1).1 | exact v1 (nextLast h1).2.1 | exact v2 (nextLast h1).2.2.1 | exact v4 ((nextOrd h1 (by rw [hb1, hb0]; rfl)).1 v3) | exact v3 ((nextOrd h1 (by rw [hb1, hb0]; rfl)).2 v4))), hLow⟩   -- returns .bool false
          · refine walk_ops (F := F14) (T := C14) (fuel := 1000) (d := 10) mixed allF_nil (allC_cons (callValidF rfl rfl v0) allC_nil) ?_ hh
            exact ostop_end e216 fun w2 hLow hIn => ⟨(by first | rfl | (exfalso; first | exact h2 (nextBad h1) | (have := nextCmp h1 (show i < l.length by omega); omega) | (have := nextSeq h1 (show i < l.length by omega) p2; omega) | exact v0 (nextLast h1).1 | exact v1 (nextLast h1).2.1 | exact v2 (nextLast h1).2.2.1 | exact v4 ((nextOrd h1 (by rw [hb1, hb0]; rfl)).1 v3) | exact v3 ((nextOrd h1 (by rw [hb1, hb0]; rfl)).2 v4))), hLow⟩   -- returns .bool false
        · intro a w hh
          refine walk_ops (F := F3) (T := C3) (fuel := 1000) (d := 10) mixed allF_nil allC_nil ?_ hh
          obtain ⟨b0, hb0⟩ : ∃ b0 : List St, b0 = [] ++ l := ⟨_, rfl⟩
          have hn0 : b0.length = 0 + l.length := by rw [hb0]; first | rfl | simp
          refine ostop_appendO (l := []) (lx := l) (l' := b0) (vals2 := fun a c => (vL l a_l c_l site tick i b0 a c [] none 0)) (T := none) hb0 e217 underSl infoS zeroS iszS ibyS zszS (by decide) hkS honeS e218 e219 rfl (appTo_blk (by kernel_rfl)) (app_sym rfl rfl fun w hw => hl.reads hkS hw) (lenMax (show 0 + l.length ≤ 1000000 by omega)) (show (0 + l.length) * bytesS ≤ 140737488355328 by unfold bytesS; omega) (fun _ _ _ => (meet_cons (by exact meetV (.slice a_l l.length c_l) rfl rfl) (meet_cons (by exact meetV (.int .i64 site) rfl rfl) (meet_cons (by exact meetV (.int .i64 tick) rfl rfl) (meet_cons (by exact meetV (.int .i64 (nextSt l site tick).1) rfl rfl) (meet_cons (by exact meetV (.int .i64 (nextSt l site tick).2.1) rfl rfl) (meet_cons (by exact meetV (.int .i64 (nextSt l site tick).2.2.1) rfl rfl) (meet_cons (by exact meetV (.int .i64 (nextSt l site tick).2.2.2) rfl rfl) (meet_cons (by exact meetV (.int .i64 (nextSt l site tick).1) rfl rfl) (meet_cons (by exact meetV (.int .i64 (nextSt l site tick).2.1) rfl rfl) (meet_cons (by exact meetV (.int .i64 (nextSt l site tick).2.2.1) rfl rfl) (meet_cons (by exact meetV (.int .i64 (nextSt l site tick).2.2.2) rfl rfl) meet_nil)))))))))))) (fun _ _ _ => rfl) ?_
          intro M0 a0 c0 hO0 hK0 hT0 a w hh
          have hM0 := hK0.up hT0 (Nat.le_refl _) (fun _ _ h => h)
          letI := (sg M0 l a_l c_l site tick i b0 a0 c0 [] none 0)
          refine walk_ops (F := F3) (T := C3) (fuel := 1000) (d := 10) mixed allF_nil allC_nil ?_ hh
          obtain ⟨b1, hb1⟩ : ∃ b1 : List St, b1 = b0 ++ [(nextSt l site tick)] := ⟨_, rfl⟩
          have hn1 : b1.length = b0.length + 1 := by rw [hb1]; first | rfl | simp
          refine ostop_appendO (l := b0) (lx := [(nextSt l site tick)]) (l' := b1) (vals2 := fun a c => (vL l a_l c_l site tick i b0 a0 c0 b1 a c)) (T := (obl (.slice a0 b0.length c0))) hb1 e221 underSl infoS zeroS iszS ibyS zszS (by decide) hkS honeS e222 e223 rfl (appTo_sym rfl rfl hO0) (app_cells e220 hkS (by decide) rfl) (lenMax (show b0.length + 1 ≤ 1000000 by omega)) (show (b0.length + 1) * bytesS ≤ 140737488355328 by unfold bytesS; omega) (fun _ _ _ => (meet_cons (by exact meetV (.slice a_l l.length c_l) rfl rfl) (meet_cons (by exact meetV (.int .i64 site) rfl rfl) (meet_cons (by exact meetV (.int .i64 tick) rfl rfl) (meet_cons (by exact meetV (.int .i64 (nextSt l site tick).1) rfl rfl) (meet_cons (by exact meetV (.int .i64 (nextSt l site tick).2.1) rfl rfl) (meet_cons (by exact meetV (.int .i64 (nextSt l site tick).2.2.1) rfl rfl) (meet_cons (by exact meetV (.int .i64 (nextSt l site tick).2.2.2) rfl rfl) meet_nil)))))))) (fun _ _ _ => rfl) ?_
          intro M1 a1 c1 hO1 hK1 hT1 a w hh
          have hM1 := hK1.up hT1 (Nat.le_refl _) hM0
          letI := (sg M1 l a_l c_l site tick i b0 a0 c0 b1 a1 c1)
          by_cases v0 : ValidP (nextSt l site tick)
          · by_cases v1 : (nextSt l site tick).2.2.1 = site
            · by_cases v2 : (nextSt l site tick).1 = tick
              · by_cases v3 : ordB b1 = true
                · by_cases v4 : ordB l = true
                  · refine walk_ops (F := F8) (T := C8) (fuel := 1000) (d := 10) mixed (allF_cons (FactOk.bi rfl rfl rfl rfl rfl rfl (boolT (by omega))) (allF_cons (FactOk.bi rfl rfl rfl rfl rfl rfl (boolT (by omega))) allF_nil)) (allC_cons (callValidT rfl rfl v0) (allC_cons (callOrdT rfl rfl (hO1.arr hkS) (by omega) v3) (allC_cons (callOrdT rfl rfl (hl.mono hM1) (by omega) v4) allC_nil))) ?_ hh
                    exact ostop_end e224 fun w2 hLow hIn => ⟨(by first | rfl | (exfalso; first | exact h2 (nextBad h1) | (have := nextCmp h1 (show i < l.length by omega); omega) | (have := nextSeq h1 (show i < l.length by omega) p2; omega) | exact v0 (nextLast h1).1 | exact v1 (nextLast h1).2.1 | exact v2 (nextLast h1).2.2.1 | exact v4 ((nextOrd h1 (by rw [hb1, hb0]; rfl)).1 v3) | exact v3 ((nextOrd h1 (by rw [hb1, hb0]; rfl)).2 v4))), hLow⟩   -- returns .bool true
                  · refine walk_ops (F := F9) (T := C9) (fuel := 1000) (d := 10) mixed (allF_cons (FactOk.bi rfl rfl rfl rfl rfl rfl (boolT (by omega))) (allF_cons (FactOk.bi rfl rfl rfl rfl rfl rfl (boolT (by omega))) allF_nil)) (allC_cons (callValidT rfl rfl v0) (allC_cons (callOrdT rfl rfl (hO1.arr hkS) (by omega) v3) (allC_cons (callOrdF rfl rfl (hl.mono hM1) (by omega) v4) allC_nil))) ?_ hh
                    exact ostop_end e225 fun w2 hLow hIn => ⟨(by first | rfl | (exfalso; first | exact h2 (nextBad h1) | (have := nextCmp h1 (show i < l.length by omega); omega) | (have := nextSeq h1 (show i < l.length by omega) p2; omega) | exact v0 (nextLast h1).1 | exact v1 (nextLast h1).2.1 | exact v2 (nextLast h1).2.2.1 | exact v4 ((nextOrd h1 (by rw [hb1, hb0]; rfl)).1 v3) | exact v3 ((nextOrd h1 (by rw [hb1, hb0]; rfl)).2 v4))), hLow⟩   -- returns .bool false
                · by_cases v4 : ordB l = true
                  · refine walk_ops (F := F10) (T := C10) (fuel := 1000) (d := 10) mixed (allF_cons (FactOk.bi rfl rfl rfl rfl rfl rfl (boolT (by omega))) (allF_cons (FactOk.bi rfl rfl rfl rfl rfl rfl (boolT (by omega))) allF_nil)) (allC_cons (callValidT rfl rfl v0) (allC_cons (callOrdF rfl rfl (hO1.arr hkS) (by omega) v3) (allC_cons (callOrdT rfl rfl (hl.mono hM1) (by omega) v4) allC_nil))) ?_ hh
                    exact ostop_end e226 fun w2 hLow hIn => ⟨(by first | rfl | (exfalso; first | exact h2 (nextBad h1) | (have := nextCmp h1 (show i < l.length by omega); omega) | (have := nextSeq h1 (show i < l.length by omega) p2; omega) | exact v0 (nextLast h1).1 | exact v1 (nextLast h1).2.1 | exact v2 (nextLast h1).2.2.1 | exact v4 ((nextOrd h1 (by rw [hb1, hb0]; rfl)).1 v3) | exact v3 ((nextOrd h1 (by rw [hb1, hb0]; rfl)).2 v4))), hLow⟩   -- returns .bool false
                  · refine walk_ops (F := F11) (T := C11) (fuel := 1000) (d := 10) mixed (allF_cons (FactOk.bi rfl rfl rfl rfl rfl rfl (boolT (by omega))) (allF_cons (FactOk.bi rfl rfl rfl rfl rfl rfl (boolT (by omega))) allF_nil)) (allC_cons (callValidT rfl rfl v0) (allC_cons (callOrdF rfl rfl (hO1.arr hkS) (by omega) v3) (allC_cons (callOrdF rfl rfl (hl.mono hM1) (by omega) v4) allC_nil))) ?_ hh
                    exact ostop_end e227 fun w2 hLow hIn => ⟨(by first | rfl | (exfalso; first | exact h2 (nextBad h1) | (have := nextCmp h1 (show i < l.length by omega); omega) | (have := nextSeq h1 (show i < l.length by omega) p2; omega) | exact v0 (nextLast h1).1 | exact v1 (nextLast h1).2.1 | exact v2 (nextLast h1).2.2.1 | exact v4 ((nextOrd h1 (by rw [hb1, hb0]; rfl)).1 v3) | exact v3 ((nextOrd h1 (by rw [hb1, hb0]; rfl)).2 v4))), hLow⟩   -- returns .bool true
              · refine walk_ops (F := F12) (T := C12) (fuel := 1000) (d := 10) mixed (allF_cons (FactOk.bi rfl rfl rfl rfl rfl rfl (boolT (by omega))) (allF_cons (FactOk.bi rfl rfl rfl rfl rfl rfl (boolF (by omega))) allF_nil)) (allC_cons (callValidT rfl rfl v0) allC_nil) ?_ hh
                exact ostop_end e228 fun w2 hLow hIn => ⟨(by first | rfl | (exfalso; first | exact h2 (nextBad h1) | (have := nextCmp h1 (show i < l.length by omega); omega) | (have := nextSeq h1 (show i < l.length by omega) p2; omega) | exact v0 (nextLast h1).1 | exact v1 (nextLast h1).2.1 | exact v2 (nextLast h1).2.2.1 | exact v4 ((nextOrd h1 (by rw [hb1, hb0]; rfl)).1 v3) | exact v3 ((nextOrd h1 (by rw [hb1, hb0]; rfl)).2 v4))), hLow⟩   -- returns .bool false
            · refine walk_ops (F := F13) (T := C13) (fuel := 1000) (d := 10) mixed (allF_cons (FactOk.bi rfl rfl rfl rfl rfl rfl (boolF (by omega))) allF_nil) (allC_cons (callValidT rfl rfl v0) allC_nil) ?_ hh
              exact ostop_end e229 fun w2 hLow hIn => ⟨(by first | rfl | (exfalso; first | exact h2 (nextBad h1) | (have := nextCmp h1 (show i < l.length by omega); omega) | (have := nextSeq h1 (show i < l.length by omega) p2; omega) | exact v0 (nextLast h1).1 | exact v1 (nextLast h1).2.1 | exact v2 (nextLast h1).2.2.1 | exact v4 ((nextOrd h1 (by rw [hb1, hb0]; rfl)).1 v3) | exact v3 ((nextOrd h1 (by rw [hb1, hb0]; rfl)).2 v4))), hLow⟩   -- returns .bool false
          · refine walk_ops (F := F14) (T := C14) (fuel := 1000) (d := 10) mixed allF_nil (allC_cons (callValidF rfl rfl v0) allC_nil) ?_ hh
            exact ostop_end e230 fun w2 hLow hIn => ⟨(by first | rfl | (exfalso; first | exact h2 (nextBad h1) | (have := nextCmp h1 (show i < l.length by omega); omega) | (have := nextSeq h1 (show i < l.length by omega) p2; omega) | exact v0 (nextLast h1).1 | exact v1 (nextLast h1).2.1 | exact v2 (nextLast h1).2.2.1 | exact v4 ((nextOrd h1 (by rw [hb1, hb0]; rfl)).1 v3) | exact v3 ((nextOrd h1 (by rw [hb1, hb0]; rfl)).2 v4))), hLow⟩   -- returns .bool false
        · intro a w hh
          refine walk_ops (F := F3) (T := C3) (fuel := 1000) (d := 10) mixed allF_nil allC_nil ?_ hh
          obtain ⟨b0, hb0⟩ : ∃ b0 : List St, b0 = [] ++ l := ⟨_, rfl⟩
          have hn0 : b0.length = 0 + l.length := by rw [hb0]; first | rfl | simp
          refine ostop_appendO (l := []) (lx := l) (l' := b0) (vals2 := fun a c => (vL l a_l c_l site tick i b0 a c [] none 0)) (T := none) hb0 e231 underSl infoS zeroS iszS ibyS zszS (by decide) hkS honeS e232 e233 rfl (appTo_blk (by kernel_rfl)) (app_sym rfl rfl fun w hw => hl.reads hkS hw) (lenMax (show 0 + l.length ≤ 1000000 by omega)) (show (0 + l.length) * bytesS ≤ 140737488355328 by unfold bytesS; omega) (fun _ _ _ => (meet_cons (by exact meetV (.slice a_l l.length c_l) rfl rfl) (meet_cons (by exact meetV (.int .i64 site) rfl rfl) (meet_cons (by exact meetV (.int .i64 tick) rfl rfl) (meet_cons (by exact meetV (.int .i64 (nextSt l site tick).1) rfl rfl) (meet_cons (by exact meetV (.int .i64 (nextSt l site tick).2.1) rfl rfl) (meet_cons (by exact meetV (.int .i64 (nextSt l site tick).2.2.1) rfl rfl) (meet_cons (by exact meetV (.int .i64 (nextSt l site tick).2.2.2) rfl rfl) (meet_cons (by exact meetV (.int .i64 (nextSt l site tick).1) rfl rfl) (meet_cons (by exact meetV (.int .i64 (nextSt l site tick).2.1) rfl rfl) (meet_cons (by exact meetV (.int .i64 (nextSt l site tick).2.2.1) rfl rfl) (meet_cons (by exact meetV (.int .i64 (nextSt l site tick).2.2.2) rfl rfl) meet_nil)))))))))))) (fun _ _ _ => rfl) ?_
          intro M0 a0 c0 hO0 hK0 hT0 a w hh
          have hM0 := hK0.up hT0 (Nat.le_refl _) (fun _ _ h => h)
          letI := (sg M0 l a_l c_l site tick i b0 a0 c0 [] none 0)
          refine walk_ops (F := F3) (T := C3) (fuel := 1000) (d := 10) mixed allF_nil allC_nil ?_ hh
          obtain ⟨b1, hb1⟩ : ∃ b1 : List St, b1 = b0 ++ [(nextSt l site tick)] := ⟨_, rfl⟩
          have hn1 : b1.length = b0.length + 1 := by rw [hb1]; first | rfl | simp
          refine ostop_appendO (l := b0) (lx := [(nextSt l site tick)]) (l' := b1) (vals2 := fun a c => (vL l a_l c_l site tick i b0 a0 c0 b1 a c)) (T := (obl (.slice a0 b0.length c0))) hb1 e235 underSl infoS zeroS iszS ibyS zszS (by decide) hkS honeS e236 e237 rfl (appTo_sym rfl rfl hO0) (app_cells e234 hkS (by decide) rfl) (lenMax (show b0.length + 1 ≤ 1000000 by omega)) (show (b0.length + 1) * bytesS ≤ 140737488355328 by unfold bytesS; omega) (fun _ _ _ => (meet_cons (by exact meetV (.slice a_l l.length c_l) rfl rfl) (meet_cons (by exact meetV (.int .i64 site) rfl rfl) (meet_cons (by exact meetV (.int .i64 tick) rfl rfl) (meet_cons (by exact meetV (.int .i64 (nextSt l site tick).1) rfl rfl) (meet_cons (by exact meetV (.int .i64 (nextSt l site tick).2.1) rfl rfl) (meet_cons (by exact meetV (.int .i64 (nextSt l site tick).2.2.1) rfl rfl) (meet_cons (by exact meetV (.int .i64 (nextSt l site tick).2.2.2) rfl rfl) meet_nil)))))))) (fun _ _ _ => rfl) ?_
          intro M1 a1 c1 hO1 hK1 hT1 a w hh
          have hM1 := hK1.up hT1 (Nat.le_refl _) hM0
          letI := (sg M1 l a_l c_l site tick i b0 a0 c0 b1 a1 c1)
          by_cases v0 : ValidP (nextSt l site tick)
          · by_cases v1 : (nextSt l site tick).2.2.1 = site
            · by_cases v2 : (nextSt l site tick).1 = tick
              · by_cases v3 : ordB b1 = true
                · by_cases v4 : ordB l = true
                  · refine walk_ops (F := F8) (T := C8) (fuel := 1000) (d := 10) mixed (allF_cons (FactOk.bi rfl rfl rfl rfl rfl rfl (boolT (by omega))) (allF_cons (FactOk.bi rfl rfl rfl rfl rfl rfl (boolT (by omega))) allF_nil)) (allC_cons (callValidT rfl rfl v0) (allC_cons (callOrdT rfl rfl (hO1.arr hkS) (by omega) v3) (allC_cons (callOrdT rfl rfl (hl.mono hM1) (by omega) v4) allC_nil))) ?_ hh
                    exact ostop_end e238 fun w2 hLow hIn => ⟨(by first | rfl | (exfalso; first | exact h2 (nextBad h1) | (have := nextCmp h1 (show i < l.length by omega); omega) | (have := nextSeq h1 (show i < l.length by omega) p2; omega) | exact v0 (nextLast h1).1 | exact v1 (nextLast h1).2.1 | exact v2 (nextLast h1).2.2.1 | exact v4 ((nextOrd h1 (by rw [hb1, hb0]; rfl)).1 v3) | exact v3 ((nextOrd h1 (by rw [hb1, hb0]; rfl)).2 v4))), hLow⟩   -- returns .bool true
                  · refine walk_ops (F := F9) (T := C9) (fuel := 1000) (d := 10) mixed (allF_cons (FactOk.bi rfl rfl rfl rfl rfl rfl (boolT (by omega))) (allF_cons (FactOk.bi rfl rfl rfl rfl rfl rfl (boolT (by omega))) allF_nil)) (allC_cons (callValidT rfl rfl v0) (allC_cons (callOrdT rfl rfl (hO1.arr hkS) (by omega) v3) (allC_cons (callOrdF rfl rfl (hl.mono hM1) (by omega) v4) allC_nil))) ?_ hh
                    exact ostop_end e239 fun w2 hLow hIn => ⟨(by first | rfl | (exfalso; first | exact h2 (nextBad h1) | (have := nextCmp h1 (show i < l.length by omega); omega) | (have := nextSeq h1 (show i < l.length by omega) p2; omega) | exact v0 (nextLast h1).1 | exact v1 (nextLast h1).2.1 | exact v2 (nextLast h1).2.2.1 | exact v4 ((nextOrd h1 (by rw [hb1, hb0]; rfl)).1 v3) | exact v3 ((nextOrd h1 (by rw [hb1, hb0]; rfl)).2 v4))), hLow⟩   -- returns .bool false
                · by_cases v4 : ordB l = true
                  · refine walk_ops (F := F10) (T := C10) (fuel := 1000) (d := 10) mixed (allF_cons (FactOk.bi rfl rfl rfl rfl rfl rfl (boolT (by omega))) (allF_cons (FactOk.bi rfl rfl rfl rfl rfl rfl (boolT (by omega))) allF_nil)) (allC_cons (callValidT rfl rfl v0) (allC_cons (callOrdF rfl rfl (hO1.arr hkS) (by omega) v3) (allC_cons (callOrdT rfl rfl (hl.mono hM1) (by omega) v4) allC_nil))) ?_ hh
                    exact ostop_end e240 fun w2 hLow hIn => ⟨(by first | rfl | (exfalso; first | exact h2 (nextBad h1) | (have := nextCmp h1 (show i < l.length by omega); omega) | (have := nextSeq h1 (show i < l.length by omega) p2; omega) | exact v0 (nextLast h1).1 | exact v1 (nextLast h1).2.1 | exact v2 (nextLast h1).2.2.1 | exact v4 ((nextOrd h1 (by rw [hb1, hb0]; rfl)).1 v3) | exact v3 ((nextOrd h1 (by rw [hb1, hb0]; rfl)).2 v4))), hLow⟩   -- returns .bool false
                  · refine walk_ops (F := F11) (T := C11) (fuel := 1000) (d := 10) mixed (allF_cons (FactOk.bi rfl rfl rfl rfl rfl rfl (boolT (by omega))) (allF_cons (FactOk.bi rfl rfl rfl rfl rfl rfl (boolT (by omega))) allF_nil)) (allC_cons (callValidT rfl rfl v0) (allC_cons (callOrdF rfl rfl (hO1.arr hkS) (by omega) v3) (allC_cons (callOrdF rfl rfl (hl.mono hM1) (by omega) v4) allC_nil))) ?_ hh
                    exact ostop_end e241 fun w2 hLow hIn => ⟨(by first | rfl | (exfalso; first | exact h2 (nextBad h1) | (have := nextCmp h1 (show i < l.length by omega); omega) | (have := nextSeq h1 (show i < l.length by omega) p2; omega) | exact v0 (nextLast h1).1 | exact v1 (nextLast h1).2.1 | exact v2 (nextLast h1).2.2.1 | exact v4 ((nextOrd h1 (by rw [hb1, hb0]; rfl)).1 v3) | exact v3 ((nextOrd h1 (by rw [hb1, hb0]; rfl)).2 v4))), hLow⟩   -- returns .bool true
              · refine walk_ops (F := F12) (T := C12) (fuel := 1000) (d := 10) mixed (allF_cons (FactOk.bi rfl rfl rfl rfl rfl rfl (boolT (by omega))) (allF_cons (FactOk.bi rfl rfl rfl rfl rfl rfl (boolF (by omega))) allF_nil)) (allC_cons (callValidT rfl rfl v0) allC_nil) ?_ hh
                exact ostop_end e242 fun w2 hLow hIn => ⟨(by first | rfl | (exfalso; first | exact h2 (nextBad h1) | (have := nextCmp h1 (show i < l.length by omega); omega) | (have := nextSeq h1 (show i < l.length by omega) p2; omega) | exact v0 (nextLast h1).1 | exact v1 (nextLast h1).2.1 | exact v2 (nextLast h1).2.2.1 | exact v4 ((nextOrd h1 (by rw [hb1, hb0]; rfl)).1 v3) | exact v3 ((nextOrd h1 (by rw [hb1, hb0]; rfl)).2 v4))), hLow⟩   -- returns .bool false
            · refine walk_ops (F := F13) (T := C13) (fuel := 1000) (d := 10) mixed (allF_cons (FactOk.bi rfl rfl rfl rfl rfl rfl (boolF (by omega))) allF_nil) (allC_cons (callValidT rfl rfl v0) allC_nil) ?_ hh
              exact ostop_end e243 fun w2 hLow hIn => ⟨(by first | rfl | (exfalso; first | exact h2 (nextBad h1) | (have := nextCmp h1 (show i < l.length by omega); omega) | (have := nextSeq h1 (show i < l.length by omega) p2; omega) | exact v0 (nextLast h1).1 | exact v1 (nextLast h1).2.1 | exact v2 (nextLast h1).2.2.1 | exact v4 ((nextOrd h1 (by rw [hb1, hb0]; rfl)).1 v3) | exact v3 ((nextOrd h1 (by rw [hb1, hb0]; rfl)).2 v4))), hLow⟩   -- returns .bool false
          · refine walk_ops (F := F14) (T := C14) (fuel := 1000) (d := 10) mixed allF_nil (allC_cons (callValidF rfl rfl v0) allC_nil) ?_ hh
            exact ostop_end e244 fun w2 hLow hIn => ⟨(by first | rfl | (exfalso; first | exact h2 (nextBad h1) | (have := nextCmp h1 (show i < l.length by omega); omega) | (have := nextSeq h1 (show i < l.length by omega) p2; omega) | exact v0 (nextLast h1).1 | exact v1 (nextLast h1).2.1 | exact v2 (nextLast h1).2.2.1 | exact v4 ((nextOrd h1 (by rw [hb1, hb0]; rfl)).1 v3) | exact v3 ((nextOrd h1 (by rw [hb1, hb0]; rfl)).2 v4))), hLow⟩   -- returns .bool false
        · intro a w hh
          refine walk_ops (F := F3) (T := C3) (fuel := 1000) (d := 10) mixed allF_nil allC_nil ?_ hh
          obtain ⟨b0, hb0⟩ : ∃ b0 : List St, b0 = [] ++ l := ⟨_, rfl⟩
          have hn0 : b0.length = 0 + l.length := by rw [hb0]; first | rfl | simp
          refine ostop_appendO (l := []) (lx := l) (l' := b0) (vals2 := fun a c => (vL l a_l c_l site tick i b0 a c [] none 0)) (T := none) hb0 e245 underSl infoS zeroS iszS ibyS zszS (by decide) hkS honeS e246 e247 rfl (appTo_blk (by kernel_rfl)) (app_sym rfl rfl fun w hw => hl.reads hkS hw) (lenMax (show 0 + l.length ≤ 1000000 by omega)) (show (0 + l.length) * bytesS ≤ 140737488355328 by unfold bytesS; omega) (fun _ _ _ => (meet_cons (by exact meetV (.slice a_l l.length c_l) rfl rfl) (meet_cons (by exact meetV (.int .i64 site) rfl rfl) (meet_cons (by exact meetV (.int .i64 tick) rfl rfl) (meet_cons (by exact meetV (.int .i64 (nextSt l site tick).1) rfl rfl) (meet_cons (by exact meetV (.int .i64 (nextSt l site tick).2.1) rfl rfl) (meet_cons (by exact meetV (.int .i64 (nextSt l site tick).2.2.1) rfl rfl) (meet_cons (by exact meetV (.int .i64 (nextSt l site tick).2.2.2) rfl rfl) (meet_cons (by exact meetV (.int .i64 (nextSt l site tick).1) rfl rfl) (meet_cons (by exact meetV (.int .i64 (nextSt l site tick).2.1) rfl rfl) (meet_cons (by exact meetV (.int .i64 (nextSt l site tick).2.2.1) rfl rfl) (meet_cons (by exact meetV (.int .i64 (nextSt l site tick).2.2.2) rfl rfl) meet_nil)))))))))))) (fun _ _ _ => rfl) ?_
          intro M0 a0 c0 hO0 hK0 hT0 a w hh
          have hM0 := hK0.up hT0 (Nat.le_refl _) (fun _ _ h => h)
          letI := (sg M0 l a_l c_l site tick i b0 a0 c0 [] none 0)
          refine walk_ops (F := F3) (T := C3) (fuel := 1000) (d := 10) mixed allF_nil allC_nil ?_ hh
          obtain ⟨b1, hb1⟩ : ∃ b1 : List St, b1 = b0 ++ [(nextSt l site tick)] := ⟨_, rfl⟩
          have hn1 : b1.length = b0.length + 1 := by rw [hb1]; first | rfl | simp
          refine ostop_appendO (l := b0) (lx := [(nextSt l site tick)]) (l' := b1) (vals2 := fun a c => (vL l a_l c_l site tick i b0 a0 c0 b1 a c)) (T := (obl (.slice a0 b0.length c0))) hb1 e249 underSl infoS zeroS iszS ibyS zszS (by decide) hkS honeS e250 e251 rfl (appTo_sym rfl rfl hO0) (app_cells e248 hkS (by decide) rfl) (lenMax (show b0.length + 1 ≤ 1000000 by omega)) (show (b0.length + 1) * bytesS ≤ 140737488355328 by unfold bytesS; omega) (fun _ _ _ => (meet_cons (by exact meetV (.slice a_l l.length c_l) rfl rfl) (meet_cons (by exact meetV (.int .i64 site) rfl rfl) (meet_cons (by exact meetV (.int .i64 tick) rfl rfl) (meet_cons (by exact meetV (.int .i64 (nextSt l site tick).1) rfl rfl) (meet_cons (by exact meetV (.int .i64 (nextSt l site tick).2.1) rfl rfl) (meet_cons (by exact meetV (.int .i64 (nextSt l site tick).2.2.1) rfl rfl) (meet_cons (by exact meetV (.int .i64 (nextSt l site tick).2.2.2) rfl rfl) meet_nil)))))))) (fun _ _ _ => rfl) ?_
          intro M1 a1 c1 hO1 hK1 hT1 a w hh
          have hM1 := hK1.up hT1 (Nat.le_refl _) hM0
          letI := (sg M1 l a_l c_l site tick i b0 a0 c0 b1 a1 c1)
          by_cases v0 : ValidP (nextSt l site tick)
          · by_cases v1 : (nextSt l site tick).2.2.1 = site
            · by_cases v2 : (nextSt l site tick).1 = tick
              · by_cases v3 : ordB b1 = true
                · by_cases v4 : ordB l = true
                  · refine walk_ops (F := F8) (T := C8) (fuel := 1000) (d := 10) mixed (allF_cons (FactOk.bi rfl rfl rfl rfl rfl rfl (boolT (by omega))) (allF_cons (FactOk.bi rfl rfl rfl rfl rfl rfl (boolT (by omega))) allF_nil)) (allC_cons (callValidT rfl rfl v0) (allC_cons (callOrdT rfl rfl (hO1.arr hkS) (by omega) v3) (allC_cons (callOrdT rfl rfl (hl.mono hM1) (by omega) v4) allC_nil))) ?_ hh
                    exact ostop_end e252 fun w2 hLow hIn => ⟨(by first | rfl | (exfalso; first | exact h2 (nextBad h1) | (have := nextCmp h1 (show i < l.length by omega); omega) | (have := nextSeq h1 (show i < l.length by omega) p2; omega) | exact v0 (nextLast h1).1 | exact v1 (nextLast h1).2.1 | exact v2 (nextLast h1).2.2.1 | exact v4 ((nextOrd h1 (by rw [hb1, hb0]; rfl)).1 v3) | exact v3 ((nextOrd h1 (by rw [hb1, hb0]; rfl)).2 v4))), hLow⟩   -- returns .bool true
                  · refine walk_ops (F := F9) (T := C9) (fuel := 1000) (d := 10) mixed (allF_cons (FactOk.bi rfl rfl rfl rfl rfl rfl (boolT (by omega))) (allF_cons (FactOk.bi rfl rfl rfl rfl rfl rfl (boolT (by omega))) allF_nil)) (allC_cons (callValidT rfl rfl v0) (allC_cons (callOrdT rfl rfl (hO1.arr hkS) (by omega) v3) (allC_cons (callOrdF rfl rfl (hl.mono hM1) (by omega) v4) allC_nil))) ?_ hh
                    exact ostop_end e253 fun w2 hLow hIn => ⟨(by first | rfl | (exfalso; first | exact h2 (nextBad h1) | (have := nextCmp h1 (show i < l.length by omega); omega) | (have := nextSeq h1 (show i < l.length by omega) p2; omega) | exact v0 (nextLast h1).1 | exact v1 (nextLast h1).2.1 | exact v2 (nextLast h1).2.2.1 | exact v4 ((nextOrd h1 (by rw [hb1, hb0]; rfl)).1 v3) | exact v3 ((nextOrd h1 (by rw [hb1, hb0]; rfl)).2 v4))), hLow⟩   -- returns .bool false
                · by_cases v4 : ordB l = true
                  · refine walk_ops (F := F10) (T := C10) (fuel := 1000) (d := 10) mixed (allF_cons (FactOk.bi rfl rfl rfl rfl rfl rfl (boolT (by omega))) (allF_cons (FactOk.bi rfl rfl rfl rfl rfl rfl (boolT (by omega))) allF_nil)) (allC_cons (callValidT rfl rfl v0) (allC_cons (callOrdF rfl rfl (hO1.arr hkS) (by omega) v3) (allC_cons (callOrdT rfl rfl (hl.mono hM1) (by omega) v4) allC_nil))) ?_ hh
                    exact ostop_end e254 fun w2 hLow hIn => ⟨(by first | rfl | (exfalso; first | exact h2 (nextBad h1) | (have := nextCmp h1 (show i < l.length by omega); omega) | (have := nextSeq h1 (show i < l.length by omega) p2; omega) | exact v0 (nextLast h1).1 | exact v1 (nextLast h1).2.1 | exact v2 (nextLast h1).2.2.1 | exact v4 ((nextOrd h1 (by rw [hb1, hb0]; rfl)).1 v3) | exact v3 ((nextOrd h1 (by rw [hb1, hb0]; rfl)).2 v4))), hLow⟩   -- returns .bool false
                  · refine walk_ops (F := F11) (T := C11) (fuel := 1000) (d := 10) mixed (allF_cons (FactOk.bi rfl rfl rfl rfl rfl rfl (boolT (by omega))) (allF_cons (FactOk.bi rfl rfl rfl rfl rfl rfl (boolT (by omega))) allF_nil)) (allC_cons (callValidT rfl rfl v0) (allC_cons (callOrdF rfl rfl (hO1.arr hkS) (by omega) v3) (allC_cons (callOrdF rfl rfl (hl.mono hM1) (by omega) v4) allC_nil))) ?_ hh
                    exact ostop_end e255 fun w2 hLow hIn => ⟨(by first | rfl | (exfalso; first | exact h2 (nextBad h1) | (have := nextCmp h1 (show i < l.length by omega); omega) | (have := nextSeq h1 (show i < l.length by omega) p2; omega) | exact v0 (nextLast h1).1 | exact v1 (nextLast h1).2.1 | exact v2 (nextLast h1).2.2.1 | exact v4 ((nextOrd h1 (by rw [hb1, hb0]; rfl)).1 v3) | exact v3 ((nextOrd h1 (by rw [hb1, hb0]; rfl)).2 v4))), hLow⟩   -- returns .bool true
              · refine walk_ops (F := F12) (T := C12) (fuel := 1000) (d := 10) mixed (allF_cons (FactOk.bi rfl rfl rfl rfl rfl rfl (boolT (by omega))) (allF_cons (FactOk.bi rfl rfl rfl rfl rfl rfl (boolF (by omega))) allF_nil)) (allC_cons (callValidT rfl rfl v0) allC_nil) ?_ hh
                exact ostop_end e256 fun w2 hLow hIn => ⟨(by first | rfl | (exfalso; first | exact h2 (nextBad h1) | (have := nextCmp h1 (show i < l.length by omega); omega) | (have := nextSeq h1 (show i < l.length by omega) p2; omega) | exact v0 (nextLast h1).1 | exact v1 (nextLast h1).2.1 | exact v2 (nextLast h1).2.2.1 | exact v4 ((nextOrd h1 (by rw [hb1, hb0]; rfl)).1 v3) | exact v3 ((nextOrd h1 (by rw [hb1, hb0]; rfl)).2 v4))), hLow⟩   -- returns .bool false
            · refine walk_ops (F := F13) (T := C13) (fuel := 1000) (d := 10) mixed (allF_cons (FactOk.bi rfl rfl rfl rfl rfl rfl (boolF (by omega))) allF_nil) (allC_cons (callValidT rfl rfl v0) allC_nil) ?_ hh
              exact ostop_end e257 fun w2 hLow hIn => ⟨(by first | rfl | (exfalso; first | exact h2 (nextBad h1) | (have := nextCmp h1 (show i < l.length by omega); omega) | (have := nextSeq h1 (show i < l.length by omega) p2; omega) | exact v0 (nextLast h1).1 | exact v1 (nextLast h1).2.1 | exact v2 (nextLast h1).2.2.1 | exact v4 ((nextOrd h1 (by rw [hb1, hb0]; rfl)).1 v3) | exact v3 ((nextOrd h1 (by rw [hb1, hb0]; rfl)).2 v4))), hLow⟩   -- returns .bool false
          · refine walk_ops (F := F14) (T := C14) (fuel := 1000) (d := 10) mixed allF_nil (allC_cons (callValidF rfl rfl v0) allC_nil) ?_ hh
            exact ostop_end e258 fun w2 hLow hIn => ⟨(by first | rfl | (exfalso; first | exact h2 (nextBad h1) | (have := nextCmp h1 (show i < l.length by omega); omega) | (have := nextSeq h1 (show i < l.length by omega) p2; omega) | exact v0 (nextLast h1).1 | exact v1 (nextLast h1).2.1 | exact v2 (nextLast h1).2.2.1 | exact v4 ((nextOrd h1 (by rw [hb1, hb0]; rfl)).1 v3) | exact v3 ((nextOrd h1 (by rw [hb1, hb0]; rfl)).2 v4))), hLow⟩   -- returns .bool false
        · intro a w hh
          refine walk_ops (F := F3) (T := C3) (fuel := 1000) (d := 10) mixed allF_nil allC_nil ?_ hh
          obtain ⟨b0, hb0⟩ : ∃ b0 : List St, b0 = [] ++ l := ⟨_, rfl⟩
          have hn0 : b0.length = 0 + l.length := by rw [hb0]; first | rfl | simp
          refine ostop_appendO (l := []) (lx := l) (l' := b0) (vals2 := fun a c => (vL l a_l c_l site tick i b0 a c [] none 0)) (T := none) hb0 e259 underSl infoS zeroS iszS ibyS zszS (by decide) hkS honeS e260 e261 rfl (appTo_blk (by kernel_rfl)) (app_sym rfl rfl fun w hw => hl.reads hkS hw) (lenMax (show 0 + l.length ≤ 1000000 by omega)) (show (0 + l.length) * bytesS ≤ 140737488355328 by unfold bytesS; omega) (fun _ _ _ => (meet_cons (by exact meetV (.slice a_l l.length c_l) rfl rfl) (meet_cons (by exact meetV (.int .i64 site) rfl rfl) (meet_cons (by exact meetV (.int .i64 tick) rfl rfl) (meet_cons (by exact meetV (.int .i64 (nextSt l site tick).1) rfl rfl) (meet_cons (by exact meetV (.int .i64 (nextSt l site tick).2.1) rfl rfl) (meet_cons (by exact meetV (.int .i64 (nextSt l site tick).2.2.1) rfl rfl) (meet_cons (by exact meetV (.int .i64 (nextSt l site tick).2.2.2) rfl rfl) (meet_cons (by exact meetV (.int .i64 (nextSt l site tick).1) rfl rfl) (meet_cons (by exact meetV (.int .i64 (nextSt l site tick).2.1) rfl rfl) (meet_cons (by exact meetV (.int .i64 (nextSt l site tick).2.2.1) rfl rfl) (meet_cons (by exact meetV (.int .i64 (nextSt l site tick).2.2.2) rfl rfl) meet_nil)))))))))))) (fun _ _ _ => rfl) ?_
          intro M0 a0 c0 hO0 hK0 hT0 a w hh
          have hM0 := hK0.up hT0 (Nat.le_refl _) (fun _ _ h => h)
          letI := (sg M0 l a_l c_l site tick i b0 a0 c0 [] none 0)
          refine walk_ops (F := F3) (T := C3) (fuel := 1000) (d := 10) mixed allF_nil allC_nil ?_ hh
          obtain ⟨b1, hb1⟩ : ∃ b1 : List St, b1 = b0 ++ [(nextSt l site tick)] := ⟨_, rfl⟩
          have hn1 : b1.length = b0.length + 1 := by rw [hb1]; first | rfl | simp
          refine ostop_appendO (l := b0) (lx := [(nextSt l site tick)]) (l' := b1) (vals2 := fun a c => (vL l a_l c_l site tick i b0 a0 c0 b1 a c)) (T := (obl (.slice a0 b0.length c0))) hb1 e263 underSl infoS zeroS iszS ibyS zszS (by decide) hkS honeS e264 e265 rfl (appTo_sym rfl rfl hO0) (app_cells e262 hkS (by decide) rfl) (lenMax (show b0.length + 1 ≤ 1000000 by omega)) (show (b0.length + 1) * bytesS ≤ 140737488355328 by unfold bytesS; omega) (fun _ _ _ => (meet_cons (by exact meetV (.slice a_l l.length c_l) rfl rfl) (meet_cons (by exact meetV (.int .i64 site) rfl rfl) (meet_cons (by exact meetV (.int .i64 tick) rfl rfl) (meet_cons (by exact meetV (.int .i64 (nextSt l site tick).1) rfl rfl) (meet_cons (by exact meetV (.int .i64 (nextSt l site tick).2.1) rfl rfl) (meet_cons (by exact meetV (.int .i64 (nextSt l site tick).2.2.1) rfl rfl) (meet_cons (by exact meetV (.int .i64 (nextSt l site tick).2.2.2) rfl rfl) meet_nil)))))))) (fun _ _ _ => rfl) ?_
          intro M1 a1 c1 hO1 hK1 hT1 a w hh
          have hM1 := hK1.up hT1 (Nat.le_refl _) hM0
          letI := (sg M1 l a_l c_l site tick i b0 a0 c0 b1 a1 c1)
          by_cases v0 : ValidP (nextSt l site tick)
          · by_cases v1 : (nextSt l site tick).2.2.1 = site
            · by_cases v2 : (nextSt l site tick).1 = tick
              · by_cases v3 : ordB b1 = true
                · by_cases v4 : ordB l = true
                  · refine walk_ops (F := F8) (T := C8) (fuel := 1000) (d := 10) mixed (allF_cons (FactOk.bi rfl rfl rfl rfl rfl rfl (boolT (by omega))) (allF_cons (FactOk.bi rfl rfl rfl rfl rfl rfl (boolT (by omega))) allF_nil)) (allC_cons (callValidT rfl rfl v0) (allC_cons (callOrdT rfl rfl (hO1.arr hkS) (by omega) v3) (allC_cons (callOrdT rfl rfl (hl.mono hM1) (by omega) v4) allC_nil))) ?_ hh
                    exact ostop_end e266 fun w2 hLow hIn => ⟨(by first | rfl | (exfalso; first | exact h2 (nextBad h1) | (have := nextCmp h1 (show i < l.length by omega); omega) | (have := nextSeq h1 (show i < l.length by omega) p2; omega) | exact v0 (nextLast h1).1 | exact v1 (nextLast h1).2.1 | exact v2 (nextLast h1).2.2.1 | exact v4 ((nextOrd h1 (by rw [hb1, hb0]; rfl)).1 v3) | exact v3 ((nextOrd h1 (by rw [hb1, hb0]; rfl)).2 v4))), hLow⟩   -- returns .bool true
                  · refine walk_ops (F := F9) (T := C9) (fuel := 1000) (d := 10) mixed (allF_cons (FactOk.bi rfl rfl rfl rfl rfl rfl (boolT (by omega))) (allF_cons (FactOk.bi rfl rfl rfl rfl rfl rfl (boolT (by omega))) allF_nil)) (allC_cons (callValidT rfl rfl v0) (allC_cons (callOrdT rfl rfl (hO1.arr hkS) (by omega) v3) (allC_cons (callOrdF rfl rfl (hl.mono hM1) (by omega) v4) allC_nil))) ?_ hh
                    exact ostop_end e267 fun w2 hLow hIn => ⟨(by first | rfl | (exfalso; first | exact h2 (nextBad h1) | (have := nextCmp h1 (show i < l.length by omega); omega) | (have := nextSeq h1 (show i < l.length by omega) p2; omega) | exact v0 (nextLast h1).1 | exact v1 (nextLast h1).2.1 | exact v2 (nextLast h1).2.2.1 | exact v4 ((nextOrd h1 (by rw [hb1, hb0]; rfl)).1 v3) | exact v3 ((nextOrd h1 (by rw [hb1, hb0]; rfl)).2 v4))), hLow⟩   -- returns .bool false
                · by_cases v4 : ordB l = true
                  · refine walk_ops (F := F10) (T := C10) (fuel := 1000) (d := 10) mixed (allF_cons (FactOk.bi rfl rfl rfl rfl rfl rfl (boolT (by omega))) (allF_cons (FactOk.bi rfl rfl rfl rfl rfl rfl (boolT (by omega))) allF_nil)) (allC_cons (callValidT rfl rfl v0) (allC_cons (callOrdF rfl rfl (hO1.arr hkS) (by omega) v3) (allC_cons (callOrdT rfl rfl (hl.mono hM1) (by omega) v4) allC_nil))) ?_ hh
                    exact ostop_end e268 fun w2 hLow hIn => ⟨(by first | rfl | (exfalso; first | exact h2 (nextBad h1) | (have := nextCmp h1 (show i < l.length by omega); omega) | (have := nextSeq h1 (show i < l.length by omega) p2; omega) | exact v0 (nextLast h1).1 | exact v1 (nextLast h1).2.1 | exact v2 (nextLast h1).2.2.1 | exact v4 ((nextOrd h1 (by rw [hb1, hb0]; rfl)).1 v3) | exact v3 ((nextOrd h1 (by rw [hb1, hb0]; rfl)).2 v4))), hLow⟩   -- returns .bool false
                  · refine walk_ops (F := F11) (T := C11) (fuel := 1000) (d := 10) mixed (allF_cons (FactOk.bi rfl rfl rfl rfl rfl rfl (boolT (by omega))) (allF_cons (FactOk.bi rfl rfl rfl rfl rfl rfl (boolT (by omega))) allF_nil)) (allC_cons (callValidT rfl rfl v0) (allC_cons (callOrdF rfl rfl (hO1.arr hkS) (by omega) v3) (allC_cons (callOrdF rfl rfl (hl.mono hM1) (by omega) v4) allC_nil))) ?_ hh
                    exact ostop_end e269 fun w2 hLow hIn => ⟨(by first | rfl | (exfalso; first | exact h2 (nextBad h1) | (have := nextCmp h1 (show i < l.length by omega); omega) | (have := nextSeq h1 (show i < l.length by omega) p2; omega) | exact v0 (nextLast h1).1 | exact v1 (nextLast h1).2.1 | exact v2 (nextLast h1).2.2.1 | exact v4 ((nextOrd h1 (by rw [hb1, hb0]; rfl)).1 v3) | exact v3 ((nextOrd h1 (by rw [hb1, hb0]; rfl)).2 v4))), hLow⟩   -- returns .bool true
              · refine walk_ops (F := F12) (T := C12) (fuel := 1000) (d := 10) mixed (allF_cons (FactOk.bi rfl rfl rfl rfl rfl rfl (boolT (by omega))) (allF_cons (FactOk.bi rfl rfl rfl rfl rfl rfl (boolF (by omega))) allF_nil)) (allC_cons (callValidT rfl rfl v0) allC_nil) ?_ hh
                exact ostop_end e270 fun w2 hLow hIn => ⟨(by first | rfl | (exfalso; first | exact h2 (nextBad h1) | (have := nextCmp h1 (show i < l.length by omega); omega) | (have := nextSeq h1 (show i < l.length by omega) p2; omega) | exact v0 (nextLast h1).1 | exact v1 (nextLast h1).2.1 | exact v2 (nextLast h1).2.2.1 | exact v4 ((nextOrd h1 (by rw [hb1, hb0]; rfl)).1 v3) | exact v3 ((nextOrd h1 (by rw [hb1, hb0]; rfl)).2 v4))), hLow⟩   -- returns .bool false
            · refine walk_ops (F := F13) (T := C13) (fuel := 1000) (d := 10) mixed (allF_cons (FactOk.bi rfl rfl rfl rfl rfl rfl (boolF (by omega))) allF_nil) (allC_cons (callValidT rfl rfl v0) allC_nil) ?_ hh
              exact ostop_end e271 fun w2 hLow hIn => ⟨(by first | rfl | (exfalso; first | exact h2 (nextBad h1) | (have := nextCmp h1 (show i < l.length by omega); omega) | (have := nextSeq h1 (show i < l.length by omega) p2; omega) | exact v0 (nextLast h1).1 | exact v1 (nextLast h1).2.1 | exact v2 (nextLast h1).2.2.1 | exact v4 ((nextOrd h1 (by rw [hb1, hb0]; rfl)).1 v3) | exact v3 ((nextOrd h1 (by rw [hb1, hb0]; rfl)).2 v4))), hLow⟩   -- returns .bool false
          · refine walk_ops (F := F14) (T := C14) (fuel := 1000) (d := 10) mixed allF_nil (allC_cons (callValidF rfl rfl v0) allC_nil) ?_ hh
            exact ostop_end e272 fun w2 hLow hIn => ⟨(by first | rfl | (exfalso; first | exact h2 (nextBad h1) | (have := nextCmp h1 (show i < l.length by omega); omega) | (have := nextSeq h1 (show i < l.length by omega) p2; omega) | exact v0 (nextLast h1).1 | exact v1 (nextLast h1).2.1 | exact v2 (nextLast h1).2.2.1 | exact v4 ((nextOrd h1 (by rw [hb1, hb0]; rfl)).1 v3) | exact v3 ((nextOrd h1 (by rw [hb1, hb0]; rfl)).2 v4))), hLow⟩   -- returns .bool false
        · intro a w hh
          refine walk_ops (F := F3) (T := C3) (fuel := 1000) (d := 10) mixed allF_nil allC_nil ?_ hh
          obtain ⟨b0, hb0⟩ : ∃ b0 : List St, b0 = [] ++ l := ⟨_, rfl⟩
          have hn0 : b0.length = 0 + l.length := by rw [hb0]; first | rfl | simp
          refine ostop_appendO (l := []) (lx := l) (l' := b0) (vals2 := fun a c => (vL l a_l c_l site tick i b0 a c [] none 0)) (T := none) hb0 e273 underSl infoS zeroS iszS ibyS zszS (by decide) hkS honeS e274 e275 rfl (appTo_blk (by kernel_rfl)) (app_sym rfl rfl fun w hw => hl.reads hkS hw) (lenMax (show 0 + l.length ≤ 1000000 by omega)) (show (0 + l.length) * bytesS ≤ 140737488355328 by unfold bytesS; omega) (fun _ _ _ => (meet_cons (by exact meetV (.slice a_l l.length c_l) rfl rfl) (meet_cons (by exact meetV (.int .i64 site) rfl rfl) (meet_cons (by exact meetV (.int .i64 tick) rfl rfl) (meet_cons (by exact meetV (.int .i64 (nextSt l site tick).1) rfl rfl) (meet_cons (by exact meetV (.int .i64 (nextSt l site tick).2.1) rfl rfl) (meet_cons (by exact meetV (.int .i64 (nextSt l site tick).2.2.1) rfl rfl) (meet_cons (by exact meetV (.int .i64 (nextSt l site tick).2.2.2) rfl rfl) (meet_cons (by exact meetV (.int .i64 (nextSt l site tick).1) rfl rfl) (meet_cons (by exact meetV (.int .i64 (nextSt l site tick).2.1) rfl rfl) (meet_cons (by exact meetV (.int .i64 (nextSt l site tick).2.2.1) rfl rfl) (meet_cons (by exact meetV (.int .i64 (nextSt l site tick).2.2.2) rfl rfl) meet_nil)))))))))))) (fun _ _ _ => rfl) ?_
          intro M0 a0 c0 hO0 hK0 hT0 a w hh
          have hM0 := hK0.up hT0 (Nat.le_refl _) (fun _ _ h => h)
          letI := (sg M0 l a_l c_l site tick i b0 a0 c0 [] none 0)
          refine walk_ops (F := F3) (T := C3) (fuel := 1000) (d := 10) mixed allF_nil allC_nil ?_ hh
          obtain ⟨b1, hb1⟩ : ∃ b1 : List St, b1 = b0 ++ [(nextSt l site tick)] := ⟨_, rfl⟩
          have hn1 : b1.length = b0.length + 1 := by rw [hb1]; first | rfl | simp
          refine ostop_appendO (l := b0) (lx := [(nextSt l site tick)]) (l' := b1) (vals2 := fun a c => (vL l a_l c_l site tick i b0 a0 c0 b1 a c)) (T := (obl (.slice a0 b0.length c0))) hb1 e277 underSl infoS zeroS iszS ibyS zszS (by decide) hkS honeS e278 e279 rfl (appTo_sym rfl rfl hO0) (app_cells e276 hkS (by decide) rfl) (lenMax (show b0.length + 1 ≤ 1000000 by omega)) (show (b0.length + 1) * bytesS ≤ 140737488355328 by unfold bytesS; omega) (fun _ _ _ => (meet_cons (by exact meetV (.slice a_l l.length c_l) rfl rfl) (meet_cons (by exact meetV (.int .i64 site) rfl rfl) (meet_cons (by exact meetV (.int .i64 tick) rfl rfl) (meet_cons (by exact meetV (.int .i64 (nextSt l site tick).1) rfl rfl) (meet_cons (by exact meetV (.int .i64 (nextSt l site tick).2.1) rfl rfl) (meet_cons (by exact meetV (.int .i64 (nextSt l site tick).2.2.1) rfl rfl) (meet_cons (by exact meetV (.int .i64 (nextSt l site tick).2.2.2) rfl rfl) meet_nil)))))))) (fun _ _ _ => rfl) ?_
          intro M1 a1 c1 hO1 hK1 hT1 a w hh
          have hM1 := hK1.up hT1 (Nat.le_refl _) hM0
          letI := (sg M1 l a_l c_l site tick i b0 a0 c0 b1 a1 c1)
          by_cases v0 : ValidP (nextSt l site tick)
          · by_cases v1 : (nextSt l site tick).2.2.1 = site
            · by_cases v2 : (nextSt l site tick).1 = tick
              · by_cases v3 : ordB b1 = true
                · by_cases v4 : ordB l = true
                  · refine walk_ops (F := F8) (T := C8) (fuel := 1000) (d := 10) mixed (allF_cons (FactOk.bi rfl rfl rfl rfl rfl rfl (boolT (by omega))) (allF_cons (FactOk.bi rfl rfl rfl rfl rfl rfl (boolT (by omega))) allF_nil)) (allC_cons (callValidT rfl rfl v0) (allC_cons (callOrdT rfl rfl (hO1.arr hkS) (by omega) v3) (allC_cons (callOrdT rfl rfl (hl.mono hM1) (by omega) v4) allC_nil))) ?_ hh
                    exact ostop_end e280 fun w2 hLow hIn => ⟨(by first | rfl | (exfalso; first | exact h2 (nextBad h1) | (have := nextCmp h1 (show i < l.length by omega); omega) | (have := nextSeq h1 (show i < l.length by omega) p2; omega) | exact v0 (nextLast h1).1 | exact v1 (nextLast h1).2.1 | exact v2 (nextLast h1).2.2.1 | exact v4 ((nextOrd h1 (by rw [hb1, hb0]; rfl)).1 v3) | exact v3 ((nextOrd h1 (by rw [hb1, hb0]; rfl)).2 v4))), hLow⟩   -- returns .bool true
                  · refine walk_ops (F := F9) (T := C9) (fuel := 1000) (d := 10) mixed (allF_cons (FactOk.bi rfl rfl rfl rfl rfl rfl (boolT (by omega))) (allF_cons (FactOk.bi rfl rfl rfl rfl rfl rfl (boolT (by omega))) allF_nil)) (allC_cons (callValidT rfl rfl v0) (allC_cons (callOrdT rfl rfl (hO1.arr hkS) (by omega) v3) (allC_cons (callOrdF rfl rfl (hl.mono hM1) (by omega) v4) allC_nil))) ?_ hh
                    exact ostop_end e281 fun w2 hLow hIn => ⟨(by first | rfl | (exfalso; first | exact h2 (nextBad h1) | (have := nextCmp h1 (show i < l.length by omega); omega) | (have := nextSeq h1 (show i < l.length by omega) p2; omega) | exact v0 (nextLast h1).1 | exact v1 (nextLast h1).2.1 | exact v2 (nextLast h1).2.2.1 | exact v4 ((nextOrd h1 (by rw [hb1, hb0]; rfl)).1 v3) | exact v3 ((nextOrd h1 (by rw [hb1, hb0]; rfl)).2 v4))), hLow⟩   -- returns .bool false
                · by_cases v4 : ordB l = true
                  · refine walk_ops (F := F10) (T := C10) (fuel := 1000) (d := 10) mixed (allF_cons (FactOk.bi rfl rfl rfl rfl rfl rfl (boolT (by omega))) (allF_cons (FactOk.bi rfl rfl rfl rfl rfl rfl (boolT (by omega))) allF_nil)) (allC_cons (callValidT rfl rfl v0) (allC_cons (callOrdF rfl rfl (hO1.arr hkS) (by omega) v3) (allC_cons (callOrdT rfl rfl (hl.mono hM1) (by omega) v4) allC_nil))) ?_ hh
                    exact ostop_end e282 fun w2 hLow hIn => ⟨(by first | rfl | (exfalso; first | exact h2 (nextBad h1) | (have := nextCmp h1 (show i < l.length by omega); omega) | (have := nextSeq h1 (show i < l.length by omega) p2; omega) | exact v0 (nextLast h1).1 | exact v1 (nextLast h1).2.1 | exact v2 (nextLast h1).2.2.1 | exact v4 ((nextOrd h1 (by rw [hb1, hb0]; rfl)).1 v3) | exact v3 ((nextOrd h1 (by rw [hb1, hb0]; rfl)).2 v4))), hLow⟩   -- returns .bool false
                  · refine walk_ops (F := F11) (T := C11) (fuel := 1000) (d := 10) mixed (allF_cons (FactOk.bi rfl rfl rfl rfl rfl rfl (boolT (by omega))) (allF_cons (FactOk.bi rfl rfl rfl rfl rfl rfl (boolT (by omega))) allF_nil)) (allC_cons (callValidT rfl rfl v0) (allC_cons (callOrdF rfl rfl (hO1.arr hkS) (by omega) v3) (allC_cons (callOrdF rfl rfl (hl.mono hM1) (by omega) v4) allC_nil))) ?_ hh
                    exact ostop_end e283 fun w2 hLow hIn => ⟨(by first | rfl | (exfalso; first | exact h2 (nextBad h1) | (have := nextCmp h1 (show i < l.length by omega); omega) | (have := nextSeq h1 (show i < l.length by omega) p2; omega) | exact v0 (nextLast h1).1 | exact v1 (nextLast h1).2.1 | exact v2 (nextLast h1).2.2.1 | exact v4 ((nextOrd h1 (by rw [hb1, hb0]; rfl)).1 v3) | exact v3 ((nextOrd h1 (by rw [hb1, hb0]; rfl)).2 v4))), hLow⟩   -- returns .bool true
              · refine walk_ops (F := F12) (T := C12) (fuel := 1000) (d := 10) mixed (allF_cons (FactOk.bi rfl rfl rfl rfl rfl rfl (boolT (by omega))) (allF_cons (FactOk.bi rfl rfl rfl rfl rfl rfl (boolF (by omega))) allF_nil)) (allC_cons (callValidT rfl rfl v0) allC_nil) ?_ hh
                exact ostop_end e284 fun w2 hLow hIn => ⟨(by first | rfl | (exfalso; first | exact h2 (nextBad h1) | (have := nextCmp h1 (show i < l.length by omega); omega) | (have := nextSeq h1 (show i < l.length by omega) p2; omega) | exact v0 (nextLast h1).1 | exact v1 (nextLast h1).2.1 | exact v2 (nextLast h1).2.2.1 | exact v4 ((nextOrd h1 (by rw [hb1, hb0]; rfl)).1 v3) | exact v3 ((nextOrd h1 (by rw [hb1, hb0]; rfl)).2 v4))), hLow⟩   -- returns .bool false
            · refine walk_ops (F := F13) (T := C13) (fuel := 1000) (d := 10) mixed (allF_cons (FactOk.bi rfl rfl rfl rfl rfl rfl (boolF (by omega))) allF_nil) (allC_cons (callValidT rfl rfl v0) allC_nil) ?_ hh
              exact ostop_end e285 fun w2 hLow hIn => ⟨(by first | rfl | (exfalso; first | exact h2 (nextBad h1) | (have := nextCmp h1 (show i < l.length by omega); omega) | (have := nextSeq h1 (show i < l.length by omega) p2; omega) | exact v0 (nextLast h1).1 | exact v1 (nextLast h1).2.1 | exact v2 (nextLast h1).2.2.1 | exact v4 ((nextOrd h1 (by rw [hb1, hb0]; rfl)).1 v3) | exact v3 ((nextOrd h1 (by rw [hb1, hb0]; rfl)).2 v4))), hLow⟩   -- returns .bool false
          · refine walk_ops (F := F14) (T := C14) (fuel := 1000) (d := 10) mixed allF_nil (allC_cons (callValidF rfl rfl v0) allC_nil) ?_ hh
            exact ostop_end e286 fun w2 hLow hIn => ⟨(by first | rfl | (exfalso; first | exact h2 (nextBad h1) | (have := nextCmp h1 (show i < l.length by omega); omega) | (have := nextSeq h1 (show i < l.length by omega) p2; omega) | exact v0 (nextLast h1).1 | exact v1 (nextLast h1).2.1 | exact v2 (nextLast h1).2.2.1 | exact v4 ((nextOrd h1 (by rw [hb1, hb0]; rfl)).1 v3) | exact v3 ((nextOrd h1 (by rw [hb1, hb0]; rfl)).2 v4))), hLow⟩   -- returns .bool false
    · by_cases h2 : (nextSt l site tick) = (((0 : Int), (0 : Int), (0 : Int), (0 : Int)) : St)
      · refine walk_to (F := F15) (T := C15) (fuel := 1000) (d := 10) mixed (allF_cons (FactOk.arrLen hl rfl rfl under27 rfl rfl) (allF_cons (FactOk.bi rfl rfl rfl rfl rfl rfl (boolF (by omega))) (allF_cons (FactOk.bi rfl rfl rfl rfl rfl rfl (nboolT (by omega))) (allF_cons (eqS rfl rfl rfl rfl (decide_eq_true h2).symm) allF_nil)))) (allC_cons (callSanity) (allC_cons (callNext rfl rfl rfl rfl hl (by omega)) allC_nil)) ?_ hh
        exact ostop_end e287 fun w2 hLow hIn => ⟨(by first | rfl | (exfalso; first | exact h2 (nextBad h1) | (have := nextCmp h1 (show i < l.length by omega); omega) | (have := nextSeq h1 (show i < l.length by omega) p2; omega) | exact v0 (nextLast h1).1 | exact v1 (nextLast h1).2.1 | exact v2 (nextLast h1).2.2.1 | exact v4 ((nextOrd h1 (by rw [hb1, hb0]; rfl)).1 v3) | exact v3 ((nextOrd h1 (by rw [hb1, hb0]; rfl)).2 v4))), hLow⟩   -- returns .bool true
      · refine walk_to (F := F16) (T := C16) (fuel := 1000) (d := 10) mixed (allF_cons (FactOk.arrLen hl rfl rfl under27 rfl rfl) (allF_cons (FactOk.bi rfl rfl rfl rfl rfl rfl (boolF (by omega))) (allF_cons (FactOk.bi rfl rfl rfl rfl rfl rfl (nboolT (by omega))) (allF_cons (eqS rfl rfl rfl rfl (decide_eq_false h2).symm) allF_nil)))) (allC_cons (callSanity) (allC_cons (callNext rfl rfl rfl rfl hl (by omega)) allC_nil)) ?_ hh
        exact ostop_end e288 fun w2 hLow hIn => ⟨(by first | rfl | (exfalso; first | exact h2 (nextBad h1) | (have := nextCmp h1 (show i < l.length by omega); omega) | (have := nextSeq h1 (show i < l.length by omega) p2; omega) | exact v0 (nextLast h1).1 | exact v1 (nextLast h1).2.1 | exact v2 (nextLast h1).2.2.1 | exact v4 ((nextOrd h1 (by rw [hb1, hb0]; rfl)).1 v3) | exact v3 ((nextOrd h1 (by rw [hb1, hb0]; rfl)).2 v4))), hLow⟩   -- returns .bool false
end LastG
end AE
end Go.Proofs.YtheaofepenbcgaaDoor

/- Parts of the proof, in the order in which they are built: MPm, MSp, MPa3, MPp, MPo, MR0, MR1, MR2, MR3, MR4, MP1, MSm, MP3, MRn0, MRw0. -/
import Derived.Test.YtblhndlmgibljaaDoorPsCard4
import Derived.Lib.LaidTab
import Derived.HandedShaped

/- The walk of the reader's material. -/
namespace Go.Proofs.YtblhndlmgibljaaDoor
open Go Go.Proofs Go.RowKit
set_option maxRecDepth 100000
namespace AE
namespace MatG
noncomputable def body : Code := (Tryd.f43.body).getD .skip
def N : Nat := 93
noncomputable abbrev at' (N : Nat) (F : List (FOp × Value)) (C : List (FuncId × List Value × Value)) (c : Code) (s : ASt) : Option Stop := evalTo Tryd.prog F C N 1000 10 c s
noncomputable abbrev unr' (N : Nat) (F : List (FOp × Value)) (C : List (FuncId × List Value × Value)) (m : Nat) (o : Option Stop) : Option Stop := evalUnroll Tryd.prog F C N 1000 10 m o
noncomputable abbrev ops' (N : Nat) (F : List (FOp × Value)) (C : List (FuncId × List Value × Value)) (r : List Oper) (ops : Array Oper) (ks : List KI) (s : ASt) : Option Stop := evalOps Tryd.prog F C N 1000 10 r ops ks s
def s0 : ASt := { sl := slots [(0, symv 0)], ms := [], A := start }
def F0 : List (FOp × Value) := []
def C0 : List (FuncId × List Value × Value) := []
theorem e0 : (enterAt Tryd.prog (at' 93 F0 C0 body s0)).isSome = true := by kernel_rfl
theorem e1 : (enterD Tryd.prog (at' 93 F0 C0 body s0)).1 = 53 := by kernel_rfl
theorem e2 : (enterD Tryd.prog (at' 93 F0 C0 body s0)).2.1 = [symv 0] := by kernel_rfl
noncomputable abbrev so0 := at' 93 F0 C0 body s0
noncomputable def bk0 : List Bk := [⟨.cells [strV [], .bool false, .bool false, .bool false, .int .i64 0, .int .i64 0, .int .i64 0, .int .i64 0], 35, 0⟩]
def hd0 : Sl := slots [(4, .func (.func 54) ⟨[symv 0]⟩ ⟨[]⟩), (3, .func (.func 53) ⟨[symv 0]⟩ ⟨[]⟩), (2, .pointer (some ⟨0, 0, none⟩)), (0, symv 0)]
def hp0 : Sl := match aput 93 hd0 (some 14) (symv 3) with | some s => s | none => .nil
theorem e3 : trAll (entSt Tryd.prog so0) hd0 bk0 = some [(symv 0, symv 0), (symv 0, symv 0), (symv 0, symv 0)] := by kernel_rfl
theorem e4 : aput 93 hd0 (stopDst so0) (symv 3) = some hp0 := by kernel_rfl
noncomputable def po0 : Array Oper := opsAt body [1, 1, 0]
noncomputable def pk0 : List KI := ksAt body [1, 1, 0] []
noncomputable def pr0 : List Oper := po0.toList.drop 2
theorem e5 : stopRest so0 = pr0 := by kernel_rfl
theorem e6 : stopOps so0 = po0 := by kernel_rfl
theorem e7 : stopKs so0 = pk0 := by kernel_rfl
theorem e8 : (enterAt Tryd.prog (ops' 93 F0 C0 pr0 po0 pk0 { sl := hp0, ms := [], A := mkAS bk0 })).isSome = true := by kernel_rfl
theorem e9 : (enterD Tryd.prog (ops' 93 F0 C0 pr0 po0 pk0 { sl := hp0, ms := [], A := mkAS bk0 })).1 = 53 := by kernel_rfl
theorem e10 : (enterD Tryd.prog (ops' 93 F0 C0 pr0 po0 pk0 { sl := hp0, ms := [], A := mkAS bk0 })).2.1 = [symv 0] := by kernel_rfl
noncomputable abbrev so1 := ops' 93 F0 C0 pr0 po0 pk0 { sl := hp0, ms := [], A := mkAS bk0 }
noncomputable def bk1 : List Bk := [⟨.cells [strV [], .bool false, .bool false, .bool false, .int .i64 0, .int .i64 0, .int .i64 0, .int .i64 0], 35, 0⟩, ⟨.cells [symv 3, .bool false, .bool false, .bool false, .int .i64 0, .int .i64 0, .int .i64 0, .int .i64 0], 35, 0⟩]
def hd1 : Sl := slots [(5, .pointer (some ⟨1, 0, none⟩)), (4, .func (.func 54) ⟨[symv 0]⟩ ⟨[]⟩), (2, .pointer (some ⟨0, 0, none⟩)), (0, symv 0)]
def hp1 : Sl := match aput 93 hd1 (some 17) (symv 6) with | some s => s | none => .nil
theorem e11 : trAll (entSt Tryd.prog so1) hd1 bk1 = some [(symv 0, symv 0), (symv 0, symv 0), (symv 3, symv 3)] := by kernel_rfl
theorem e12 : aput 93 hd1 (stopDst so1) (symv 6) = some hp1 := by kernel_rfl
noncomputable def po1 : Array Oper := opsAt body [1, 1, 1, 0]
noncomputable def pk1 : List KI := ksAt body [1, 1, 1, 0] []
noncomputable def pr1 : List Oper := po1.toList.drop 2
theorem e13 : stopRest so1 = pr1 := by kernel_rfl
theorem e14 : stopOps so1 = po1 := by kernel_rfl
theorem e15 : stopKs so1 = pk1 := by kernel_rfl
def F1 : List (FOp × Value) := [(.slc 78 (symv 1000000) none none none, symv 9)]
def C1 : List (FuncId × List Value × Value) := []
noncomputable abbrev ra0 := ops' 93 F1 C1 pr1 po1 pk1 { sl := hp1, ms := [], A := mkAS bk1 }
noncomputable def bc0 : Code := (Tryd.f55.body).getD .skip
noncomputable def rb0 : List Bk := [⟨.cells [strV [], .bool false, .bool false, .bool false, .int .i64 0, .int .i64 0, .int .i64 0, .int .i64 0], 35, 0⟩, ⟨.cells [symv 3, .bool false, .bool false, .bool false, .int .i64 0, .int .i64 0, .int .i64 0, .int .i64 0], 35, 0⟩, ⟨.cells [symv 6], 9, 0⟩]
def rs0 : Sl := slots [(5, .pointer (some ⟨1, 0, none⟩)), (4, .func (.func 54) ⟨[symv 0]⟩ ⟨[]⟩), (2, .pointer (some ⟨0, 0, none⟩)), (0, symv 0)]
def rp0 : Sl := match aput 93 rs0 (some 20) (symv 10) with | some s => s | none => .nil
theorem e16 : (enterAt Tryd.prog ra0).isSome = true := by kernel_rfl
theorem e17 : (enterD Tryd.prog ra0).1 = 55 := by kernel_rfl
theorem e18 : (setArgs 0 (enterD Tryd.prog ra0).2.1 .nil).isSome = true := by kernel_rfl
theorem e19 : (enterD Tryd.prog ra0).2.1.length + (Tryd.f55.ntmps - (enterD Tryd.prog ra0).2.1.length) = 19 := by kernel_rfl
theorem e20 : (enterD Tryd.prog ra0).2.2.n = 3 := by kernel_rfl
theorem e21 : trT 3 (stopSt ra0).sl rs0 = some [(symv 0, symv 0), (symv 0, symv 0)] := by kernel_rfl
theorem e22 : aput 93 rs0 (stopDst ra0) (symv 10) = some rp0 := by kernel_rfl
noncomputable def pox0 : Array Oper := opsAt body [1, 1, 1, 1, 0]
noncomputable def pkx0 : List KI := ksAt body [1, 1, 1, 1, 0] []
noncomputable def prx0 : List Oper := pox0.toList.drop 3
theorem e23 : stopRest ra0 = prx0 := by kernel_rfl
theorem e24 : stopOps ra0 = pox0 := by kernel_rfl
theorem e25 : stopKs ra0 = pkx0 := by kernel_rfl
def F2 : List (FOp × Value) := [(.len #[83] 3 (symv 9), .int .i64 4),
    (.ixa 83 (symv 9) (.int .i64 0), symv 11),
    (.ld 61 (symv 11), .agg ⟨[strV [103, 97, 115], .bool false, .bool false, .bool false]⟩),
    (.bin .eql 9 (strV [103, 97, 115]) (symv 6), .bool true)]
def C2 : List (FuncId × List Value × Value) := []
theorem e27 : retObs Tryd.prog Tryd.f55 (symv 10) rb0 (at' 19 F2 C2 bc0 (enterSt Tryd.prog ra0)) = some [(.int .i64 0, symv 10), (symv 3, symv 3), (symv 6, symv 6)] := by kernel_rfl
def F3 : List (FOp × Value) := [(.len #[83] 3 (symv 9), .int .i64 4),
    (.ixa 83 (symv 9) (.int .i64 0), symv 11),
    (.ld 61 (symv 11), .agg ⟨[strV [103, 97, 115], .bool false, .bool false, .bool false]⟩),
    (.bin .eql 9 (strV [103, 97, 115]) (symv 6), .bool false),
    (.ixa 83 (symv 9) (.int .i64 1), symv 12),
    (.ld 61 (symv 12), .agg ⟨[strV [115, 111, 108, 105, 100], .bool true, .bool false, .bool false]⟩),
    (.bin .eql 9 (strV [115, 111, 108, 105, 100]) (symv 6), .bool true)]
def C3 : List (FuncId × List Value × Value) := []
theorem e28 : retObs Tryd.prog Tryd.f55 (symv 10) rb0 (at' 19 F3 C3 bc0 (enterSt Tryd.prog ra0)) = some [(.int .i64 1, symv 10), (symv 3, symv 3), (symv 6, symv 6)] := by kernel_rfl
def F4 : List (FOp × Value) := [(.len #[83] 3 (symv 9), .int .i64 4),
    (.ixa 83 (symv 9) (.int .i64 0), symv 11),
    (.ld 61 (symv 11), .agg ⟨[strV [103, 97, 115], .bool false, .bool false, .bool false]⟩),
    (.bin .eql 9 (strV [103, 97, 115]) (symv 6), .bool false),
    (.ixa 83 (symv 9) (.int .i64 1), symv 12),
    (.ld 61 (symv 12), .agg ⟨[strV [115, 111, 108, 105, 100], .bool true, .bool false, .bool false]⟩),
    (.bin .eql 9 (strV [115, 111, 108, 105, 100]) (symv 6), .bool false),
    (.ixa 83 (symv 9) (.int .i64 2), symv 13),
    (.ld 61 (symv 13), .agg ⟨[strV [102, 97, 108, 108, 105, 110, 103], .bool true, .bool false, .bool true]⟩),
    (.bin .eql 9 (strV [102, 97, 108, 108, 105, 110, 103]) (symv 6), .bool true)]
def C4 : List (FuncId × List Value × Value) := []
theorem e29 : retObs Tryd.prog Tryd.f55 (symv 10) rb0 (at' 19 F4 C4 bc0 (enterSt Tryd.prog ra0)) = some [(.int .i64 2, symv 10), (symv 3, symv 3), (symv 6, symv 6)] := by kernel_rfl
def F5 : List (FOp × Value) := [(.len #[83] 3 (symv 9), .int .i64 4),
    (.ixa 83 (symv 9) (.int .i64 0), symv 11),
    (.ld 61 (symv 11), .agg ⟨[strV [103, 97, 115], .bool false, .bool false, .bool false]⟩),
    (.bin .eql 9 (strV [103, 97, 115]) (symv 6), .bool false),
    (.ixa 83 (symv 9) (.int .i64 1), symv 12),
    (.ld 61 (symv 12), .agg ⟨[strV [115, 111, 108, 105, 100], .bool true, .bool false, .bool false]⟩),
    (.bin .eql 9 (strV [115, 111, 108, 105, 100]) (symv 6), .bool false),
    (.ixa 83 (symv 9) (.int .i64 2), symv 13),
    (.ld 61 (symv 13), .agg ⟨[strV [102, 97, 108, 108, 105, 110, 103], .bool true, .bool false, .bool true]⟩),
    (.bin .eql 9 (strV [102, 97, 108, 108, 105, 110, 103]) (symv 6), .bool false),
    (.ixa 83 (symv 9) (.int .i64 3), symv 14),
    (.ld 61 (symv 14), .agg ⟨[strV [108, 105, 113, 117, 105, 100], .bool false, .bool true, .bool false]⟩),
    (.bin .eql 9 (strV [108, 105, 113, 117, 105, 100]) (symv 6), .bool true)]
def C5 : List (FuncId × List Value × Value) := []
theorem e30 : retObs Tryd.prog Tryd.f55 (symv 10) rb0 (at' 19 F5 C5 bc0 (enterSt Tryd.prog ra0)) = some [(.int .i64 3, symv 10), (symv 3, symv 3), (symv 6, symv 6)] := by kernel_rfl
def F6 : List (FOp × Value) := [(.len #[83] 3 (symv 9), .int .i64 4),
    (.ixa 83 (symv 9) (.int .i64 0), symv 11),
    (.ld 61 (symv 11), .agg ⟨[strV [103, 97, 115], .bool false, .bool false, .bool false]⟩),
    (.bin .eql 9 (strV [103, 97, 115]) (symv 6), .bool false),
    (.ixa 83 (symv 9) (.int .i64 1), symv 12),
    (.ld 61 (symv 12), .agg ⟨[strV [115, 111, 108, 105, 100], .bool true, .bool false, .bool false]⟩),
    (.bin .eql 9 (strV [115, 111, 108, 105, 100]) (symv 6), .bool false),
    (.ixa 83 (symv 9) (.int .i64 2), symv 13),
    (.ld 61 (symv 13), .agg ⟨[strV [102, 97, 108, 108, 105, 110, 103], .bool true, .bool false, .bool true]⟩),
    (.bin .eql 9 (strV [102, 97, 108, 108, 105, 110, 103]) (symv 6), .bool false),
    (.ixa 83 (symv 9) (.int .i64 3), symv 14),
    (.ld 61 (symv 14), .agg ⟨[strV [108, 105, 113, 117, 105, 100], .bool false, .bool true, .bool false]⟩),
    (.bin .eql 9 (strV [108, 105, 113, 117, 105, 100]) (symv 6), .bool false)]
def C6 : List (FuncId × List Value × Value) := []
theorem e31 : retObs Tryd.prog Tryd.f55 (symv 10) rb0 (at' 19 F6 C6 bc0 (enterSt Tryd.prog ra0)) = some [(.int .i64 (-1), symv 10), (symv 3, symv 3), (symv 6, symv 6)] := by kernel_rfl
def F7 : List (FOp × Value) := [(.bin .lss 3 (symv 10) (.int .i64 0), .bool true),
    (.nilc (symv 0), symv 0),
    (.fa 72 (symv 0) 1, symv 15)]
def C7 : List (FuncId × List Value × Value) := []
theorem e32 : stoOf (ops' 93 F7 C7 prx0 pox0 pkx0 { sl := rp0, ms := [], A := mkAS rb0 }) = some (4, (symv 15), (.bool true)) := by kernel_rfl
noncomputable abbrev so2 := ops' 93 F7 C7 prx0 pox0 pkx0 { sl := rp0, ms := [], A := mkAS rb0 }
noncomputable def bk2 : List Bk := [⟨.cells [strV [], .bool false, .bool false, .bool false, .int .i64 0, .int .i64 0, .int .i64 0, .int .i64 0], 35, 0⟩, ⟨.cells [symv 3, .bool false, .bool false, .bool false, .int .i64 0, .int .i64 0, .int .i64 0, .int .i64 0], 35, 0⟩]
def hd2 : Sl := slots [(7, symv 10), (5, .pointer (some ⟨1, 0, none⟩)), (4, .func (.func 54) ⟨[symv 0]⟩ ⟨[]⟩), (2, .pointer (some ⟨0, 0, none⟩)), (0, symv 0)]
def hp2 : Sl := match aput 93 hd2 none (.tuple ⟨[]⟩) with | some s => s | none => .nil
theorem e33 : trAll (stopSt so2) hd2 bk2 = some [(symv 0, symv 0), (symv 10, symv 10), (symv 0, symv 0), (symv 3, symv 3)] := by kernel_rfl
theorem e34 : aput 93 hd2 (stopDst so2) (.tuple ⟨[]⟩) = some hp2 := by kernel_rfl
noncomputable def po2 : Array Oper := opsAt body [1, 1, 1, 1, 1, 0, 1, 2, 0]
noncomputable def pk2 : List KI := ksAt body [1, 1, 1, 1, 1, 0, 1, 2, 0] []
noncomputable def pr2 : List Oper := po2.toList.drop 4
theorem e35 : stopRest so2 = pr2 := by kernel_rfl
theorem e36 : stopOps so2 = po2 := by kernel_rfl
theorem e37 : stopKs so2 = pk2 := by kernel_rfl
theorem e38 : endVal Tryd.prog Tryd.f43 (ops' 93 F0 C0 pr2 po2 pk2 { sl := hp2, ms := [], A := mkAS bk2 }) = some (.agg ⟨[symv 3, .bool false, .bool false, .bool false, .int .i64 0, .int .i64 0, .int .i64 0, .int .i64 0]⟩) := by kernel_rfl
def F8 : List (FOp × Value) := [(.bin .lss 3 (symv 10) (.int .i64 0), .bool false),
    (.ixa 78 (symv 1000000) (symv 10), symv 16),
    (.fa 61 (symv 16) 1, symv 17),
    (.fa 61 (symv 16) 2, symv 18),
    (.fa 61 (symv 16) 3, symv 19),
    (.ld 4 (symv 17), symv 20),
    (.ld 4 (symv 18), symv 21),
    (.ld 4 (symv 19), symv 22)]
def C8 : List (FuncId × List Value × Value) := []
theorem e39 : (enterAt Tryd.prog (ops' 93 F8 C8 prx0 pox0 pkx0 { sl := rp0, ms := [], A := mkAS rb0 })).isSome = true := by kernel_rfl
theorem e40 : (enterD Tryd.prog (ops' 93 F8 C8 prx0 pox0 pkx0 { sl := rp0, ms := [], A := mkAS rb0 })).1 = 57 := by kernel_rfl
theorem e41 : (enterD Tryd.prog (ops' 93 F8 C8 prx0 pox0 pkx0 { sl := rp0, ms := [], A := mkAS rb0 })).2.1 = [symv 0, strV [102, 97, 100, 101]] := by kernel_rfl
noncomputable abbrev so3 := ops' 93 F8 C8 prx0 pox0 pkx0 { sl := rp0, ms := [], A := mkAS rb0 }
noncomputable def bk3 : List Bk := [⟨.cells [strV [], .bool false, .bool false, .bool false, .int .i64 0, .int .i64 0, .int .i64 0, .int .i64 0], 35, 0⟩, ⟨.cells [symv 3, symv 20, symv 21, symv 22, .int .i64 0, .int .i64 0, .int .i64 0, .int .i64 0], 35, 0⟩]
def hd3 : Sl := slots [(5, .pointer (some ⟨1, 0, none⟩)), (4, .func (.func 54) ⟨[symv 0]⟩ ⟨[]⟩), (2, .pointer (some ⟨0, 0, none⟩)), (0, symv 0)]
def hp3 : Sl := match aput 93 hd3 (some 43) (.tuple ⟨[]⟩) with | some s => s | none => .nil
theorem e42 : trAll (entSt Tryd.prog so3) hd3 bk3 = some [(symv 0, symv 0), (symv 0, symv 0), (symv 3, symv 3), (symv 20, symv 20), (symv 21, symv 21), (symv 22, symv 22)] := by kernel_rfl
theorem e43 : aput 93 hd3 (stopDst so3) (.tuple ⟨[]⟩) = some hp3 := by kernel_rfl
noncomputable def po3 : Array Oper := opsAt body [1, 1, 1, 1, 1, 1, 1, 0]
noncomputable def pk3 : List KI := ksAt body [1, 1, 1, 1, 1, 1, 1, 0] []
noncomputable def pr3 : List Oper := po3.toList.drop 2
theorem e44 : stopRest so3 = pr3 := by kernel_rfl
theorem e45 : stopOps so3 = po3 := by kernel_rfl
theorem e46 : stopKs so3 = pk3 := by kernel_rfl
theorem e47 : (enterAt Tryd.prog (ops' 93 F0 C0 pr3 po3 pk3 { sl := hp3, ms := [], A := mkAS bk3 })).isSome = true := by kernel_rfl
theorem e48 : (enterD Tryd.prog (ops' 93 F0 C0 pr3 po3 pk3 { sl := hp3, ms := [], A := mkAS bk3 })).1 = 54 := by kernel_rfl
theorem e49 : (enterD Tryd.prog (ops' 93 F0 C0 pr3 po3 pk3 { sl := hp3, ms := [], A := mkAS bk3 })).2.1 = [symv 0] := by kernel_rfl
noncomputable abbrev so4 := ops' 93 F0 C0 pr3 po3 pk3 { sl := hp3, ms := [], A := mkAS bk3 }
noncomputable def bk4 : List Bk := [⟨.cells [strV [], .bool false, .bool false, .bool false, .int .i64 0, .int .i64 0, .int .i64 0, .int .i64 0], 35, 0⟩, ⟨.cells [symv 3, symv 20, symv 21, symv 22, .int .i64 0, .int .i64 0, .int .i64 0, .int .i64 0], 35, 0⟩]
def hd4 : Sl := slots [(5, .pointer (some ⟨1, 0, none⟩)), (4, .func (.func 54) ⟨[symv 0]⟩ ⟨[]⟩), (2, .pointer (some ⟨0, 0, none⟩)), (0, symv 0)]
def hp4 : Sl := match aput 93 hd4 (some 45) (symv 25) with | some s => s | none => .nil
theorem e50 : trAll (entSt Tryd.prog so4) hd4 bk4 = some [(symv 0, symv 0), (symv 0, symv 0), (symv 3, symv 3), (symv 20, symv 20), (symv 21, symv 21), (symv 22, symv 22)] := by kernel_rfl
theorem e51 : aput 93 hd4 (stopDst so4) (symv 25) = some hp4 := by kernel_rfl
noncomputable def po4 : Array Oper := opsAt body [1, 1, 1, 1, 1, 1, 1, 1, 0]
noncomputable def pk4 : List KI := ksAt body [1, 1, 1, 1, 1, 1, 1, 1, 0] []
noncomputable def pr4 : List Oper := po4.toList.drop 2
theorem e52 : stopRest so4 = pr4 := by kernel_rfl
theorem e53 : stopOps so4 = po4 := by kernel_rfl
theorem e54 : stopKs so4 = pk4 := by kernel_rfl
def F9 : List (FOp × Value) := [(.nilc (symv 0), symv 0),
    (.fa 72 (symv 0) 0, symv 0),
    (.ld 68 (symv 0), symv 26),
    (.len #[68] 3 (symv 26), symv 28),
    (.bin .gtr 3 (symv 28) (.int .i64 0), .bool true)]
def C9 : List (FuncId × List Value × Value) := []
theorem e55 : (enterAt Tryd.prog (ops' 93 F9 C9 pr4 po4 pk4 { sl := hp4, ms := [], A := mkAS bk4 })).isSome = true := by kernel_rfl
theorem e56 : (enterD Tryd.prog (ops' 93 F9 C9 pr4 po4 pk4 { sl := hp4, ms := [], A := mkAS bk4 })).1 = 57 := by kernel_rfl
theorem e57 : (enterD Tryd.prog (ops' 93 F9 C9 pr4 po4 pk4 { sl := hp4, ms := [], A := mkAS bk4 })).2.1 = [symv 0, strV [101, 109, 105, 116]] := by kernel_rfl
noncomputable abbrev so5 := ops' 93 F9 C9 pr4 po4 pk4 { sl := hp4, ms := [], A := mkAS bk4 }
noncomputable def bk5 : List Bk := [⟨.cells [strV [], .bool false, .bool false, .bool false, .int .i64 0, .int .i64 0, .int .i64 0, .int .i64 0], 35, 0⟩, ⟨.cells [symv 3, symv 20, symv 21, symv 22, symv 25, .int .i64 0, .int .i64 0, .int .i64 0], 35, 0⟩]
def hd5 : Sl := slots [(5, .pointer (some ⟨1, 0, none⟩)), (4, .func (.func 54) ⟨[symv 0]⟩ ⟨[]⟩), (2, .pointer (some ⟨0, 0, none⟩)), (0, symv 0)]
def hp5 : Sl := match aput 93 hd5 (some 54) (.tuple ⟨[]⟩) with | some s => s | none => .nil
theorem e58 : trAll (entSt Tryd.prog so5) hd5 bk5 = some [(symv 0, symv 0), (symv 0, symv 0), (symv 3, symv 3), (symv 20, symv 20), (symv 21, symv 21), (symv 22, symv 22), (symv 25, symv 25)] := by kernel_rfl
theorem e59 : aput 93 hd5 (stopDst so5) (.tuple ⟨[]⟩) = some hp5 := by kernel_rfl
noncomputable def po5 : Array Oper := opsAt body [1, 1, 1, 1, 1, 1, 1, 1, 1, 0, 1, 2, 0]
noncomputable def pk5 : List KI := ksAt body [1, 1, 1, 1, 1, 1, 1, 1, 1, 0, 1, 2, 0] []
noncomputable def pr5 : List Oper := po5.toList.drop 2
theorem e60 : stopRest so5 = pr5 := by kernel_rfl
theorem e61 : stopOps so5 = po5 := by kernel_rfl
theorem e62 : stopKs so5 = pk5 := by kernel_rfl
theorem e63 : (enterAt Tryd.prog (unr' 93 F0 C0 4 (ops' 93 F0 C0 pr5 po5 pk5 { sl := hp5, ms := [], A := mkAS bk5 }))).isSome = true := by kernel_rfl
theorem e64 : (enterD Tryd.prog (unr' 93 F0 C0 4 (ops' 93 F0 C0 pr5 po5 pk5 { sl := hp5, ms := [], A := mkAS bk5 }))).1 = 54 := by kernel_rfl
theorem e65 : (enterD Tryd.prog (unr' 93 F0 C0 4 (ops' 93 F0 C0 pr5 po5 pk5 { sl := hp5, ms := [], A := mkAS bk5 }))).2.1 = [symv 0] := by kernel_rfl
noncomputable abbrev so6 := unr' 93 F0 C0 4 (ops' 93 F0 C0 pr5 po5 pk5 { sl := hp5, ms := [], A := mkAS bk5 })
noncomputable def bk6 : List Bk := [⟨.cells [strV [], .bool false, .bool false, .bool false, .int .i64 0, .int .i64 0, .int .i64 0, .int .i64 0], 35, 0⟩, ⟨.cells [symv 3, symv 20, symv 21, symv 22, symv 25, .int .i64 0, .int .i64 0, .int .i64 0], 35, 0⟩]
def hd6 : Sl := slots [(59, .func (.func 54) ⟨[symv 0]⟩ ⟨[]⟩), (58, .int .i64 0), (57, .int .i64 0), (56, .bool true), (55, .int .i64 0), (8, .int .i64 0), (5, .pointer (some ⟨1, 0, none⟩)), (4, .func (.func 54) ⟨[symv 0]⟩ ⟨[]⟩), (2, .pointer (some ⟨0, 0, none⟩)), (0, symv 0)]
def hp6 : Sl := match aput 93 hd6 (some 60) (symv 31) with | some s => s | none => .nil
theorem e66 : trAll (entSt Tryd.prog so6) hd6 bk6 = some [(symv 0, symv 0), (symv 0, symv 0), (symv 0, symv 0), (symv 3, symv 3), (symv 20, symv 20), (symv 21, symv 21), (symv 22, symv 22), (symv 25, symv 25)] := by kernel_rfl
theorem e67 : aput 93 hd6 (stopDst so6) (symv 31) = some hp6 := by kernel_rfl
noncomputable def po6 : Array Oper := opsAt body [1, 1, 1, 1, 1, 1, 1, 1, 1, 0, 1, 2, 1, 0, 1, 4, 8, 1, 1, 0, 4, 1]
noncomputable def pk6 : List KI := ksAt body [1, 1, 1, 1, 1, 1, 1, 1, 1, 0, 1, 2, 1, 0, 1, 4, 8, 1, 1, 0, 4, 1] []
noncomputable def pr6 : List Oper := po6.toList.drop 3
theorem e68 : stopRest so6 = pr6 := by kernel_rfl
theorem e69 : stopOps so6 = po6 := by kernel_rfl
theorem e70 : stopKs so6 = pk6 := by kernel_rfl
theorem e71 : (enterAt Tryd.prog (ops' 93 F0 C0 pr6 po6 pk6 { sl := hp6, ms := [], A := mkAS bk6 })).isSome = true := by kernel_rfl
theorem e72 : (enterD Tryd.prog (ops' 93 F0 C0 pr6 po6 pk6 { sl := hp6, ms := [], A := mkAS bk6 })).1 = 54 := by kernel_rfl
theorem e73 : (enterD Tryd.prog (ops' 93 F0 C0 pr6 po6 pk6 { sl := hp6, ms := [], A := mkAS bk6 })).2.1 = [symv 0] := by kernel_rfl
noncomputable abbrev so7 := ops' 93 F0 C0 pr6 po6 pk6 { sl := hp6, ms := [], A := mkAS bk6 }
noncomputable def bk7 : List Bk := [⟨.cells [strV [], .bool false, .bool false, .bool false, .int .i64 0, .int .i64 0, .int .i64 0, .int .i64 0], 35, 0⟩, ⟨.cells [symv 3, symv 20, symv 21, symv 22, symv 25, symv 31, .int .i64 0, .int .i64 0], 35, 0⟩]
def hd7 : Sl := slots [(63, .int .i64 1), (62, .pointer (some ⟨1, 5, none⟩)), (61, .pointer (some ⟨1, 5, none⟩)), (60, symv 31), (59, .func (.func 54) ⟨[symv 0]⟩ ⟨[]⟩), (58, .int .i64 1), (57, .int .i64 1), (56, .bool true), (55, .int .i64 1), (8, .int .i64 1), (5, .pointer (some ⟨1, 0, none⟩)), (4, .func (.func 54) ⟨[symv 0]⟩ ⟨[]⟩), (2, .pointer (some ⟨0, 0, none⟩)), (0, symv 0)]
def hp7 : Sl := match aput 93 hd7 (some 60) (symv 34) with | some s => s | none => .nil
theorem e74 : trAll (entSt Tryd.prog so7) hd7 bk7 = some [(symv 0, symv 0), (symv 0, symv 0), (symv 0, symv 0), (symv 31, symv 31), (symv 3, symv 3), (symv 20, symv 20), (symv 21, symv 21), (symv 22, symv 22), (symv 25, symv 25), (symv 31, symv 31)] := by kernel_rfl
theorem e75 : aput 93 hd7 (stopDst so7) (symv 34) = some hp7 := by kernel_rfl
noncomputable def po7 : Array Oper := opsAt body [1, 1, 1, 1, 1, 1, 1, 1, 1, 0, 1, 2, 1, 0, 1, 4, 7, 1, 1, 0, 4, 1]
noncomputable def pk7 : List KI := ksAt body [1, 1, 1, 1, 1, 1, 1, 1, 1, 0, 1, 2, 1, 0, 1, 4, 7, 1, 1, 0, 4, 1] []
noncomputable def pr7 : List Oper := po7.toList.drop 3
theorem e76 : stopRest so7 = pr7 := by kernel_rfl
theorem e77 : stopOps so7 = po7 := by kernel_rfl
theorem e78 : stopKs so7 = pk7 := by kernel_rfl
theorem e79 : (enterAt Tryd.prog (ops' 93 F0 C0 pr7 po7 pk7 { sl := hp7, ms := [], A := mkAS bk7 })).isSome = true := by kernel_rfl
theorem e80 : (enterD Tryd.prog (ops' 93 F0 C0 pr7 po7 pk7 { sl := hp7, ms := [], A := mkAS bk7 })).1 = 54 := by kernel_rfl
theorem e81 : (enterD Tryd.prog (ops' 93 F0 C0 pr7 po7 pk7 { sl := hp7, ms := [], A := mkAS bk7 })).2.1 = [symv 0] := by kernel_rfl
noncomputable abbrev so8 := ops' 93 F0 C0 pr7 po7 pk7 { sl := hp7, ms := [], A := mkAS bk7 }
noncomputable def bk8 : List Bk := [⟨.cells [strV [], .bool false, .bool false, .bool false, .int .i64 0, .int .i64 0, .int .i64 0, .int .i64 0], 35, 0⟩, ⟨.cells [symv 3, symv 20, symv 21, symv 22, symv 25, symv 31, symv 34, .int .i64 0], 35, 0⟩]
def hd8 : Sl := slots [(63, .int .i64 2), (62, .pointer (some ⟨1, 6, none⟩)), (61, .pointer (some ⟨1, 5, none⟩)), (60, symv 34), (59, .func (.func 54) ⟨[symv 0]⟩ ⟨[]⟩), (58, .int .i64 2), (57, .int .i64 2), (56, .bool true), (55, .int .i64 2), (8, .int .i64 2), (5, .pointer (some ⟨1, 0, none⟩)), (4, .func (.func 54) ⟨[symv 0]⟩ ⟨[]⟩), (2, .pointer (some ⟨0, 0, none⟩)), (0, symv 0)]
def hp8 : Sl := match aput 93 hd8 (some 60) (symv 37) with | some s => s | none => .nil
theorem e82 : trAll (entSt Tryd.prog so8) hd8 bk8 = some [(symv 0, symv 0), (symv 0, symv 0), (symv 0, symv 0), (symv 34, symv 34), (symv 3, symv 3), (symv 20, symv 20), (symv 21, symv 21), (symv 22, symv 22), (symv 25, symv 25), (symv 31, symv 31), (symv 34, symv 34)] := by kernel_rfl
theorem e83 : aput 93 hd8 (stopDst so8) (symv 37) = some hp8 := by kernel_rfl
noncomputable def po8 : Array Oper := opsAt body [1, 1, 1, 1, 1, 1, 1, 1, 1, 0, 1, 2, 1, 0, 1, 4, 6, 1, 1, 0, 4, 1]
noncomputable def pk8 : List KI := ksAt body [1, 1, 1, 1, 1, 1, 1, 1, 1, 0, 1, 2, 1, 0, 1, 4, 6, 1, 1, 0, 4, 1] []
noncomputable def pr8 : List Oper := po8.toList.drop 3
theorem e84 : stopRest so8 = pr8 := by kernel_rfl
theorem e85 : stopOps so8 = po8 := by kernel_rfl
theorem e86 : stopKs so8 = pk8 := by kernel_rfl
def F10 : List (FOp × Value) := [(.nilc (symv 0), symv 0),
    (.fa 72 (symv 0) 1, symv 15),
    (.ld 4 (symv 15), symv 39),
    (.tru (symv 39), .bool true)]
def C10 : List (FuncId × List Value × Value) := []
theorem e87 : stoOf (ops' 93 F10 C10 pr8 po8 pk8 { sl := hp8, ms := [], A := mkAS bk8 }) = some (4, (symv 15), (.bool true)) := by kernel_rfl
noncomputable abbrev so9 := ops' 93 F10 C10 pr8 po8 pk8 { sl := hp8, ms := [], A := mkAS bk8 }
noncomputable def bk9 : List Bk := [⟨.cells [strV [], .bool false, .bool false, .bool false, .int .i64 0, .int .i64 0, .int .i64 0, .int .i64 0], 35, 0⟩, ⟨.cells [symv 3, symv 20, symv 21, symv 22, symv 25, symv 31, symv 34, symv 37], 35, 0⟩]
def hd9 : Sl := slots [(5, .pointer (some ⟨1, 0, none⟩)), (2, .pointer (some ⟨0, 0, none⟩)), (0, symv 0)]
def hp9 : Sl := match aput 93 hd9 none (.tuple ⟨[]⟩) with | some s => s | none => .nil
theorem e88 : trAll (stopSt so9) hd9 bk9 = some [(symv 0, symv 0), (symv 3, symv 3), (symv 20, symv 20), (symv 21, symv 21), (symv 22, symv 22), (symv 25, symv 25), (symv 31, symv 31), (symv 34, symv 34), (symv 37, symv 37)] := by kernel_rfl
theorem e89 : aput 93 hd9 (stopDst so9) (.tuple ⟨[]⟩) = some hp9 := by kernel_rfl
noncomputable def po9 : Array Oper := opsAt body [1, 1, 1, 1, 1, 1, 1, 1, 1, 0, 1, 2, 1, 1]
noncomputable def pk9 : List KI := ksAt body [1, 1, 1, 1, 1, 1, 1, 1, 1, 0, 1, 2, 1, 1] []
noncomputable def pr9 : List Oper := po9.toList.drop 14
theorem e90 : stopRest so9 = pr9 := by kernel_rfl
theorem e91 : stopOps so9 = po9 := by kernel_rfl
theorem e92 : stopKs so9 = pk9 := by kernel_rfl
def F11 : List (FOp × Value) := [(.nilc (symv 0), symv 0),
    (.fa 72 (symv 0) 1, symv 15),
    (.ld 4 (symv 15), .bool true)]
def C11 : List (FuncId × List Value × Value) := []
theorem e93 : stoOf (ops' 93 F11 C11 pr9 po9 pk9 { sl := hp9, ms := [], A := mkAS bk9 }) = some (4, (symv 15), (.bool true)) := by kernel_rfl
noncomputable abbrev so10 := ops' 93 F11 C11 pr9 po9 pk9 { sl := hp9, ms := [], A := mkAS bk9 }
noncomputable def bk10 : List Bk := [⟨.cells [strV [], .bool false, .bool false, .bool false, .int .i64 0, .int .i64 0, .int .i64 0, .int .i64 0], 35, 0⟩, ⟨.cells [symv 3, symv 20, symv 21, symv 22, symv 25, symv 31, symv 34, symv 37], 35, 0⟩]
def hd10 : Sl := slots [(5, .pointer (some ⟨1, 0, none⟩)), (2, .pointer (some ⟨0, 0, none⟩))]
def hp10 : Sl := match aput 93 hd10 none (.tuple ⟨[]⟩) with | some s => s | none => .nil
theorem e94 : trAll (stopSt so10) hd10 bk10 = some [(symv 3, symv 3), (symv 20, symv 20), (symv 21, symv 21), (symv 22, symv 22), (symv 25, symv 25), (symv 31, symv 31), (symv 34, symv 34), (symv 37, symv 37)] := by kernel_rfl
theorem e95 : aput 93 hd10 (stopDst so10) (.tuple ⟨[]⟩) = some hp10 := by kernel_rfl
noncomputable def po10 : Array Oper := opsAt body [1, 1, 1, 1, 1, 1, 1, 1, 1, 1, 0]
noncomputable def pk10 : List KI := ksAt body [1, 1, 1, 1, 1, 1, 1, 1, 1, 1, 0] []
noncomputable def pr10 : List Oper := po10.toList.drop 16
theorem e96 : stopRest so10 = pr10 := by kernel_rfl
theorem e97 : stopOps so10 = po10 := by kernel_rfl
theorem e98 : stopKs so10 = pk10 := by kernel_rfl
theorem e99 : endVal Tryd.prog Tryd.f43 (ops' 93 F0 C0 pr10 po10 pk10 { sl := hp10, ms := [], A := mkAS bk10 }) = some (.agg ⟨[symv 3, symv 20, symv 21, symv 22, symv 25, symv 31, symv 34, symv 37]⟩) := by kernel_rfl
def F12 : List (FOp × Value) := [(.nilc (symv 0), symv 0),
    (.fa 72 (symv 0) 1, symv 15),
    (.ld 4 (symv 15), symv 39),
    (.tru (symv 39), .bool false),
    (.bin .eql 33 (.agg ⟨[symv 31, symv 34, symv 37]⟩) (.agg ⟨[.int .i64 0, .int .i64 0, .int .i64 0]⟩), .bool true)]
def C12 : List (FuncId × List Value × Value) := []
theorem e100 : stoOf (ops' 93 F12 C12 pr8 po8 pk8 { sl := hp8, ms := [], A := mkAS bk8 }) = some (4, (symv 15), (.bool true)) := by kernel_rfl
noncomputable abbrev so11 := ops' 93 F12 C12 pr8 po8 pk8 { sl := hp8, ms := [], A := mkAS bk8 }
noncomputable def bk11 : List Bk := [⟨.cells [strV [], .bool false, .bool false, .bool false, .int .i64 0, .int .i64 0, .int .i64 0, .int .i64 0], 35, 0⟩, ⟨.cells [symv 3, symv 20, symv 21, symv 22, symv 25, symv 31, symv 34, symv 37], 35, 0⟩]
def hd11 : Sl := slots [(5, .pointer (some ⟨1, 0, none⟩)), (2, .pointer (some ⟨0, 0, none⟩)), (0, symv 0)]
def hp11 : Sl := match aput 93 hd11 none (.tuple ⟨[]⟩) with | some s => s | none => .nil
theorem e101 : trAll (stopSt so11) hd11 bk11 = some [(symv 0, symv 0), (symv 3, symv 3), (symv 20, symv 20), (symv 21, symv 21), (symv 22, symv 22), (symv 25, symv 25), (symv 31, symv 31), (symv 34, symv 34), (symv 37, symv 37)] := by kernel_rfl
theorem e102 : aput 93 hd11 (stopDst so11) (.tuple ⟨[]⟩) = some hp11 := by kernel_rfl
noncomputable def po11 : Array Oper := opsAt body [1, 1, 1, 1, 1, 1, 1, 1, 1, 0, 1, 2, 1, 1]
noncomputable def pk11 : List KI := ksAt body [1, 1, 1, 1, 1, 1, 1, 1, 1, 0, 1, 2, 1, 1] []
noncomputable def pr11 : List Oper := po11.toList.drop 14
theorem e103 : stopRest so11 = pr11 := by kernel_rfl
theorem e104 : stopOps so11 = po11 := by kernel_rfl
theorem e105 : stopKs so11 = pk11 := by kernel_rfl
theorem e106 : stoOf (ops' 93 F11 C11 pr11 po11 pk11 { sl := hp11, ms := [], A := mkAS bk11 }) = some (4, (symv 15), (.bool true)) := by kernel_rfl
noncomputable abbrev so12 := ops' 93 F11 C11 pr11 po11 pk11 { sl := hp11, ms := [], A := mkAS bk11 }
noncomputable def bk12 : List Bk := [⟨.cells [strV [], .bool false, .bool false, .bool false, .int .i64 0, .int .i64 0, .int .i64 0, .int .i64 0], 35, 0⟩, ⟨.cells [symv 3, symv 20, symv 21, symv 22, symv 25, symv 31, symv 34, symv 37], 35, 0⟩]
def hd12 : Sl := slots [(5, .pointer (some ⟨1, 0, none⟩)), (2, .pointer (some ⟨0, 0, none⟩))]
def hp12 : Sl := match aput 93 hd12 none (.tuple ⟨[]⟩) with | some s => s | none => .nil
theorem e107 : trAll (stopSt so12) hd12 bk12 = some [(symv 3, symv 3), (symv 20, symv 20), (symv 21, symv 21), (symv 22, symv 22), (symv 25, symv 25), (symv 31, symv 31), (symv 34, symv 34), (symv 37, symv 37)] := by kernel_rfl
theorem e108 : aput 93 hd12 (stopDst so12) (.tuple ⟨[]⟩) = some hp12 := by kernel_rfl
noncomputable def po12 : Array Oper := opsAt body [1, 1, 1, 1, 1, 1, 1, 1, 1, 1, 0]
noncomputable def pk12 : List KI := ksAt body [1, 1, 1, 1, 1, 1, 1, 1, 1, 1, 0] []
noncomputable def pr12 : List Oper := po12.toList.drop 16
theorem e109 : stopRest so12 = pr12 := by kernel_rfl
theorem e110 : stopOps so12 = po12 := by kernel_rfl
theorem e111 : stopKs so12 = pk12 := by kernel_rfl
theorem e112 : endVal Tryd.prog Tryd.f43 (ops' 93 F0 C0 pr12 po12 pk12 { sl := hp12, ms := [], A := mkAS bk12 }) = some (.agg ⟨[symv 3, symv 20, symv 21, symv 22, symv 25, symv 31, symv 34, symv 37]⟩) := by kernel_rfl
def F13 : List (FOp × Value) := [(.nilc (symv 0), symv 0),
    (.fa 72 (symv 0) 1, symv 15),
    (.ld 4 (symv 15), symv 39),
    (.tru (symv 39), .bool false),
    (.bin .eql 33 (.agg ⟨[symv 31, symv 34, symv 37]⟩) (.agg ⟨[.int .i64 0, .int .i64 0, .int .i64 0]⟩), .bool false)]
def C13 : List (FuncId × List Value × Value) := []
theorem e113 : stoOf (ops' 93 F13 C13 pr8 po8 pk8 { sl := hp8, ms := [], A := mkAS bk8 }) = some (4, (symv 15), (.bool false)) := by kernel_rfl
noncomputable abbrev so13 := ops' 93 F13 C13 pr8 po8 pk8 { sl := hp8, ms := [], A := mkAS bk8 }
noncomputable def bk13 : List Bk := [⟨.cells [strV [], .bool false, .bool false, .bool false, .int .i64 0, .int .i64 0, .int .i64 0, .int .i64 0], 35, 0⟩, ⟨.cells [symv 3, symv 20, symv 21, symv 22, symv 25, symv 31, symv 34, symv 37], 35, 0⟩]
def hd13 : Sl := slots [(5, .pointer (some ⟨1, 0, none⟩)), (2, .pointer (some ⟨0, 0, none⟩)), (0, symv 0)]
def hp13 : Sl := match aput 93 hd13 none (.tuple ⟨[]⟩) with | some s => s | none => .nil
theorem e114 : trAll (stopSt so13) hd13 bk13 = some [(symv 0, symv 0), (symv 3, symv 3), (symv 20, symv 20), (symv 21, symv 21), (symv 22, symv 22), (symv 25, symv 25), (symv 31, symv 31), (symv 34, symv 34), (symv 37, symv 37)] := by kernel_rfl
theorem e115 : aput 93 hd13 (stopDst so13) (.tuple ⟨[]⟩) = some hp13 := by kernel_rfl
noncomputable def po13 : Array Oper := opsAt body [1, 1, 1, 1, 1, 1, 1, 1, 1, 0, 1, 2, 1, 1]
noncomputable def pk13 : List KI := ksAt body [1, 1, 1, 1, 1, 1, 1, 1, 1, 0, 1, 2, 1, 1] []
noncomputable def pr13 : List Oper := po13.toList.drop 14
theorem e116 : stopRest so13 = pr13 := by kernel_rfl
theorem e117 : stopOps so13 = po13 := by kernel_rfl
theorem e118 : stopKs so13 = pk13 := by kernel_rfl
def F14 : List (FOp × Value) := [(.nilc (symv 0), symv 0),
    (.fa 72 (symv 0) 1, symv 15),
    (.ld 4 (symv 15), .bool false),
    (.fa 72 (symv 0) 0, symv 0),
    (.ld 68 (symv 0), symv 38),
    (.len #[68] 3 (symv 38), symv 40),
    (.bin .gtr 3 (symv 40) (.int .i64 0), .bool true)]
def C14 : List (FuncId × List Value × Value) := []
theorem e119 : stoOf (ops' 93 F14 C14 pr13 po13 pk13 { sl := hp13, ms := [], A := mkAS bk13 }) = some (4, (symv 15), (.bool true)) := by kernel_rfl
noncomputable abbrev so14 := ops' 93 F14 C14 pr13 po13 pk13 { sl := hp13, ms := [], A := mkAS bk13 }
noncomputable def bk14 : List Bk := [⟨.cells [strV [], .bool false, .bool false, .bool false, .int .i64 0, .int .i64 0, .int .i64 0, .int .i64 0], 35, 0⟩, ⟨.cells [symv 3, symv 20, symv 21, symv 22, symv 25, symv 31, symv 34, symv 37], 35, 0⟩]
def hd14 : Sl := slots [(5, .pointer (some ⟨1, 0, none⟩)), (2, .pointer (some ⟨0, 0, none⟩))]
def hp14 : Sl := match aput 93 hd14 none (.tuple ⟨[]⟩) with | some s => s | none => .nil
theorem e120 : trAll (stopSt so14) hd14 bk14 = some [(symv 3, symv 3), (symv 20, symv 20), (symv 21, symv 21), (symv 22, symv 22), (symv 25, symv 25), (symv 31, symv 31), (symv 34, symv 34), (symv 37, symv 37)] := by kernel_rfl
theorem e121 : aput 93 hd14 (stopDst so14) (.tuple ⟨[]⟩) = some hp14 := by kernel_rfl
noncomputable def po14 : Array Oper := opsAt body [1, 1, 1, 1, 1, 1, 1, 1, 1, 1, 0]
noncomputable def pk14 : List KI := ksAt body [1, 1, 1, 1, 1, 1, 1, 1, 1, 1, 0] []
noncomputable def pr14 : List Oper := po14.toList.drop 16
theorem e122 : stopRest so14 = pr14 := by kernel_rfl
theorem e123 : stopOps so14 = po14 := by kernel_rfl
theorem e124 : stopKs so14 = pk14 := by kernel_rfl
theorem e125 : endVal Tryd.prog Tryd.f43 (ops' 93 F0 C0 pr14 po14 pk14 { sl := hp14, ms := [], A := mkAS bk14 }) = some (.agg ⟨[symv 3, symv 20, symv 21, symv 22, symv 25, symv 31, symv 34, symv 37]⟩) := by kernel_rfl
def F15 : List (FOp × Value) := [(.nilc (symv 0), symv 0),
    (.fa 72 (symv 0) 1, symv 15),
    (.ld 4 (symv 15), .bool false),
    (.fa 72 (symv 0) 0, symv 0),
    (.ld 68 (symv 0), symv 38),
    (.len #[68] 3 (symv 38), symv 40),
    (.bin .gtr 3 (symv 40) (.int .i64 0), .bool false)]
def C15 : List (FuncId × List Value × Value) := []
theorem e126 : stoOf (ops' 93 F15 C15 pr13 po13 pk13 { sl := hp13, ms := [], A := mkAS bk13 }) = some (4, (symv 15), (.bool false)) := by kernel_rfl
noncomputable abbrev so15 := ops' 93 F15 C15 pr13 po13 pk13 { sl := hp13, ms := [], A := mkAS bk13 }
noncomputable def bk15 : List Bk := [⟨.cells [strV [], .bool false, .bool false, .bool false, .int .i64 0, .int .i64 0, .int .i64 0, .int .i64 0], 35, 0⟩, ⟨.cells [symv 3, symv 20, symv 21, symv 22, symv 25, symv 31, symv 34, symv 37], 35, 0⟩]
def hd15 : Sl := slots [(5, .pointer (some ⟨1, 0, none⟩)), (2, .pointer (some ⟨0, 0, none⟩))]
def hp15 : Sl := match aput 93 hd15 none (.tuple ⟨[]⟩) with | some s => s | none => .nil
theorem e127 : trAll (stopSt so15) hd15 bk15 = some [(symv 3, symv 3), (symv 20, symv 20), (symv 21, symv 21), (symv 22, symv 22), (symv 25, symv 25), (symv 31, symv 31), (symv 34, symv 34), (symv 37, symv 37)] := by kernel_rfl
theorem e128 : aput 93 hd15 (stopDst so15) (.tuple ⟨[]⟩) = some hp15 := by kernel_rfl
noncomputable def po15 : Array Oper := opsAt body [1, 1, 1, 1, 1, 1, 1, 1, 1, 1, 0]
noncomputable def pk15 : List KI := ksAt body [1, 1, 1, 1, 1, 1, 1, 1, 1, 1, 0] []
noncomputable def pr15 : List Oper := po15.toList.drop 16
theorem e129 : stopRest so15 = pr15 := by kernel_rfl
theorem e130 : stopOps so15 = po15 := by kernel_rfl
theorem e131 : stopKs so15 = pk15 := by kernel_rfl
theorem e132 : endVal Tryd.prog Tryd.f43 (ops' 93 F0 C0 pr15 po15 pk15 { sl := hp15, ms := [], A := mkAS bk15 }) = some (.agg ⟨[symv 3, symv 20, symv 21, symv 22, symv 25, symv 31, symv 34, symv 37]⟩) := by kernel_rfl
def F16 : List (FOp × Value) := [(.nilc (symv 0), symv 0),
    (.fa 72 (symv 0) 0, symv 0),
    (.ld 68 (symv 0), symv 26),
    (.len #[68] 3 (symv 26), symv 28),
    (.bin .gtr 3 (symv 28) (.int .i64 0), .bool false),
    (.fa 72 (symv 0) 1, symv 15),
    (.ld 4 (symv 15), symv 27),
    (.tru (symv 27), .bool true)]
def C16 : List (FuncId × List Value × Value) := []
theorem e133 : stoOf (ops' 93 F16 C16 pr4 po4 pk4 { sl := hp4, ms := [], A := mkAS bk4 }) = some (4, (symv 15), (.bool true)) := by kernel_rfl
noncomputable abbrev so16 := ops' 93 F16 C16 pr4 po4 pk4 { sl := hp4, ms := [], A := mkAS bk4 }
noncomputable def bk16 : List Bk := [⟨.cells [strV [], .bool false, .bool false, .bool false, .int .i64 0, .int .i64 0, .int .i64 0, .int .i64 0], 35, 0⟩, ⟨.cells [symv 3, symv 20, symv 21, symv 22, symv 25, .int .i64 0, .int .i64 0, .int .i64 0], 35, 0⟩]
def hd16 : Sl := slots [(5, .pointer (some ⟨1, 0, none⟩)), (2, .pointer (some ⟨0, 0, none⟩))]
def hp16 : Sl := match aput 93 hd16 none (.tuple ⟨[]⟩) with | some s => s | none => .nil
theorem e134 : trAll (stopSt so16) hd16 bk16 = some [(symv 3, symv 3), (symv 20, symv 20), (symv 21, symv 21), (symv 22, symv 22), (symv 25, symv 25)] := by kernel_rfl
theorem e135 : aput 93 hd16 (stopDst so16) (.tuple ⟨[]⟩) = some hp16 := by kernel_rfl
noncomputable def po16 : Array Oper := opsAt body [1, 1, 1, 1, 1, 1, 1, 1, 1, 1, 0]
noncomputable def pk16 : List KI := ksAt body [1, 1, 1, 1, 1, 1, 1, 1, 1, 1, 0] []
noncomputable def pr16 : List Oper := po16.toList.drop 16
theorem e136 : stopRest so16 = pr16 := by kernel_rfl
theorem e137 : stopOps so16 = po16 := by kernel_rfl
theorem e138 : stopKs so16 = pk16 := by kernel_rfl
theorem e139 : endVal Tryd.prog Tryd.f43 (ops' 93 F0 C0 pr16 po16 pk16 { sl := hp16, ms := [], A := mkAS bk16 }) = some (.agg ⟨[symv 3, symv 20, symv 21, symv 22, symv 25, .int .i64 0, .int .i64 0, .int .i64 0]⟩) := by kernel_rfl
def F17 : List (FOp × Value) := [(.nilc (symv 0), symv 0),
    (.fa 72 (symv 0) 0, symv 0),
    (.ld 68 (symv 0), symv 26),
    (.len #[68] 3 (symv 26), symv 28),
    (.bin .gtr 3 (symv 28) (.int .i64 0), .bool false),
    (.fa 72 (symv 0) 1, symv 15),
    (.ld 4 (symv 15), symv 27),
    (.tru (symv 27), .bool false)]
def C17 : List (FuncId × List Value × Value) := []
theorem e140 : stoOf (ops' 93 F17 C17 pr4 po4 pk4 { sl := hp4, ms := [], A := mkAS bk4 }) = some (4, (symv 15), (.bool false)) := by kernel_rfl
noncomputable abbrev so17 := ops' 93 F17 C17 pr4 po4 pk4 { sl := hp4, ms := [], A := mkAS bk4 }
noncomputable def bk17 : List Bk := [⟨.cells [strV [], .bool false, .bool false, .bool false, .int .i64 0, .int .i64 0, .int .i64 0, .int .i64 0], 35, 0⟩, ⟨.cells [symv 3, symv 20, symv 21, symv 22, symv 25, .int .i64 0, .int .i64 0, .int .i64 0], 35, 0⟩]
def hd17 : Sl := slots [(5, .pointer (some ⟨1, 0, none⟩)), (2, .pointer (some ⟨0, 0, none⟩))]
def hp17 : Sl := match aput 93 hd17 none (.tuple ⟨[]⟩) with | some s => s | none => .nil
theorem e141 : trAll (stopSt so17) hd17 bk17 = some [(symv 3, symv 3), (symv 20, symv 20), (symv 21, symv 21), (symv 22, symv 22), (symv 25, symv 25)] := by kernel_rfl
theorem e142 : aput 93 hd17 (stopDst so17) (.tuple ⟨[]⟩) = some hp17 := by kernel_rfl
noncomputable def po17 : Array Oper := opsAt body [1, 1, 1, 1, 1, 1, 1, 1, 1, 1, 0]
noncomputable def pk17 : List KI := ksAt body [1, 1, 1, 1, 1, 1, 1, 1, 1, 1, 0] []
noncomputable def pr17 : List Oper := po17.toList.drop 16
theorem e143 : stopRest so17 = pr17 := by kernel_rfl
theorem e144 : stopOps so17 = po17 := by kernel_rfl
theorem e145 : stopKs so17 = pk17 := by kernel_rfl
theorem e146 : endVal Tryd.prog Tryd.f43 (ops' 93 F0 C0 pr17 po17 pk17 { sl := hp17, ms := [], A := mkAS bk17 }) = some (.agg ⟨[symv 3, symv 20, symv 21, symv 22, symv 25, .int .i64 0, .int .i64 0, .int .i64 0]⟩) := by kernel_rfl
@[reducible] noncomputable def vL (g_p : Nat) (X : Rd) (a_p : Option Addr) (c_p : Nat) (b0 : Rd) (a0 : Option Addr) (c0 : Nat) (b1 : Rd) (a1 : Option Addr) (c1 : Nat) (y : Int) (b2 : Rd) (a2 : Option Addr) (c2 : Nat) (b3 : Rd) (a3 : Option Addr) (c3 : Nat) (b4 : Rd) (a4 : Option Addr) (c4 : Nat) (b5 : Rd) (a5 : Option Addr) (c5 : Nat) (b6 : Rd) (a6 : Option Addr) (c6 : Nat) (b7 : Rd) (a7 : Option Addr) (c7 : Nat) : List Value := [.pointer (some ⟨g_p, 0, none⟩), .slice a_p X.1.length c_p, .bool X.2, strV (wordF (X.1, X.2)).1, .slice a0 b0.1.length c0, .bool b0.2, strV (wordF (b0.1, b0.2)).1, .slice a1 b1.1.length c1, .bool b1.2, .slice (some ⟨0, 0, none⟩) 4 4, .int .i64 y, .pointer (some ⟨0, 0, none⟩), .pointer (some ⟨0, 4, none⟩), .pointer (some ⟨0, 8, none⟩), .pointer (some ⟨0, 12, none⟩), .pointer (some ⟨g_p, 1, none⟩), .pointer (some ⟨0, 0 + y.toNat * 4, none⟩), .pointer (some ⟨0, 0 + y.toNat * 4 + 1, none⟩), .pointer (some ⟨0, 0 + y.toNat * 4 + 2, none⟩), .pointer (some ⟨0, 0 + y.toNat * 4 + 3, none⟩), .bool (kdAt y).2.1, .bool (kdAt y).2.2.1, .bool (kdAt y).2.2.2, .slice a2 b2.1.length c2, .bool b2.2, .int .i64 (numF (b2.1, b2.2)).1, .slice a3 b3.1.length c3, .bool b3.2, .int .i64 ((b3.1.length : Nat) : Int), .slice a4 b4.1.length c4, .bool b4.2, .int .i64 (numF (b4.1, b4.2)).1, .slice a5 b5.1.length c5, .bool b5.2, .int .i64 (numF (b5.1, b5.2)).1, .slice a6 b6.1.length c6, .bool b6.2, .int .i64 (numF (b6.1, b6.2)).1, .slice a7 b7.1.length c7, .bool b7.2, .int .i64 ((b7.1.length : Nat) : Int)]
@[reducible] noncomputable def sg (M : Mem) (g_p : Nat) (X : Rd) (a_p : Option Addr) (c_p : Nat) (b0 : Rd) (a0 : Option Addr) (c0 : Nat) (b1 : Rd) (a1 : Option Addr) (c1 : Nat) (y : Int) (b2 : Rd) (a2 : Option Addr) (c2 : Nat) (b3 : Rd) (a3 : Option Addr) (c3 : Nat) (b4 : Rd) (a4 : Option Addr) (c4 : Nat) (b5 : Rd) (a5 : Option Addr) (c5 : Nat) (b6 : Rd) (a6 : Option Addr) (c6 : Nat) (b7 : Rd) (a7 : Option Addr) (c7 : Nat) : Sig := sgL M (vL g_p X a_p c_p b0 a0 c0 b1 a1 c1 y b2 a2 c2 b3 a3 c3 b4 a4 c4 b5 a5 c5 b6 a6 c6 b7 a7 c7)
set_option maxHeartbeats 4000000 in
theorem any (W : World) {g_p : Nat} {a_p : Option Addr} {c_p : Nat} {X : Rd} (h : OBox 0 (heapOf W) (.pointer (some ⟨g_p, 0, none⟩)) tRd [.slice a_p X.1.length c_p, .bool X.2]) (hA_p : Arr (heapOf W) 1 encT (.slice a_p X.1.length c_p) X.1) (hne_p : ∀ q : Addr, a_p = some q → some q.block ≠ some g_p) (hL : LibM (heapOf W)) (hK : KindsM (heapOf W)) (hg : 7 ≤ g_p) (hlen : ∀ s ∈ X.1, s.length ≤ 1000000) : Calls Tryd.prog 43 #[.pointer (some ⟨g_p, 0, none⟩)] W fun e w' => (∃ M' cs', (e = .returned (M.val (matF X).1) ∧ RdE a_p c_p X.1 cs' (matF X).2) ∧ OBox 0 M' (.pointer (some ⟨g_p, 0, none⟩)) tRd cs' ∧ Keeps (heapOf W) M' (some g_p) ∧ ∀ i o, M' i = some o → w'.heap[i]? = some o) ∧ Low 0 W w' := by
  refine @walk_enter0 (sg (heapOf W) g_p X a_p c_p default none 0 default none 0 0 default none 0 default none 0 default none 0 default none 0 default none 0 default none 0) Tryd.prog 43 Tryd.f43 body [symv 0] (slots [(0, symv 0)]) N W _ Tryd.func43 (by kernel_rfl) (by kernel_rfl) (by kernel_rfl) (by kernel_rfl) (immW_sgL W _) fun a hh => ?_
  letI := (sg (heapOf W) g_p X a_p c_p default none 0 default none 0 0 default none 0 default none 0 default none 0 default none 0 default none 0 default none 0)
  refine walk_to (F := F0) (T := C0) (fuel := 1000) (d := 10) mixed aFn aCn ?_ hh
  obtain ⟨b0, hb0⟩ : ∃ b0 : Rd, b0 = (wordF (X.1, X.2)).2 := ⟨_, rfl⟩
  refine ostop_callW (Y := Option Addr × Nat) (vals2 := fun yV => (vL g_p X a_p c_p b0 yV.1 yV.2 default none 0 0 default none 0 default none 0 default none 0 default none 0 default none 0 default none 0)) (T := some g_p) (R := fun yV M' => OBox 0 M' (.pointer (some ⟨g_p, 0, none⟩)) tRd [.slice yV.1 b0.1.length yV.2, .bool b0.2] ∧ RdS a_p c_p X.1 yV.1 yV.2 b0.1 ∧ Keeps (heapOf W) M' (some g_p)) e0 e1 e2 rfl e3 e4 rfl (fun w hw hB => by subst hb0; exact boxR (fun _ _ => rfl) (con_word h hA_p hne_p hw)) (fun _ _ _ => (meet_cons (by exact meetV (.pointer (some ⟨g_p, 0, none⟩)) rfl rfl) (meet_cons (by exact meetV (.pointer (some ⟨g_p, 0, none⟩)) rfl rfl) (meet_cons (by exact meetV (.pointer (some ⟨g_p, 0, none⟩)) rfl rfl) meet_nil)))) ?_
  intro M0 ⟨a0, c0⟩ ⟨hX0, hS0, hK0⟩ aC w hh
  have hA0 := hS0.arr hA_p
  have hne0 := hS0.ne hne_p
  have hM0 := hK0
  have hl0 : ∀ s ∈ b0.1, s.length ≤ 1000000 := by rw [hb0]; exact fun s hs => hlen s (wordF_sub hs)
  letI := (sg M0 g_p X a_p c_p b0 a0 c0 default none 0 0 default none 0 default none 0 default none 0 default none 0 default none 0 default none 0)
  refine walk_opsE e5 e6 e7 (F := F0) (T := C0) (fuel := 1000) (d := 10) mixed aFn aCn ?_ hh
  obtain ⟨b1, hb1⟩ : ∃ b1 : Rd, b1 = (wordF (b0.1, b0.2)).2 := ⟨_, rfl⟩
  refine ostop_callW (Y := Option Addr × Nat) (vals2 := fun yV => (vL g_p X a_p c_p b0 a0 c0 b1 yV.1 yV.2 0 default none 0 default none 0 default none 0 default none 0 default none 0 default none 0)) (T := some g_p) (R := fun yV M' => OBox 0 M' (.pointer (some ⟨g_p, 0, none⟩)) tRd [.slice yV.1 b1.1.length yV.2, .bool b1.2] ∧ RdS a0 c0 b0.1 yV.1 yV.2 b1.1 ∧ Keeps M0 M' (some g_p)) e8 e9 e10 rfl e11 e12 rfl (fun w hw hB => by subst hb1; exact boxR (fun _ _ => rfl) (con_word hX0 (Arr.kept hM0 hA0 hne0) hne0 hw)) (fun _ _ _ => (meet_cons (by exact meetV (.pointer (some ⟨g_p, 0, none⟩)) rfl rfl) (meet_cons (by exact meetV (.pointer (some ⟨g_p, 0, none⟩)) rfl rfl) (meet_cons (by exact meetV (strV (wordF (X.1, X.2)).1) rfl rfl) meet_nil)))) ?_
  intro M1 ⟨a1, c1⟩ ⟨hX1, hS1, hK1⟩ aC w hh
  have hA1 := hS1.arr hA0
  have hne1 := hS1.ne hne0
  have hM1 := hM0.trans hK1
  have hl1 : ∀ s ∈ b1.1, s.length ≤ 1000000 := by rw [hb1]; exact fun s hs => hl0 s (wordF_sub hs)
  letI := (sg M1 g_p X a_p c_p b0 a0 c0 b1 a1 c1 0 default none 0 default none 0 default none 0 default none 0 default none 0 default none 0)
  refine walk_opsE e13 e14 e15 (F := F1) (T := C1) (fuel := 1000) (d := 10) mixed (aFc (FactOk.slcArr (e := 61) (sz := 4) (g := 0) (o := 0) rfl rfl (by kernel_rfl) (by kernel_rfl) rfl (by decide) rfl) aFn) aCn ?_ hh
  refine ostop_enterX (N' := 19) (n := 3) (fn := Tryd.f55) (c := bc0) (sgR := fun (y : Int) => (sg M1 g_p X a_p c_p b0 a0 c0 b1 a1 c1 y default none 0 default none 0 default none 0 default none 0 default none 0 default none 0)) (R := fun (y : Int) => y = kindIx (wordF (b0.1, b0.2)).1) (vR := symv 10) (bksR := rb0) (sl2 := rs0) (sl3 := rp0) e16 ((congrArg (fun f => Tryd.prog.funcs[f]?) e17).trans Tryd.func55) (by kernel_rfl) e18 e19 e20 e21 e22 (fun y _ => (meet_cons (by exact meetV (.pointer (some ⟨g_p, 0, none⟩)) rfl rfl) (meet_cons (by exact meetV (.pointer (some ⟨g_p, 0, none⟩)) rfl rfl) meet_nil))) ?_ ?_
  · intro φ aC w hh
    letI : Outer := ⟨φ, 3⟩
    by_cases r0 : ([103, 97, 115] : Bs) = (wordF (b0.1, b0.2)).1
    · refine walk_to (F := F2) (T := C2) (fuel := 1000) (d := 10) mixed (aFc (FactOk.len (e := 61) rfl rfl (by kernel_rfl) rfl rfl) (aFc (FactOk.ixa (e := 61) (j := 0) (n := 4) (sz := 4) rfl rfl rfl (by kernel_rfl) (by kernel_rfl) rfl rfl (by decide) rfl) (aFc (ldG (show KindsM _ by first | exact hK | exact hK.kept (by assumption) hg) (o := 0) (n := 4) rfl rfl (by kernel_rfl) (by kernel_rfl) rfl rfl rfl rfl) (aFc (FactOk.strEqT rfl rfl rfl rfl r0) aFn)))) aCn ?_ hh
      exact ostop_ret (s1 := (sg M1 g_p X a_p c_p b0 a0 c0 b1 a1 c1 0 default none 0 default none 0 default none 0 default none 0 default none 0 default none 0)) (sgR := fun (y : Int) => (sg M1 g_p X a_p c_p b0 a0 c0 b1 a1 c1 y default none 0 default none 0 default none 0 default none 0 default none 0 default none 0)) (R := fun (y : Int) => y = kindIx (wordF (b0.1, b0.2)).1) 0 e27 (meet_cons (by first | rfl | exact meetInt (by omega)) (meet_cons (by exact meetV (strV (wordF (X.1, X.2)).1) rfl rfl) (meet_cons (by exact meetV (strV (wordF (b0.1, b0.2)).1) rfl rfl) meet_nil))) (fun _ _ h => h) (by first | exact (kindIx_0 (by assumption)).symm | exact (kindIx_1 (by assumption) (by assumption)).symm | exact (kindIx_2 (by assumption) (by assumption) (by assumption)).symm | exact (kindIx_3 (by assumption) (by assumption) (by assumption) (by assumption)).symm | exact (kindIx_4 (by assumption) (by assumption) (by assumption) (by assumption)).symm) (Nat.le_of_ble_eq_true rfl) ⟨trivial, ⟨trivial, ⟨trivial, trivial⟩⟩⟩
    · by_cases r1 : ([115, 111, 108, 105, 100] : Bs) = (wordF (b0.1, b0.2)).1
      · refine walk_to (F := F3) (T := C3) (fuel := 1000) (d := 10) mixed (aFc (FactOk.len (e := 61) rfl rfl (by kernel_rfl) rfl rfl) (aFc (FactOk.ixa (e := 61) (j := 0) (n := 4) (sz := 4) rfl rfl rfl (by kernel_rfl) (by kernel_rfl) rfl rfl (by decide) rfl) (aFc (ldG (show KindsM _ by first | exact hK | exact hK.kept (by assumption) hg) (o := 0) (n := 4) rfl rfl (by kernel_rfl) (by kernel_rfl) rfl rfl rfl rfl) (aFc (FactOk.strEqF rfl rfl rfl rfl r0) (aFc (FactOk.ixa (e := 61) (j := 1) (n := 4) (sz := 4) rfl rfl rfl (by kernel_rfl) (by kernel_rfl) rfl rfl (by decide) rfl) (aFc (ldG (show KindsM _ by first | exact hK | exact hK.kept (by assumption) hg) (o := 4) (n := 4) rfl rfl (by kernel_rfl) (by kernel_rfl) rfl rfl rfl rfl) (aFc (FactOk.strEqT rfl rfl rfl rfl r1) aFn))))))) aCn ?_ hh
        exact ostop_ret (s1 := (sg M1 g_p X a_p c_p b0 a0 c0 b1 a1 c1 0 default none 0 default none 0 default none 0 default none 0 default none 0 default none 0)) (sgR := fun (y : Int) => (sg M1 g_p X a_p c_p b0 a0 c0 b1 a1 c1 y default none 0 default none 0 default none 0 default none 0 default none 0 default none 0)) (R := fun (y : Int) => y = kindIx (wordF (b0.1, b0.2)).1) 1 e28 (meet_cons (by first | rfl | exact meetInt (by omega)) (meet_cons (by exact meetV (strV (wordF (X.1, X.2)).1) rfl rfl) (meet_cons (by exact meetV (strV (wordF (b0.1, b0.2)).1) rfl rfl) meet_nil))) (fun _ _ h => h) (by first | exact (kindIx_0 (by assumption)).symm | exact (kindIx_1 (by assumption) (by assumption)).symm | exact (kindIx_2 (by assumption) (by assumption) (by assumption)).symm | exact (kindIx_3 (by assumption) (by assumption) (by assumption) (by assumption)).symm | exact (kindIx_4 (by assumption) (by assumption) (by assumption) (by assumption)).symm) (Nat.le_of_ble_eq_true rfl) ⟨trivial, ⟨trivial, ⟨trivial, trivial⟩⟩⟩
      · by_cases r2 : ([102, 97, 108, 108, 105, 110, 103] : Bs) = (wordF (b0.1, b0.2)).1
        · refine walk_to (F := F4) (T := C4) (fuel := 1000) (d := 10) mixed (aFc (FactOk.len (e := 61) rfl rfl (by kernel_rfl) rfl rfl) (aFc (FactOk.ixa (e := 61) (j := 0) (n := 4) (sz := 4) rfl rfl rfl (by kernel_rfl) (by kernel_rfl) rfl rfl (by decide) rfl) (aFc (ldG (show KindsM _ by first | exact hK | exact hK.kept (by assumption) hg) (o := 0) (n := 4) rfl rfl (by kernel_rfl) (by kernel_rfl) rfl rfl rfl rfl) (aFc (FactOk.strEqF rfl rfl rfl rfl r0) (aFc (FactOk.ixa (e := 61) (j := 1) (n := 4) (sz := 4) rfl rfl rfl (by kernel_rfl) (by kernel_rfl) rfl rfl (by decide) rfl) (aFc (ldG (show KindsM _ by first | exact hK | exact hK.kept (by assumption) hg) (o := 4) (n := 4) rfl rfl (by kernel_rfl) (by kernel_rfl) rfl rfl rfl rfl) (aFc (FactOk.strEqF rfl rfl rfl rfl r1) (aFc (FactOk.ixa (e := 61) (j := 2) (n := 4) (sz := 4) rfl rfl rfl (by kernel_rfl) (by kernel_rfl) rfl rfl (by decide) rfl) (aFc (ldG (show KindsM _ by first | exact hK | exact hK.kept (by assumption) hg) (o := 8) (n := 4) rfl rfl (by kernel_rfl) (by kernel_rfl) rfl rfl rfl rfl) (aFc (FactOk.strEqT rfl rfl rfl rfl r2) aFn)))))))))) aCn ?_ hh
          exact ostop_ret (s1 := (sg M1 g_p X a_p c_p b0 a0 c0 b1 a1 c1 0 default none 0 default none 0 default none 0 default none 0 default none 0 default none 0)) (sgR := fun (y : Int) => (sg M1 g_p X a_p c_p b0 a0 c0 b1 a1 c1 y default none 0 default none 0 default none 0 default none 0 default none 0 default none 0)) (R := fun (y : Int) => y = kindIx (wordF (b0.1, b0.2)).1) 2 e29 (meet_cons (by first | rfl | exact meetInt (by omega)) (meet_cons (by exact meetV (strV (wordF (X.1, X.2)).1) rfl rfl) (meet_cons (by exact meetV (strV (wordF (b0.1, b0.2)).1) rfl rfl) meet_nil))) (fun _ _ h => h) (by first | exact (kindIx_0 (by assumption)).symm | exact (kindIx_1 (by assumption) (by assumption)).symm | exact (kindIx_2 (by assumption) (by assumption) (by assumption)).symm | exact (kindIx_3 (by assumption) (by assumption) (by assumption) (by assumption)).symm | exact (kindIx_4 (by assumption) (by assumption) (by assumption) (by assumption)).symm) (Nat.le_of_ble_eq_true rfl) ⟨trivial, ⟨trivial, ⟨trivial, trivial⟩⟩⟩
        · by_cases r3 : ([108, 105, 113, 117, 105, 100] : Bs) = (wordF (b0.1, b0.2)).1
          · refine walk_to (F := F5) (T := C5) (fuel := 1000) (d := 10) mixed (aFc (FactOk.len (e := 61) rfl rfl (by kernel_rfl) rfl rfl) (aFc (FactOk.ixa (e := 61) (j := 0) (n := 4) (sz := 4) rfl rfl rfl (by kernel_rfl) (by kernel_rfl) rfl rfl (by decide) rfl) (aFc (ldG (show KindsM _ by first | exact hK | exact hK.kept (by assumption) hg) (o := 0) (n := 4) rfl rfl (by kernel_rfl) (by kernel_rfl) rfl rfl rfl rfl) (aFc (FactOk.strEqF rfl rfl rfl rfl r0) (aFc (FactOk.ixa (e := 61) (j := 1) (n := 4) (sz := 4) rfl rfl rfl (by kernel_rfl) (by kernel_rfl) rfl rfl (by decide) rfl) (aFc (ldG (show KindsM _ by first | exact hK | exact hK.kept (by assumption) hg) (o := 4) (n := 4) rfl rfl (by kernel_rfl) (by kernel_rfl) rfl rfl rfl rfl) (aFc (FactOk.strEqF rfl rfl rfl rfl r1) (aFc (FactOk.ixa (e := 61) (j := 2) (n := 4) (sz := 4) rfl rfl rfl (by kernel_rfl) (by kernel_rfl) rfl rfl (by decide) rfl) (aFc (ldG (show KindsM _ by first | exact hK | exact hK.kept (by assumption) hg) (o := 8) (n := 4) rfl rfl (by kernel_rfl) (by kernel_rfl) rfl rfl rfl rfl) (aFc (FactOk.strEqF rfl rfl rfl rfl r2) (aFc (FactOk.ixa (e := 61) (j := 3) (n := 4) (sz := 4) rfl rfl rfl (by kernel_rfl) (by kernel_rfl) rfl rfl (by decide) rfl) (aFc (ldG (show KindsM _ by first | exact hK | exact hK.kept (by assumption) hg) (o := 12) (n := 4) rfl rfl (by kernel_rfl) (by kernel_rfl) rfl rfl rfl rfl) (aFc (FactOk.strEqT rfl rfl rfl rfl r3) aFn))))))))))))) aCn ?_ hh
            exact ostop_ret (s1 := (sg M1 g_p X a_p c_p b0 a0 c0 b1 a1 c1 0 default none 0 default none 0 default none 0 default none 0 default none 0 default none 0)) (sgR := fun (y : Int) => (sg M1 g_p X a_p c_p b0 a0 c0 b1 a1 c1 y default none 0 default none 0 default none 0 default none 0 default none 0 default none 0)) (R := fun (y : Int) => y = kindIx (wordF (b0.1, b0.2)).1) 3 e30 (meet_cons (by first | rfl | exact meetInt (by omega)) (meet_cons (by exact meetV (strV (wordF (X.1, X.2)).1) rfl rfl) (meet_cons (by exact meetV (strV (wordF (b0.1, b0.2)).1) rfl rfl) meet_nil))) (fun _ _ h => h) (by first | exact (kindIx_0 (by assumption)).symm | exact (kindIx_1 (by assumption) (by assumption)).symm | exact (kindIx_2 (by assumption) (by assumption) (by assumption)).symm | exact (kindIx_3 (by assumption) (by assumption) (by assumption) (by assumption)).symm | exact (kindIx_4 (by assumption) (by assumption) (by assumption) (by assumption)).symm) (Nat.le_of_ble_eq_true rfl) ⟨trivial, ⟨trivial, ⟨trivial, trivial⟩⟩⟩
          · refine walk_to (F := F6) (T := C6) (fuel := 1000) (d := 10) mixed (aFc (FactOk.len (e := 61) rfl rfl (by kernel_rfl) rfl rfl) (aFc (FactOk.ixa (e := 61) (j := 0) (n := 4) (sz := 4) rfl rfl rfl (by kernel_rfl) (by kernel_rfl) rfl rfl (by decide) rfl) (aFc (ldG (show KindsM _ by first | exact hK | exact hK.kept (by assumption) hg) (o := 0) (n := 4) rfl rfl (by kernel_rfl) (by kernel_rfl) rfl rfl rfl rfl) (aFc (FactOk.strEqF rfl rfl rfl rfl r0) (aFc (FactOk.ixa (e := 61) (j := 1) (n := 4) (sz := 4) rfl rfl rfl (by kernel_rfl) (by kernel_rfl) rfl rfl (by decide) rfl) (aFc (ldG (show KindsM _ by first | exact hK | exact hK.kept (by assumption) hg) (o := 4) (n := 4) rfl rfl (by kernel_rfl) (by kernel_rfl) rfl rfl rfl rfl) (aFc (FactOk.strEqF rfl rfl rfl rfl r1) (aFc (FactOk.ixa (e := 61) (j := 2) (n := 4) (sz := 4) rfl rfl rfl (by kernel_rfl) (by kernel_rfl) rfl rfl (by decide) rfl) (aFc (ldG (show KindsM _ by first | exact hK | exact hK.kept (by assumption) hg) (o := 8) (n := 4) rfl rfl (by kernel_rfl) (by kernel_rfl) rfl rfl rfl rfl) (aFc (FactOk.strEqF rfl rfl rfl rfl r2) (aFc (FactOk.ixa (e := 61) (j := 3) (n := 4) (sz := 4) rfl rfl rfl (by kernel_rfl) (by kernel_rfl) rfl rfl (by decide) rfl) (aFc (ldG (show KindsM _ by first | exact hK | exact hK.kept (by assumption) hg) (o := 12) (n := 4) rfl rfl (by kernel_rfl) (by kernel_rfl) rfl rfl rfl rfl) (aFc (FactOk.strEqF rfl rfl rfl rfl r3) aFn))))))))))))) aCn ?_ hh
            exact ostop_ret (s1 := (sg M1 g_p X a_p c_p b0 a0 c0 b1 a1 c1 0 default none 0 default none 0 default none 0 default none 0 default none 0 default none 0)) (sgR := fun (y : Int) => (sg M1 g_p X a_p c_p b0 a0 c0 b1 a1 c1 y default none 0 default none 0 default none 0 default none 0 default none 0 default none 0)) (R := fun (y : Int) => y = kindIx (wordF (b0.1, b0.2)).1) (-1) e31 (meet_cons (by first | rfl | exact meetInt (by omega)) (meet_cons (by exact meetV (strV (wordF (X.1, X.2)).1) rfl rfl) (meet_cons (by exact meetV (strV (wordF (b0.1, b0.2)).1) rfl rfl) meet_nil))) (fun _ _ h => h) (by first | exact (kindIx_0 (by assumption)).symm | exact (kindIx_1 (by assumption) (by assumption)).symm | exact (kindIx_2 (by assumption) (by assumption) (by assumption)).symm | exact (kindIx_3 (by assumption) (by assumption) (by assumption) (by assumption)).symm | exact (kindIx_4 (by assumption) (by assumption) (by assumption) (by assumption)).symm) (Nat.le_of_ble_eq_true rfl) ⟨trivial, ⟨trivial, ⟨trivial, trivial⟩⟩⟩
  · intro y hY0 aC w hh
    letI := (sg M1 g_p X a_p c_p b0 a0 c0 b1 a1 c1 y default none 0 default none 0 default none 0 default none 0 default none 0 default none 0)
    by_cases r0 : y < 0
    · refine walk_opsE e23 e24 e25 (F := F7) (T := C7) (fuel := 1000) (d := 10) mixed (aFc (FactOk.bi rfl rfl rfl rfl rfl rfl (boolT (by omega))) (aFc (FactOk.nilcP rfl rfl rfl rfl) (aFc (FactOk.faB (g := g_p) (o := 0) (ty := 4) (off := 1) (m := 1) (by kernel_rfl) (by kernel_rfl) (by kernel_rfl) (by decide) rfl rfl rfl rfl) aFn))) aCn ?_ hh
      refine ostop_storeB (g := g_p) (j := 1) (u := .bool true) (cs' := [.slice a1 b1.1.length c1, .bool true]) (vals2 := (vL g_p X a_p c_p b0 a0 c0 b1 a1 c1 y default none 0 default none 0 default none 0 default none 0 default none 0 default none 0)) rfl e32 (by kernel_rfl) e33 e34 rfl rfl rfl rfl rfl rfl hX1 (by simp) (fun _ => (meet_cons (by exact meetV (.pointer (some ⟨g_p, 0, none⟩)) rfl rfl) (meet_cons (by exact meetV (.int .i64 y) rfl rfl) (meet_cons (by exact meetV (.pointer (some ⟨g_p, 0, none⟩)) rfl rfl) (meet_cons (by exact meetV (strV (wordF (X.1, X.2)).1) rfl rfl) meet_nil))))) ?_
      intro M2 hX2 hK2 aC w hh
      have hM2 := hM1.trans hK2
      letI := (sg M2 g_p X a_p c_p b0 a0 c0 b1 a1 c1 y default none 0 default none 0 default none 0 default none 0 default none 0 default none 0)
      refine walk_opsE e35 e36 e37 (F := F0) (T := C0) (fuel := 1000) (d := 10) mixed aFn aCn ?_ hh
      exact ostop_end e38 fun w2 hLow hIn => ⟨(by subst_vars; exact ⟨_, _, ⟨by first | (rw [matF_bad (by assumption)]; rfl) | (rw [matF_short (by assumption) (by assumption)]; rfl) | (rw [matF_long (by assumption) (by assumption)]; rfl), by first | (rw [matF_bad (by assumption)]; exact ⟨_, _, rfl, hS0.trans hS1⟩) | (rw [matF_short (by assumption) (by assumption)]; exact ⟨_, _, by first | exact congrArg (fun z => [Value.slice _ _ _, Value.bool z]) (boolS (by assumption)) | exact congrArg (fun z => [Value.slice _ _ _, Value.bool z]) (boolS' (by assumption)), hS0.trans (hS1.trans (hS2.trans hS3))⟩) | (rw [matF_long (by assumption) (by assumption)]; exact ⟨_, _, by first | exact congrArg (fun z => [Value.slice _ _ _, Value.bool z]) (boolL1 (by assumption)) | exact congrArg (fun z => [Value.slice _ _ _, Value.bool z]) (boolL2 (by assumption) (by assumption)) | exact congrArg (fun z => [Value.slice _ _ _, Value.bool z]) (boolL3 (by assumption) (by assumption) (by assumption)) | exact congrArg (fun z => [Value.slice _ _ _, Value.bool z]) (boolL4 (by assumption) (by assumption) (by assumption)), hS0.trans (hS1.trans (hS2.trans (hS3.trans (hS4.trans (hS5.trans (hS6.trans hS7))))))⟩)⟩, hX2, hM2, hIn⟩), hLow⟩
    · refine walk_opsE e23 e24 e25 (F := F8) (T := C8) (fuel := 1000) (d := 10) mixed (aFc (FactOk.bi rfl rfl rfl rfl rfl rfl (boolF (by omega))) (aFc (FactOk.ixaPO (g := 0) (o := 0) (j := y.toNat) (n := 4) (e := 61) (sz := 4) rfl rfl rfl (by kernel_rfl) (by kernel_rfl) rfl (natI (by omega)) (show y.toNat < 4 by have := kindIx_lt (wordF (b0.1, b0.2)).1; omega) rfl) (aFc (faG (g := 0) (o := 0 + y.toNat * 4) (ty := 4) (off := 1) (m := 1) (by kernel_rfl) (by kernel_rfl) (by kernel_rfl) (by decide) rfl rfl rfl rfl) (aFc (faG (g := 0) (o := 0 + y.toNat * 4) (ty := 4) (off := 2) (m := 1) (by kernel_rfl) (by kernel_rfl) (by kernel_rfl) (by decide) rfl rfl rfl rfl) (aFc (faG (g := 0) (o := 0 + y.toNat * 4) (ty := 4) (off := 3) (m := 1) (by kernel_rfl) (by kernel_rfl) (by kernel_rfl) (by decide) rfl rfl rfl rfl) (aFc (ldKd1 rfl rfl rfl rfl (by first | exact hK | exact hK.kept (by assumption) hg) (by have := kindIx_lt (wordF (b0.1, b0.2)).1; omega)) (aFc (ldKd2 rfl rfl rfl rfl (by first | exact hK | exact hK.kept (by assumption) hg) (by have := kindIx_lt (wordF (b0.1, b0.2)).1; omega)) (aFc (ldKd3 rfl rfl rfl rfl (by first | exact hK | exact hK.kept (by assumption) hg) (by have := kindIx_lt (wordF (b0.1, b0.2)).1; omega)) aFn)))))))) aCn ?_ hh
      obtain ⟨b2, hb2⟩ : ∃ b2 : Rd, b2 = isF ([102, 97, 100, 101] : Bs) (b1.1, b1.2) := ⟨_, rfl⟩
      refine ostop_callW (Y := Option Addr × Nat) (vals2 := fun yV => (vL g_p X a_p c_p b0 a0 c0 b1 a1 c1 y b2 yV.1 yV.2 default none 0 default none 0 default none 0 default none 0 default none 0)) (T := some g_p) (R := fun yV M' => OBox 0 M' (.pointer (some ⟨g_p, 0, none⟩)) tRd [.slice yV.1 b2.1.length yV.2, .bool b2.2] ∧ RdS a1 c1 b1.1 yV.1 yV.2 b2.1 ∧ Keeps M1 M' (some g_p)) e39 e40 e41 rfl e42 e43 rfl (fun w hw hB => by subst hb2; exact boxR (fun _ _ => rfl) (con_is ([102, 97, 100, 101] : Bs) hX1 (Arr.kept hM1 hA1 hne1) hne1 hw)) (fun _ _ _ => (meet_cons (by exact meetV (.pointer (some ⟨g_p, 0, none⟩)) rfl rfl) (meet_cons (by exact meetV (.pointer (some ⟨g_p, 0, none⟩)) rfl rfl) (meet_cons (by exact meetV (strV (wordF (X.1, X.2)).1) rfl rfl) (meet_cons (by exact meetV (.bool (kdAt y).2.1) rfl rfl) (meet_cons (by exact meetV (.bool (kdAt y).2.2.1) rfl rfl) (meet_cons (by exact meetV (.bool (kdAt y).2.2.2) rfl rfl) meet_nil))))))) ?_
      intro M2 ⟨a2, c2⟩ ⟨hX2, hS2, hK2⟩ aC w hh
      have hA2 := hS2.arr hA1
      have hne2 := hS2.ne hne1
      have hM2 := hM1.trans hK2
      have hl2 : ∀ s ∈ b2.1, s.length ≤ 1000000 := by rw [hb2]; exact fun s hs => hl1 s (isF_sub hs)
      letI := (sg M2 g_p X a_p c_p b0 a0 c0 b1 a1 c1 y b2 a2 c2 default none 0 default none 0 default none 0 default none 0 default none 0)
      refine walk_opsE e44 e45 e46 (F := F0) (T := C0) (fuel := 1000) (d := 10) mixed aFn aCn ?_ hh
      obtain ⟨b3, hb3⟩ : ∃ b3 : Rd, b3 = (numF (b2.1, b2.2)).2 := ⟨_, rfl⟩
      refine ostop_callW (Y := Option Addr × Nat) (vals2 := fun yV => (vL g_p X a_p c_p b0 a0 c0 b1 a1 c1 y b2 a2 c2 b3 yV.1 yV.2 default none 0 default none 0 default none 0 default none 0)) (T := some g_p) (R := fun yV M' => OBox 0 M' (.pointer (some ⟨g_p, 0, none⟩)) tRd [.slice yV.1 b3.1.length yV.2, .bool b3.2] ∧ RdS a2 c2 b2.1 yV.1 yV.2 b3.1 ∧ Keeps M2 M' (some g_p)) e47 e48 e49 rfl e50 e51 rfl (fun w hw hB => by subst hb3; exact boxR (fun _ _ => rfl) (con_num hX2 (Arr.kept hM2 hA2 hne2) hne2 hw (by first | exact hL | exact hL.kept (by assumption) hg) hg hl2)) (fun _ _ _ => (meet_cons (by exact meetV (.pointer (some ⟨g_p, 0, none⟩)) rfl rfl) (meet_cons (by exact meetV (.pointer (some ⟨g_p, 0, none⟩)) rfl rfl) (meet_cons (by exact meetV (strV (wordF (X.1, X.2)).1) rfl rfl) (meet_cons (by exact meetV (.bool (kdAt y).2.1) rfl rfl) (meet_cons (by exact meetV (.bool (kdAt y).2.2.1) rfl rfl) (meet_cons (by exact meetV (.bool (kdAt y).2.2.2) rfl rfl) meet_nil))))))) ?_
      intro M3 ⟨a3, c3⟩ ⟨hX3, hS3, hK3⟩ aC w hh
      have hA3 := hS3.arr hA2
      have hne3 := hS3.ne hne2
      have hM3 := hM2.trans hK3
      have hl3 : ∀ s ∈ b3.1, s.length ≤ 1000000 := by rw [hb3]; exact fun s hs => hl2 s (numF_sub hs)
      letI := (sg M3 g_p X a_p c_p b0 a0 c0 b1 a1 c1 y b2 a2 c2 b3 a3 c3 default none 0 default none 0 default none 0 default none 0)
      by_cases v0 : 0 < ((b3.1.length : Nat) : Int)
      · refine walk_opsE e52 e53 e54 (F := F9) (T := C9) (fuel := 1000) (d := 10) mixed (aFc (FactOk.nilcP rfl rfl rfl rfl) (aFc (FactOk.faB (g := g_p) (o := 0) (ty := 68) (off := 0) (m := 1) (by kernel_rfl) (by kernel_rfl) (by kernel_rfl) (by decide) rfl rfl rfl rfl) (aFc (FactOk.boxLd (g := g_p) (j := 0) hX3 rfl rfl rfl (by kernel_rfl) rfl rfl) (aFc (FactOk.arrLen (Arr.kept hM3 hA3 hne3) rfl rfl underTl rfl rfl) (aFc (FactOk.bi rfl rfl rfl rfl rfl rfl (boolT (by omega))) aFn))))) aCn ?_ hh
        obtain ⟨b4, hb4⟩ : ∃ b4 : Rd, b4 = isF ([101, 109, 105, 116] : Bs) (b3.1, b3.2) := ⟨_, rfl⟩
        refine ostop_callW (Y := Option Addr × Nat) (vals2 := fun yV => (vL g_p X a_p c_p b0 a0 c0 b1 a1 c1 y b2 a2 c2 b3 a3 c3 b4 yV.1 yV.2 default none 0 default none 0 default none 0)) (T := some g_p) (R := fun yV M' => OBox 0 M' (.pointer (some ⟨g_p, 0, none⟩)) tRd [.slice yV.1 b4.1.length yV.2, .bool b4.2] ∧ RdS a3 c3 b3.1 yV.1 yV.2 b4.1 ∧ Keeps M3 M' (some g_p)) e55 e56 e57 rfl e58 e59 rfl (fun w hw hB => by subst hb4; exact boxR (fun _ _ => rfl) (con_is ([101, 109, 105, 116] : Bs) hX3 (Arr.kept hM3 hA3 hne3) hne3 hw)) (fun _ _ _ => (meet_cons (by exact meetV (.pointer (some ⟨g_p, 0, none⟩)) rfl rfl) (meet_cons (by exact meetV (.pointer (some ⟨g_p, 0, none⟩)) rfl rfl) (meet_cons (by exact meetV (strV (wordF (X.1, X.2)).1) rfl rfl) (meet_cons (by exact meetV (.bool (kdAt y).2.1) rfl rfl) (meet_cons (by exact meetV (.bool (kdAt y).2.2.1) rfl rfl) (meet_cons (by exact meetV (.bool (kdAt y).2.2.2) rfl rfl) (meet_cons (by exact meetV (.int .i64 (numF (b2.1, b2.2)).1) rfl rfl) meet_nil)))))))) ?_
        intro M4 ⟨a4, c4⟩ ⟨hX4, hS4, hK4⟩ aC w hh
        have hA4 := hS4.arr hA3
        have hne4 := hS4.ne hne3
        have hM4 := hM3.trans hK4
        have hl4 : ∀ s ∈ b4.1, s.length ≤ 1000000 := by rw [hb4]; exact fun s hs => hl3 s (isF_sub hs)
        letI := (sg M4 g_p X a_p c_p b0 a0 c0 b1 a1 c1 y b2 a2 c2 b3 a3 c3 b4 a4 c4 default none 0 default none 0 default none 0)
        refine walk_opsE e60 e61 e62 (F := F0) (T := C0) (fuel := 1000) (d := 10) mixed aFn aCn ?_ hh
        refine walk_unroll (m := 4) (F := F0) (T := C0) (fuel := 1000) (d := 10) mixed aFn aCn ?_
        obtain ⟨b5, hb5⟩ : ∃ b5 : Rd, b5 = (numF (b4.1, b4.2)).2 := ⟨_, rfl⟩
        refine ostop_callW (Y := Option Addr × Nat) (vals2 := fun yV => (vL g_p X a_p c_p b0 a0 c0 b1 a1 c1 y b2 a2 c2 b3 a3 c3 b4 a4 c4 b5 yV.1 yV.2 default none 0 default none 0)) (T := some g_p) (R := fun yV M' => OBox 0 M' (.pointer (some ⟨g_p, 0, none⟩)) tRd [.slice yV.1 b5.1.length yV.2, .bool b5.2] ∧ RdS a4 c4 b4.1 yV.1 yV.2 b5.1 ∧ Keeps M4 M' (some g_p)) e63 e64 e65 rfl e66 e67 rfl (fun w hw hB => by subst hb5; exact boxR (fun _ _ => rfl) (con_num hX4 (Arr.kept hM4 hA4 hne4) hne4 hw (by first | exact hL | exact hL.kept (by assumption) hg) hg hl4)) (fun _ _ _ => (meet_cons (by exact meetV (.pointer (some ⟨g_p, 0, none⟩)) rfl rfl) (meet_cons (by exact meetV (.pointer (some ⟨g_p, 0, none⟩)) rfl rfl) (meet_cons (by exact meetV (.pointer (some ⟨g_p, 0, none⟩)) rfl rfl) (meet_cons (by exact meetV (strV (wordF (X.1, X.2)).1) rfl rfl) (meet_cons (by exact meetV (.bool (kdAt y).2.1) rfl rfl) (meet_cons (by exact meetV (.bool (kdAt y).2.2.1) rfl rfl) (meet_cons (by exact meetV (.bool (kdAt y).2.2.2) rfl rfl) (meet_cons (by exact meetV (.int .i64 (numF (b2.1, b2.2)).1) rfl rfl) meet_nil))))))))) ?_
        intro M5 ⟨a5, c5⟩ ⟨hX5, hS5, hK5⟩ aC w hh
        have hA5 := hS5.arr hA4
        have hne5 := hS5.ne hne4
        have hM5 := hM4.trans hK5
        have hl5 : ∀ s ∈ b5.1, s.length ≤ 1000000 := by rw [hb5]; exact fun s hs => hl4 s (numF_sub hs)
        letI := (sg M5 g_p X a_p c_p b0 a0 c0 b1 a1 c1 y b2 a2 c2 b3 a3 c3 b4 a4 c4 b5 a5 c5 default none 0 default none 0)
        refine walk_opsE e68 e69 e70 (F := F0) (T := C0) (fuel := 1000) (d := 10) mixed aFn aCn ?_ hh
        obtain ⟨b6, hb6⟩ : ∃ b6 : Rd, b6 = (numF (b5.1, b5.2)).2 := ⟨_, rfl⟩
        refine ostop_callW (Y := Option Addr × Nat) (vals2 := fun yV => (vL g_p X a_p c_p b0 a0 c0 b1 a1 c1 y b2 a2 c2 b3 a3 c3 b4 a4 c4 b5 a5 c5 b6 yV.1 yV.2 default none 0)) (T := some g_p) (R := fun yV M' => OBox 0 M' (.pointer (some ⟨g_p, 0, none⟩)) tRd [.slice yV.1 b6.1.length yV.2, .bool b6.2] ∧ RdS a5 c5 b5.1 yV.1 yV.2 b6.1 ∧ Keeps M5 M' (some g_p)) e71 e72 e73 rfl e74 e75 rfl (fun w hw hB => by subst hb6; exact boxR (fun _ _ => rfl) (con_num hX5 (Arr.kept hM5 hA5 hne5) hne5 hw (by first | exact hL | exact hL.kept (by assumption) hg) hg hl5)) (fun _ _ _ => (meet_cons (by exact meetV (.pointer (some ⟨g_p, 0, none⟩)) rfl rfl) (meet_cons (by exact meetV (.pointer (some ⟨g_p, 0, none⟩)) rfl rfl) (meet_cons (by exact meetV (.pointer (some ⟨g_p, 0, none⟩)) rfl rfl) (meet_cons (by exact meetV (.int .i64 (numF (b4.1, b4.2)).1) rfl rfl) (meet_cons (by exact meetV (strV (wordF (X.1, X.2)).1) rfl rfl) (meet_cons (by exact meetV (.bool (kdAt y).2.1) rfl rfl) (meet_cons (by exact meetV (.bool (kdAt y).2.2.1) rfl rfl) (meet_cons (by exact meetV (.bool (kdAt y).2.2.2) rfl rfl) (meet_cons (by exact meetV (.int .i64 (numF (b2.1, b2.2)).1) rfl rfl) (meet_cons (by exact meetV (.int .i64 (numF (b4.1, b4.2)).1) rfl rfl) meet_nil))))))))))) ?_
        intro M6 ⟨a6, c6⟩ ⟨hX6, hS6, hK6⟩ aC w hh
        have hA6 := hS6.arr hA5
        have hne6 := hS6.ne hne5
        have hM6 := hM5.trans hK6
        have hl6 : ∀ s ∈ b6.1, s.length ≤ 1000000 := by rw [hb6]; exact fun s hs => hl5 s (numF_sub hs)
        letI := (sg M6 g_p X a_p c_p b0 a0 c0 b1 a1 c1 y b2 a2 c2 b3 a3 c3 b4 a4 c4 b5 a5 c5 b6 a6 c6 default none 0)
        refine walk_opsE e76 e77 e78 (F := F0) (T := C0) (fuel := 1000) (d := 10) mixed aFn aCn ?_ hh
        obtain ⟨b7, hb7⟩ : ∃ b7 : Rd, b7 = (numF (b6.1, b6.2)).2 := ⟨_, rfl⟩
        refine ostop_callW (Y := Option Addr × Nat) (vals2 := fun yV => (vL g_p X a_p c_p b0 a0 c0 b1 a1 c1 y b2 a2 c2 b3 a3 c3 b4 a4 c4 b5 a5 c5 b6 a6 c6 b7 yV.1 yV.2)) (T := some g_p) (R := fun yV M' => OBox 0 M' (.pointer (some ⟨g_p, 0, none⟩)) tRd [.slice yV.1 b7.1.length yV.2, .bool b7.2] ∧ RdS a6 c6 b6.1 yV.1 yV.2 b7.1 ∧ Keeps M6 M' (some g_p)) e79 e80 e81 rfl e82 e83 rfl (fun w hw hB => by subst hb7; exact boxR (fun _ _ => rfl) (con_num hX6 (Arr.kept hM6 hA6 hne6) hne6 hw (by first | exact hL | exact hL.kept (by assumption) hg) hg hl6)) (fun _ _ _ => (meet_cons (by exact meetV (.pointer (some ⟨g_p, 0, none⟩)) rfl rfl) (meet_cons (by exact meetV (.pointer (some ⟨g_p, 0, none⟩)) rfl rfl) (meet_cons (by exact meetV (.pointer (some ⟨g_p, 0, none⟩)) rfl rfl) (meet_cons (by exact meetV (.int .i64 (numF (b5.1, b5.2)).1) rfl rfl) (meet_cons (by exact meetV (strV (wordF (X.1, X.2)).1) rfl rfl) (meet_cons (by exact meetV (.bool (kdAt y).2.1) rfl rfl) (meet_cons (by exact meetV (.bool (kdAt y).2.2.1) rfl rfl) (meet_cons (by exact meetV (.bool (kdAt y).2.2.2) rfl rfl) (meet_cons (by exact meetV (.int .i64 (numF (b2.1, b2.2)).1) rfl rfl) (meet_cons (by exact meetV (.int .i64 (numF (b4.1, b4.2)).1) rfl rfl) (meet_cons (by exact meetV (.int .i64 (numF (b5.1, b5.2)).1) rfl rfl) meet_nil)))))))))))) ?_
        intro M7 ⟨a7, c7⟩ ⟨hX7, hS7, hK7⟩ aC w hh
        have hA7 := hS7.arr hA6
        have hne7 := hS7.ne hne6
        have hM7 := hM6.trans hK7
        have hl7 : ∀ s ∈ b7.1, s.length ≤ 1000000 := by rw [hb7]; exact fun s hs => hl6 s (numF_sub hs)
        letI := (sg M7 g_p X a_p c_p b0 a0 c0 b1 a1 c1 y b2 a2 c2 b3 a3 c3 b4 a4 c4 b5 a5 c5 b6 a6 c6 b7 a7 c7)
        by_cases z0 : b7.2 = true
        · refine walk_opsE e84 e85 e86 (F := F10) (T := C10) (fuel := 1000) (d := 10) mixed (aFc (FactOk.nilcP rfl rfl rfl rfl) (aFc (FactOk.faB (g := g_p) (o := 0) (ty := 4) (off := 1) (m := 1) (by kernel_rfl) (by kernel_rfl) (by kernel_rfl) (by decide) rfl rfl rfl rfl) (aFc (FactOk.boxLd (g := g_p) (j := 1) hX7 rfl rfl rfl (by kernel_rfl) rfl rfl) (aFc (truT rfl rfl z0) aFn)))) aCn ?_ hh
          refine ostop_storeB (g := g_p) (j := 1) (u := .bool true) (cs' := [.slice a7 b7.1.length c7, .bool true]) (vals2 := (vL g_p X a_p c_p b0 a0 c0 b1 a1 c1 y b2 a2 c2 b3 a3 c3 b4 a4 c4 b5 a5 c5 b6 a6 c6 b7 a7 c7)) rfl e87 (by kernel_rfl) e88 e89 rfl rfl rfl rfl rfl rfl hX7 (by simp) (fun _ => (meet_cons (by exact meetV (.pointer (some ⟨g_p, 0, none⟩)) rfl rfl) (meet_cons (by exact meetV (strV (wordF (X.1, X.2)).1) rfl rfl) (meet_cons (by exact meetV (.bool (kdAt y).2.1) rfl rfl) (meet_cons (by exact meetV (.bool (kdAt y).2.2.1) rfl rfl) (meet_cons (by exact meetV (.bool (kdAt y).2.2.2) rfl rfl) (meet_cons (by exact meetV (.int .i64 (numF (b2.1, b2.2)).1) rfl rfl) (meet_cons (by exact meetV (.int .i64 (numF (b4.1, b4.2)).1) rfl rfl) (meet_cons (by exact meetV (.int .i64 (numF (b5.1, b5.2)).1) rfl rfl) (meet_cons (by exact meetV (.int .i64 (numF (b6.1, b6.2)).1) rfl rfl) meet_nil)))))))))) ?_
          intro M8 hX8 hK8 aC w hh
          have hM8 := hM7.trans hK8
          letI := (sg M8 g_p X a_p c_p b0 a0 c0 b1 a1 c1 y b2 a2 c2 b3 a3 c3 b4 a4 c4 b5 a5 c5 b6 a6 c6 b7 a7 c7)
          refine walk_opsE e90 e91 e92 (F := F11) (T := C11) (fuel := 1000) (d := 10) mixed (aFc (FactOk.nilcP rfl rfl rfl rfl) (aFc (FactOk.faB (g := g_p) (o := 0) (ty := 4) (off := 1) (m := 1) (by kernel_rfl) (by kernel_rfl) (by kernel_rfl) (by decide) rfl rfl rfl rfl) (aFc (FactOk.boxLd (g := g_p) (j := 1) hX8 rfl rfl rfl (by kernel_rfl) rfl rfl) aFn))) aCn ?_ hh
          refine ostop_storeB (g := g_p) (j := 1) (u := .bool true) (cs' := [.slice a7 b7.1.length c7, .bool true]) (vals2 := (vL g_p X a_p c_p b0 a0 c0 b1 a1 c1 y b2 a2 c2 b3 a3 c3 b4 a4 c4 b5 a5 c5 b6 a6 c6 b7 a7 c7)) rfl e93 (by kernel_rfl) e94 e95 rfl rfl rfl rfl rfl rfl hX8 (by simp) (fun _ => (meet_cons (by exact meetV (strV (wordF (X.1, X.2)).1) rfl rfl) (meet_cons (by exact meetV (.bool (kdAt y).2.1) rfl rfl) (meet_cons (by exact meetV (.bool (kdAt y).2.2.1) rfl rfl) (meet_cons (by exact meetV (.bool (kdAt y).2.2.2) rfl rfl) (meet_cons (by exact meetV (.int .i64 (numF (b2.1, b2.2)).1) rfl rfl) (meet_cons (by exact meetV (.int .i64 (numF (b4.1, b4.2)).1) rfl rfl) (meet_cons (by exact meetV (.int .i64 (numF (b5.1, b5.2)).1) rfl rfl) (meet_cons (by exact meetV (.int .i64 (numF (b6.1, b6.2)).1) rfl rfl) meet_nil))))))))) ?_
          intro M9 hX9 hK9 aC w hh
          have hM9 := hM8.trans hK9
          letI := (sg M9 g_p X a_p c_p b0 a0 c0 b1 a1 c1 y b2 a2 c2 b3 a3 c3 b4 a4 c4 b5 a5 c5 b6 a6 c6 b7 a7 c7)
          refine walk_opsE e96 e97 e98 (F := F0) (T := C0) (fuel := 1000) (d := 10) mixed aFn aCn ?_ hh
          exact ostop_end e99 fun w2 hLow hIn => ⟨(by subst_vars; exact ⟨_, _, ⟨by first | (rw [matF_bad (by assumption)]; rfl) | (rw [matF_short (by assumption) (by assumption)]; rfl) | (rw [matF_long (by assumption) (by assumption)]; rfl), by first | (rw [matF_bad (by assumption)]; exact ⟨_, _, rfl, hS0.trans hS1⟩) | (rw [matF_short (by assumption) (by assumption)]; exact ⟨_, _, by first | exact congrArg (fun z => [Value.slice _ _ _, Value.bool z]) (boolS (by assumption)) | exact congrArg (fun z => [Value.slice _ _ _, Value.bool z]) (boolS' (by assumption)), hS0.trans (hS1.trans (hS2.trans hS3))⟩) | (rw [matF_long (by assumption) (by assumption)]; exact ⟨_, _, by first | exact congrArg (fun z => [Value.slice _ _ _, Value.bool z]) (boolL1 (by assumption)) | exact congrArg (fun z => [Value.slice _ _ _, Value.bool z]) (boolL2 (by assumption) (by assumption)) | exact congrArg (fun z => [Value.slice _ _ _, Value.bool z]) (boolL3 (by assumption) (by assumption) (by assumption)) | exact congrArg (fun z => [Value.slice _ _ _, Value.bool z]) (boolL4 (by assumption) (by assumption) (by assumption)), hS0.trans (hS1.trans (hS2.trans (hS3.trans (hS4.trans (hS5.trans (hS6.trans hS7))))))⟩)⟩, hX9, hM9, hIn⟩), hLow⟩
        · by_cases z1 : (((numF (b4.1, b4.2)).1, (numF (b5.1, b5.2)).1, (numF (b6.1, b6.2)).1) : E3) = ((0, 0, 0) : E3)
          · refine walk_opsE e84 e85 e86 (F := F12) (T := C12) (fuel := 1000) (d := 10) mixed (aFc (FactOk.nilcP rfl rfl rfl rfl) (aFc (FactOk.faB (g := g_p) (o := 0) (ty := 4) (off := 1) (m := 1) (by kernel_rfl) (by kernel_rfl) (by kernel_rfl) (by decide) rfl rfl rfl rfl) (aFc (FactOk.boxLd (g := g_p) (j := 1) hX7 rfl rfl rfl (by kernel_rfl) rfl rfl) (aFc (truF rfl rfl z0) (aFc (eqE rfl rfl rfl rfl (decide_eq_true z1).symm) aFn))))) aCn ?_ hh
            refine ostop_storeB (g := g_p) (j := 1) (u := .bool true) (cs' := [.slice a7 b7.1.length c7, .bool true]) (vals2 := (vL g_p X a_p c_p b0 a0 c0 b1 a1 c1 y b2 a2 c2 b3 a3 c3 b4 a4 c4 b5 a5 c5 b6 a6 c6 b7 a7 c7)) rfl e100 (by kernel_rfl) e101 e102 rfl rfl rfl rfl rfl rfl hX7 (by simp) (fun _ => (meet_cons (by exact meetV (.pointer (some ⟨g_p, 0, none⟩)) rfl rfl) (meet_cons (by exact meetV (strV (wordF (X.1, X.2)).1) rfl rfl) (meet_cons (by exact meetV (.bool (kdAt y).2.1) rfl rfl) (meet_cons (by exact meetV (.bool (kdAt y).2.2.1) rfl rfl) (meet_cons (by exact meetV (.bool (kdAt y).2.2.2) rfl rfl) (meet_cons (by exact meetV (.int .i64 (numF (b2.1, b2.2)).1) rfl rfl) (meet_cons (by exact meetV (.int .i64 (numF (b4.1, b4.2)).1) rfl rfl) (meet_cons (by exact meetV (.int .i64 (numF (b5.1, b5.2)).1) rfl rfl) (meet_cons (by exact meetV (.int .i64 (numF (b6.1, b6.2)).1) rfl rfl) meet_nil)))))))))) ?_
            intro M8 hX8 hK8 aC w hh
            have hM8 := hM7.trans hK8
            letI := (sg M8 g_p X a_p c_p b0 a0 c0 b1 a1 c1 y b2 a2 c2 b3 a3 c3 b4 a4 c4 b5 a5 c5 b6 a6 c6 b7 a7 c7)
            refine walk_opsE e103 e104 e105 (F := F11) (T := C11) (fuel := 1000) (d := 10) mixed (aFc (FactOk.nilcP rfl rfl rfl rfl) (aFc (FactOk.faB (g := g_p) (o := 0) (ty := 4) (off := 1) (m := 1) (by kernel_rfl) (by kernel_rfl) (by kernel_rfl) (by decide) rfl rfl rfl rfl) (aFc (FactOk.boxLd (g := g_p) (j := 1) hX8 rfl rfl rfl (by kernel_rfl) rfl rfl) aFn))) aCn ?_ hh
            refine ostop_storeB (g := g_p) (j := 1) (u := .bool true) (cs' := [.slice a7 b7.1.length c7, .bool true]) (vals2 := (vL g_p X a_p c_p b0 a0 c0 b1 a1 c1 y b2 a2 c2 b3 a3 c3 b4 a4 c4 b5 a5 c5 b6 a6 c6 b7 a7 c7)) rfl e106 (by kernel_rfl) e107 e108 rfl rfl rfl rfl rfl rfl hX8 (by simp) (fun _ => (meet_cons (by exact meetV (strV (wordF (X.1, X.2)).1) rfl rfl) (meet_cons (by exact meetV (.bool (kdAt y).2.1) rfl rfl) (meet_cons (by exact meetV (.bool (kdAt y).2.2.1) rfl rfl) (meet_cons (by exact meetV (.bool (kdAt y).2.2.2) rfl rfl) (meet_cons (by exact meetV (.int .i64 (numF (b2.1, b2.2)).1) rfl rfl) (meet_cons (by exact meetV (.int .i64 (numF (b4.1, b4.2)).1) rfl rfl) (meet_cons (by exact meetV (.int .i64 (numF (b5.1, b5.2)).1) rfl rfl) (meet_cons (by exact meetV (.int .i64 (numF (b6.1, b6.2)).1) rfl rfl) meet_nil))))))))) ?_
            intro M9 hX9 hK9 aC w hh
            have hM9 := hM8.trans hK9
            letI := (sg M9 g_p X a_p c_p b0 a0 c0 b1 a1 c1 y b2 a2 c2 b3 a3 c3 b4 a4 c4 b5 a5 c5 b6 a6 c6 b7 a7 c7)
            refine walk_opsE e109 e110 e111 (F := F0) (T := C0) (fuel := 1000) (d := 10) mixed aFn aCn ?_ hh
            exact ostop_end e112 fun w2 hLow hIn => ⟨(by subst_vars; exact ⟨_, _, ⟨by first | (rw [matF_bad (by assumption)]; rfl) | (rw [matF_short (by assumption) (by assumption)]; rfl) | (rw [matF_long (by assumption) (by assumption)]; rfl), by first | (rw [matF_bad (by assumption)]; exact ⟨_, _, rfl, hS0.trans hS1⟩) | (rw [matF_short (by assumption) (by assumption)]; exact ⟨_, _, by first | exact congrArg (fun z => [Value.slice _ _ _, Value.bool z]) (boolS (by assumption)) | exact congrArg (fun z => [Value.slice _ _ _, Value.bool z]) (boolS' (by assumption)), hS0.trans (hS1.trans (hS2.trans hS3))⟩) | (rw [matF_long (by assumption) (by assumption)]; exact ⟨_, _, by first | exact congrArg (fun z => [Value.slice _ _ _, Value.bool z]) (boolL1 (by assumption)) | exact congrArg (fun z => [Value.slice _ _ _, Value.bool z]) (boolL2 (by assumption) (by assumption)) | exact congrArg (fun z => [Value.slice _ _ _, Value.bool z]) (boolL3 (by assumption) (by assumption) (by assumption)) | exact congrArg (fun z => [Value.slice _ _ _, Value.bool z]) (boolL4 (by assumption) (by assumption) (by assumption)), hS0.trans (hS1.trans (hS2.trans (hS3.trans (hS4.trans (hS5.trans (hS6.trans hS7))))))⟩)⟩, hX9, hM9, hIn⟩), hLow⟩
          · refine walk_opsE e84 e85 e86 (F := F13) (T := C13) (fuel := 1000) (d := 10) mixed (aFc (FactOk.nilcP rfl rfl rfl rfl) (aFc (FactOk.faB (g := g_p) (o := 0) (ty := 4) (off := 1) (m := 1) (by kernel_rfl) (by kernel_rfl) (by kernel_rfl) (by decide) rfl rfl rfl rfl) (aFc (FactOk.boxLd (g := g_p) (j := 1) hX7 rfl rfl rfl (by kernel_rfl) rfl rfl) (aFc (truF rfl rfl z0) (aFc (eqE rfl rfl rfl rfl (decide_eq_false z1).symm) aFn))))) aCn ?_ hh
            refine ostop_storeB (g := g_p) (j := 1) (u := .bool false) (cs' := [.slice a7 b7.1.length c7, .bool false]) (vals2 := (vL g_p X a_p c_p b0 a0 c0 b1 a1 c1 y b2 a2 c2 b3 a3 c3 b4 a4 c4 b5 a5 c5 b6 a6 c6 b7 a7 c7)) rfl e113 (by kernel_rfl) e114 e115 rfl rfl rfl rfl rfl rfl hX7 (by simp) (fun _ => (meet_cons (by exact meetV (.pointer (some ⟨g_p, 0, none⟩)) rfl rfl) (meet_cons (by exact meetV (strV (wordF (X.1, X.2)).1) rfl rfl) (meet_cons (by exact meetV (.bool (kdAt y).2.1) rfl rfl) (meet_cons (by exact meetV (.bool (kdAt y).2.2.1) rfl rfl) (meet_cons (by exact meetV (.bool (kdAt y).2.2.2) rfl rfl) (meet_cons (by exact meetV (.int .i64 (numF (b2.1, b2.2)).1) rfl rfl) (meet_cons (by exact meetV (.int .i64 (numF (b4.1, b4.2)).1) rfl rfl) (meet_cons (by exact meetV (.int .i64 (numF (b5.1, b5.2)).1) rfl rfl) (meet_cons (by exact meetV (.int .i64 (numF (b6.1, b6.2)).1) rfl rfl) meet_nil)))))))))) ?_
            intro M8 hX8 hK8 aC w hh
            have hM8 := hM7.trans hK8
            letI := (sg M8 g_p X a_p c_p b0 a0 c0 b1 a1 c1 y b2 a2 c2 b3 a3 c3 b4 a4 c4 b5 a5 c5 b6 a6 c6 b7 a7 c7)
            by_cases z0 : 0 < ((b7.1.length : Nat) : Int)
            · refine walk_opsE e116 e117 e118 (F := F14) (T := C14) (fuel := 1000) (d := 10) mixed (aFc (FactOk.nilcP rfl rfl rfl rfl) (aFc (FactOk.faB (g := g_p) (o := 0) (ty := 4) (off := 1) (m := 1) (by kernel_rfl) (by kernel_rfl) (by kernel_rfl) (by decide) rfl rfl rfl rfl) (aFc (FactOk.boxLd (g := g_p) (j := 1) hX8 rfl rfl rfl (by kernel_rfl) rfl rfl) (aFc (FactOk.faB (g := g_p) (o := 0) (ty := 68) (off := 0) (m := 1) (by kernel_rfl) (by kernel_rfl) (by kernel_rfl) (by decide) rfl rfl rfl rfl) (aFc (FactOk.boxLd (g := g_p) (j := 0) hX8 rfl rfl rfl (by kernel_rfl) rfl rfl) (aFc (FactOk.arrLen (Arr.kept hM8 hA7 hne7) rfl rfl underTl rfl rfl) (aFc (FactOk.bi rfl rfl rfl rfl rfl rfl (boolT (by omega))) aFn))))))) aCn ?_ hh
              refine ostop_storeB (g := g_p) (j := 1) (u := .bool true) (cs' := [.slice a7 b7.1.length c7, .bool true]) (vals2 := (vL g_p X a_p c_p b0 a0 c0 b1 a1 c1 y b2 a2 c2 b3 a3 c3 b4 a4 c4 b5 a5 c5 b6 a6 c6 b7 a7 c7)) rfl e119 (by kernel_rfl) e120 e121 rfl rfl rfl rfl rfl rfl hX8 (by simp) (fun _ => (meet_cons (by exact meetV (strV (wordF (X.1, X.2)).1) rfl rfl) (meet_cons (by exact meetV (.bool (kdAt y).2.1) rfl rfl) (meet_cons (by exact meetV (.bool (kdAt y).2.2.1) rfl rfl) (meet_cons (by exact meetV (.bool (kdAt y).2.2.2) rfl rfl) (meet_cons (by exact meetV (.int .i64 (numF (b2.1, b2.2)).1) rfl rfl) (meet_cons (by exact meetV (.int .i64 (numF (b4.1, b4.2)).1) rfl rfl) (meet_cons (by exact meetV (.int .i64 (numF (b5.1, b5.2)).1) rfl rfl) (meet_cons (by exact meetV (.int .i64 (numF (b6.1, b6.2)).1) rfl rfl) meet_nil))))))))) ?_
              intro M9 hX9 hK9 aC w hh
              have hM9 := hM8.trans hK9
              letI := (sg M9 g_p X a_p c_p b0 a0 c0 b1 a1 c1 y b2 a2 c2 b3 a3 c3 b4 a4 c4 b5 a5 c5 b6 a6 c6 b7 a7 c7)
              refine walk_opsE e122 e123 e124 (F := F0) (T := C0) (fuel := 1000) (d := 10) mixed aFn aCn ?_ hh
              exact ostop_end e125 fun w2 hLow hIn => ⟨(by subst_vars; exact ⟨_, _, ⟨by first | (rw [matF_bad (by assumption)]; rfl) | (rw [matF_short (by assumption) (by assumption)]; rfl) | (rw [matF_long (by assumption) (by assumption)]; rfl), by first | (rw [matF_bad (by assumption)]; exact ⟨_, _, rfl, hS0.trans hS1⟩) | (rw [matF_short (by assumption) (by assumption)]; exact ⟨_, _, by first | exact congrArg (fun z => [Value.slice _ _ _, Value.bool z]) (boolS (by assumption)) | exact congrArg (fun z => [Value.slice _ _ _, Value.bool z]) (boolS' (by assumption)), hS0.trans (hS1.trans (hS2.trans hS3))⟩) | (rw [matF_long (by assumption) (by assumption)]; exact ⟨_, _, by first | exact congrArg (fun z => [Value.slice _ _ _, Value.bool z]) (boolL1 (by assumption)) | exact congrArg (fun z => [Value.slice _ _ _, Value.bool z]) (boolL2 (by assumption) (by assumption)) | exact congrArg (fun z => [Value.slice _ _ _, Value.bool z]) (boolL3 (by assumption) (by assumption) (by assumption)) | exact congrArg (fun z => [Value.slice _ _ _, Value.bool z]) (boolL4 (by assumption) (by assumption) (by assumption)), hS0.trans (hS1.trans (hS2.trans (hS3.trans (hS4.trans (hS5.trans (hS6.trans hS7))))))⟩)⟩, hX9, hM9, hIn⟩), hLow⟩
            · refine walk_opsE e116 e117 e118 (F := F15) (T := C15) (fuel := 1000) (d := 10) mixed (aFc (FactOk.nilcP rfl rfl rfl rfl) (aFc (FactOk.faB (g := g_p) (o := 0) (ty := 4) (off := 1) (m := 1) (by kernel_rfl) (by kernel_rfl) (by kernel_rfl) (by decide) rfl rfl rfl rfl) (aFc (FactOk.boxLd (g := g_p) (j := 1) hX8 rfl rfl rfl (by kernel_rfl) rfl rfl) (aFc (FactOk.faB (g := g_p) (o := 0) (ty := 68) (off := 0) (m := 1) (by kernel_rfl) (by kernel_rfl) (by kernel_rfl) (by decide) rfl rfl rfl rfl) (aFc (FactOk.boxLd (g := g_p) (j := 0) hX8 rfl rfl rfl (by kernel_rfl) rfl rfl) (aFc (FactOk.arrLen (Arr.kept hM8 hA7 hne7) rfl rfl underTl rfl rfl) (aFc (FactOk.bi rfl rfl rfl rfl rfl rfl (boolF (by omega))) aFn))))))) aCn ?_ hh
              refine ostop_storeB (g := g_p) (j := 1) (u := .bool false) (cs' := [.slice a7 b7.1.length c7, .bool false]) (vals2 := (vL g_p X a_p c_p b0 a0 c0 b1 a1 c1 y b2 a2 c2 b3 a3 c3 b4 a4 c4 b5 a5 c5 b6 a6 c6 b7 a7 c7)) rfl e126 (by kernel_rfl) e127 e128 rfl rfl rfl rfl rfl rfl hX8 (by simp) (fun _ => (meet_cons (by exact meetV (strV (wordF (X.1, X.2)).1) rfl rfl) (meet_cons (by exact meetV (.bool (kdAt y).2.1) rfl rfl) (meet_cons (by exact meetV (.bool (kdAt y).2.2.1) rfl rfl) (meet_cons (by exact meetV (.bool (kdAt y).2.2.2) rfl rfl) (meet_cons (by exact meetV (.int .i64 (numF (b2.1, b2.2)).1) rfl rfl) (meet_cons (by exact meetV (.int .i64 (numF (b4.1, b4.2)).1) rfl rfl) (meet_cons (by exact meetV (.int .i64 (numF (b5.1, b5.2)).1) rfl rfl) (meet_cons (by exact meetV (.int .i64 (numF (b6.1, b6.2)).1) rfl rfl) meet_nil))))))))) ?_
              intro M9 hX9 hK9 aC w hh
              have hM9 := hM8.trans hK9
              letI := (sg M9 g_p X a_p c_p b0 a0 c0 b1 a1 c1 y b2 a2 c2 b3 a3 c3 b4 a4 c4 b5 a5 c5 b6 a6 c6 b7 a7 c7)
              refine walk_opsE e129 e130 e131 (F := F0) (T := C0) (fuel := 1000) (d := 10) mixed aFn aCn ?_ hh
              exact ostop_end e132 fun w2 hLow hIn => ⟨(by subst_vars; exact ⟨_, _, ⟨by first | (rw [matF_bad (by assumption)]; rfl) | (rw [matF_short (by assumption) (by assumption)]; rfl) | (rw [matF_long (by assumption) (by assumption)]; rfl), by first | (rw [matF_bad (by assumption)]; exact ⟨_, _, rfl, hS0.trans hS1⟩) | (rw [matF_short (by assumption) (by assumption)]; exact ⟨_, _, by first | exact congrArg (fun z => [Value.slice _ _ _, Value.bool z]) (boolS (by assumption)) | exact congrArg (fun z => [Value.slice _ _ _, Value.bool z]) (boolS' (by assumption)), hS0.trans (hS1.trans (hS2.trans hS3))⟩) | (rw [matF_long (by assumption) (by assumption)]; exact ⟨_, _, by first | exact congrArg (fun z => [Value.slice _ _ _, Value.bool z]) (boolL1 (by assumption)) | exact congrArg (fun z => [Value.slice _ _ _, Value.bool z]) (boolL2 (by assumption) (by assumption)) | exact congrArg (fun z => [Value.slice _ _ _, Value.bool z]) (boolL3 (by assumption) (by assumption) (by assumption)) | exact congrArg (fun z => [Value.slice _ _ _, Value.bool z]) (boolL4 (by assumption) (by assumption) (by assumption)), hS0.trans (hS1.trans (hS2.trans (hS3.trans (hS4.trans (hS5.trans (hS6.trans hS7))))))⟩)⟩, hX9, hM9, hIn⟩), hLow⟩
      · by_cases v1 : b3.2 = true
        · refine walk_opsE e52 e53 e54 (F := F16) (T := C16) (fuel := 1000) (d := 10) mixed (aFc (FactOk.nilcP rfl rfl rfl rfl) (aFc (FactOk.faB (g := g_p) (o := 0) (ty := 68) (off := 0) (m := 1) (by kernel_rfl) (by kernel_rfl) (by kernel_rfl) (by decide) rfl rfl rfl rfl) (aFc (FactOk.boxLd (g := g_p) (j := 0) hX3 rfl rfl rfl (by kernel_rfl) rfl rfl) (aFc (FactOk.arrLen (Arr.kept hM3 hA3 hne3) rfl rfl underTl rfl rfl) (aFc (FactOk.bi rfl rfl rfl rfl rfl rfl (boolF (by omega))) (aFc (FactOk.faB (g := g_p) (o := 0) (ty := 4) (off := 1) (m := 1) (by kernel_rfl) (by kernel_rfl) (by kernel_rfl) (by decide) rfl rfl rfl rfl) (aFc (FactOk.boxLd (g := g_p) (j := 1) hX3 rfl rfl rfl (by kernel_rfl) rfl rfl) (aFc (truT rfl rfl v1) aFn)))))))) aCn ?_ hh
          refine ostop_storeB (g := g_p) (j := 1) (u := .bool true) (cs' := [.slice a3 b3.1.length c3, .bool true]) (vals2 := (vL g_p X a_p c_p b0 a0 c0 b1 a1 c1 y b2 a2 c2 b3 a3 c3 default none 0 default none 0 default none 0 default none 0)) rfl e133 (by kernel_rfl) e134 e135 rfl rfl rfl rfl rfl rfl hX3 (by simp) (fun _ => (meet_cons (by exact meetV (strV (wordF (X.1, X.2)).1) rfl rfl) (meet_cons (by exact meetV (.bool (kdAt y).2.1) rfl rfl) (meet_cons (by exact meetV (.bool (kdAt y).2.2.1) rfl rfl) (meet_cons (by exact meetV (.bool (kdAt y).2.2.2) rfl rfl) (meet_cons (by exact meetV (.int .i64 (numF (b2.1, b2.2)).1) rfl rfl) meet_nil)))))) ?_
          intro M4 hX4 hK4 aC w hh
          have hM4 := hM3.trans hK4
          letI := (sg M4 g_p X a_p c_p b0 a0 c0 b1 a1 c1 y b2 a2 c2 b3 a3 c3 default none 0 default none 0 default none 0 default none 0)
          refine walk_opsE e136 e137 e138 (F := F0) (T := C0) (fuel := 1000) (d := 10) mixed aFn aCn ?_ hh
          exact ostop_end e139 fun w2 hLow hIn => ⟨(by subst_vars; exact ⟨_, _, ⟨by first | (rw [matF_bad (by assumption)]; rfl) | (rw [matF_short (by assumption) (by assumption)]; rfl) | (rw [matF_long (by assumption) (by assumption)]; rfl), by first | (rw [matF_bad (by assumption)]; exact ⟨_, _, rfl, hS0.trans hS1⟩) | (rw [matF_short (by assumption) (by assumption)]; exact ⟨_, _, by first | exact congrArg (fun z => [Value.slice _ _ _, Value.bool z]) (boolS (by assumption)) | exact congrArg (fun z => [Value.slice _ _ _, Value.bool z]) (boolS' (by assumption)), hS0.trans (hS1.trans (hS2.trans hS3))⟩) | (rw [matF_long (by assumption) (by assumption)]; exact ⟨_, _, by first | exact congrArg (fun z => [Value.slice _ _ _, Value.bool z]) (boolL1 (by assumption)) | exact congrArg (fun z => [Value.slice _ _ _, Value.bool z]) (boolL2 (by assumption) (by assumption)) | exact congrArg (fun z => [Value.slice _ _ _, Value.bool z]) (boolL3 (by assumption) (by assumption) (by assumption)) | exact congrArg (fun z => [Value.slice _ _ _, Value.bool z]) (boolL4 (by assumption) (by assumption) (by assumption)), hS0.trans (hS1.trans (hS2.trans (hS3.trans (hS4.trans (hS5.trans (hS6.trans hS7))))))⟩)⟩, hX4, hM4, hIn⟩), hLow⟩
        · refine walk_opsE e52 e53 e54 (F := F17) (T := C17) (fuel := 1000) (d := 10) mixed (aFc (FactOk.nilcP rfl rfl rfl rfl) (aFc (FactOk.faB (g := g_p) (o := 0) (ty := 68) (off := 0) (m := 1) (by kernel_rfl) (by kernel_rfl) (by kernel_rfl) (by decide) rfl rfl rfl rfl) (aFc (FactOk.boxLd (g := g_p) (j := 0) hX3 rfl rfl rfl (by kernel_rfl) rfl rfl) (aFc (FactOk.arrLen (Arr.kept hM3 hA3 hne3) rfl rfl underTl rfl rfl) (aFc (FactOk.bi rfl rfl rfl rfl rfl rfl (boolF (by omega))) (aFc (FactOk.faB (g := g_p) (o := 0) (ty := 4) (off := 1) (m := 1) (by kernel_rfl) (by kernel_rfl) (by kernel_rfl) (by decide) rfl rfl rfl rfl) (aFc (FactOk.boxLd (g := g_p) (j := 1) hX3 rfl rfl rfl (by kernel_rfl) rfl rfl) (aFc (truF rfl rfl v1) aFn)))))))) aCn ?_ hh
          refine ostop_storeB (g := g_p) (j := 1) (u := .bool false) (cs' := [.slice a3 b3.1.length c3, .bool false]) (vals2 := (vL g_p X a_p c_p b0 a0 c0 b1 a1 c1 y b2 a2 c2 b3 a3 c3 default none 0 default none 0 default none 0 default none 0)) rfl e140 (by kernel_rfl) e141 e142 rfl rfl rfl rfl rfl rfl hX3 (by simp) (fun _ => (meet_cons (by exact meetV (strV (wordF (X.1, X.2)).1) rfl rfl) (meet_cons (by exact meetV (.bool (kdAt y).2.1) rfl rfl) (meet_cons (by exact meetV (.bool (kdAt y).2.2.1) rfl rfl) (meet_cons (by exact meetV (.bool (kdAt y).2.2.2) rfl rfl) (meet_cons (by exact meetV (.int .i64 (numF (b2.1, b2.2)).1) rfl rfl) meet_nil)))))) ?_
          intro M4 hX4 hK4 aC w hh
          have hM4 := hM3.trans hK4
          letI := (sg M4 g_p X a_p c_p b0 a0 c0 b1 a1 c1 y b2 a2 c2 b3 a3 c3 default none 0 default none 0 default none 0 default none 0)
          refine walk_opsE e143 e144 e145 (F := F0) (T := C0) (fuel := 1000) (d := 10) mixed aFn aCn ?_ hh
          exact ostop_end e146 fun w2 hLow hIn => ⟨(by subst_vars; exact ⟨_, _, ⟨by first | (rw [matF_bad (by assumption)]; rfl) | (rw [matF_short (by assumption) (by assumption)]; rfl) | (rw [matF_long (by assumption) (by assumption)]; rfl), by first | (rw [matF_bad (by assumption)]; exact ⟨_, _, rfl, hS0.trans hS1⟩) | (rw [matF_short (by assumption) (by assumption)]; exact ⟨_, _, by first | exact congrArg (fun z => [Value.slice _ _ _, Value.bool z]) (boolS (by assumption)) | exact congrArg (fun z => [Value.slice _ _ _, Value.bool z]) (boolS' (by assumption)), hS0.trans (hS1.trans (hS2.trans hS3))⟩) | (rw [matF_long (by assumption) (by assumption)]; exact ⟨_, _, by first | exact congrArg (fun z => [Value.slice _ _ _, Value.bool z]) (boolL1 (by assumption)) | exact congrArg (fun z => [Value.slice _ _ _, Value.bool z]) (boolL2 (by assumption) (by assumption)) | exact congrArg (fun z => [Value.slice _ _ _, Value.bool z]) (boolL3 (by assumption) (by assumption) (by assumption)) | exact congrArg (fun z => [Value.slice _ _ _, Value.bool z]) (boolL4 (by assumption) (by assumption) (by assumption)), hS0.trans (hS1.trans (hS2.trans (hS3.trans (hS4.trans (hS5.trans (hS6.trans hS7))))))⟩)⟩, hX4, hM4, hIn⟩), hLow⟩
end MatG
end AE
end Go.Proofs.YtblhndlmgibljaaDoor

/- Lines and words: strings divided at a byte; strings.Split by contract. -/
namespace Go.Proofs.YtblhndlmgibljaaDoor
open Go Go.Proofs Go.RowKit
set_option maxRecDepth 100000
namespace AE
def splL (c : UInt8) : Bs → List Bs
  | [] => [[]]
  | x :: r => if x = c then [] :: splL c r else match splL c r with
    | [] => [[x]]
    | w :: ws => (x :: w) :: ws
theorem splL_ne (c : UInt8) : ∀ l : Bs, splL c l ≠ []
  | [] => by simp [splL]
  | x :: r => by
    unfold splL
    split
    · simp
    · split <;> simp
theorem splL_miss {c : UInt8} : ∀ {l : Bs}, (∀ k : Nat, l[k]? ≠ some c) → splL c l = [l]
  | [], _ => rfl
  | x :: r, h => by
    unfold splL
    rw [if_neg (fun e => h 0 (by simp [e])), splL_miss (l := r) fun k => by simpa using h (k + 1)]
theorem splL_hit {c : UInt8} : ∀ {l : Bs} {o : Nat}, l[o]? = some c → (∀ k : Nat, k < o → l[k]? ≠ some c) → splL c l = l.take o :: splL c (l.drop (o + 1))
  | [], o, h, _ => by simp at h
  | x :: r, 0, h, _ => by
    have : x = c := by simpa using h
    rw [splL, if_pos this]
    rfl
  | x :: r, o + 1, h, h2 => by
    have h1 : r[o]? = some c := by simpa using h
    have ih := splL_hit (l := r) h1 fun k hk => by simpa using h2 (k + 1) (by omega)
    rw [splL, if_neg (fun e => h2 0 (by omega) (by simp [e])), ih]
    rfl
theorem splL_len {c : UInt8} : ∀ {l s : Bs}, s ∈ splL c l → s.length ≤ l.length
  | [], s, h => by
    simp only [splL, List.mem_singleton] at h
    rw [h]
    exact Nat.le_refl _
  | x :: r, s, h => by
    unfold splL at h
    split at h
    · rcases List.mem_cons.1 h with rfl | h
      · exact Nat.zero_le _
      · exact Nat.le_succ_of_le (splL_len h)
    · split at h
      · rename_i e
        exact absurd e (splL_ne c r)
      · rename_i w ws e
        rcases List.mem_cons.1 h with rfl | h
        · have := splL_len (l := r) (s := w) (by rw [e]; exact List.mem_cons_self)
          simp only [List.length_cons]
          omega
        · exact Nat.le_succ_of_le (splL_len (by rw [e]; exact List.mem_cons_of_mem _ h))

theorem splB (c : UInt8) : ∀ (k : Nat) (s : ByteArray), Go.Lib.countB s ⟨#[c]⟩ = k → (Go.Lib.splitB ⟨#[c]⟩ 0 k s).map (fun b => b.data.toList) = splL c s.data.toList
  | 0, s, hk => by
    rcases Go.Lib.indexB_cases s ⟨#[c]⟩ with hix | ⟨i, hix, _⟩
    · have h1 : Go.Lib.indexByte s.data.toList c = -1 := by rw [← Go.Lib.index_one]; exact hix
      rw [splL_miss (Go.Lib.indexByte_none h1)]
      rfl
    · have := Go.Lib.countB_hit s ⟨#[c]⟩ i (Nat.le_refl _) hix
      omega
  | k + 1, s, hk => by
    rcases Go.Lib.indexB_cases s ⟨#[c]⟩ with hix | ⟨i, hix, hroom⟩
    · rw [Go.Lib.countB_miss s ⟨#[c]⟩ hix] at hk
      omega
    · have h1 : Go.Lib.indexByte s.data.toList c = i := by rw [← Go.Lib.index_one]; exact hix
      obtain ⟨h2, h3⟩ := Go.Lib.indexByte_some h1
      have h4 := Go.Lib.countB_hit s ⟨#[c]⟩ i (Nat.le_refl _) hix
      have hs1 : (⟨#[c]⟩ : ByteArray).size = 1 := rfl
      rw [Go.Lib.splitB_hit ⟨#[c]⟩ 0 k s i hix, List.map_cons, splB c k _ (by omega), splL_hit h2 h3, hs1]
      have hsz : s.data.toList.length = s.size := by rw [Array.length_toList]; rfl
      have e1 : (s.extract 0 (i + 0)).data.toList = s.data.toList.take i := by simp [ByteArray.data_extract]
      have e2 : (s.extract (i + 1) s.size).data.toList = s.data.toList.drop (i + 1) := by
        simp only [ByteArray.data_extract, Array.toList_extract, List.extract_eq_take_drop]
        rw [← hsz]
        exact List.take_of_length_le (by rw [List.length_drop]; exact Nat.le_refl _)
      rw [e1, e2]

def splS (s sep : Bs) : List Bs := splL (sep.headD 0) s
theorem splS_ne (s sep : Bs) : splS s sep ≠ [] := splL_ne _ _

theorem LibM.seven {W : World} (h : LibM (heapOf W)) : 7 ≤ W.heap.size := by
  obtain ⟨_, _, _, ⟨te, pe, ty, fr, h⟩⟩ := h
  have h' : W.heap[6]? = some (.cells #[.iface te pe] ty fr) := h
  have := (Array.getElem?_eq_some_iff.1 h').1
  omega

theorem con_split {s : Bs} (c : UInt8) {w : World} (hL : LibM (heapOf w)) (hs : s.length ≤ 1000000) :
    Calls Tryd.prog 42 #[strV s, strV [c]] w fun e w' => (∃ a cc, e = .returned (.slice a (splS s [c]).length cc) ∧ OArr w.heap.size (heapOf w') elT 1 encT (.slice a (splS s [c]).length cc) (splS s [c])) ∧ Low w.heap.size w w' := by
  obtain ⟨_, ⟨m, cs, ty, fr, h2, hm⟩, _⟩ := hL
  have hc : w.cell? ⟨2, 0, none⟩ = some (.int .i64 m) := by
    simp only [World.cell?, show w.heap[2]? = _ from h2]
    simpa using hm
  refine (strings_Split ⟨s.toArray⟩ ⟨[c].toArray⟩ m w (by rw [size_strV]; omega) hc (Nat.le_refl _)).mono fun e w' he => ?_
  obtain ⟨rfl, rfl⟩ := he
  have hb := splB c _ ⟨s.toArray⟩ rfl
  have hl := Go.Lib.splitB_all ⟨#[c]⟩ (Nat.le_refl _) 0 _ ⟨s.toArray⟩ rfl
  have hlen : Go.Lib.countB ⟨s.toArray⟩ ⟨#[c]⟩ + 1 = (splS s [c]).length := by
    rw [← hl, ← List.length_map (f := fun b : ByteArray => b.data.toList), hb]
    rfl
  have hlen' : Go.Lib.countB ⟨s.toArray⟩ ⟨[c].toArray⟩ + 1 = (splS s [c]).length := hlen
  refine ⟨⟨some ⟨w.heap.size, 0, none⟩, (splS s [c]).length, by rw [hlen'], ?_⟩, ⟨⟨rfl, rfl, rfl, by show _ ≤ (w.heap.push _).size; rw [Array.size_push]; exact Nat.le_succ _, fun k hk => Go.Lib.alloc_old w _ k hk⟩, Nat.le_refl _⟩⟩
  have hcells : ((Go.Lib.splitB ⟨#[c]⟩ 0 (Go.Lib.countB ⟨s.toArray⟩ ⟨#[c]⟩) ⟨s.toArray⟩).map Value.string) = (splS s [c]).flatMap encT := by
    have h1 : ∀ l : List ByteArray, l.map Value.string = (l.map fun b => b.data.toList).flatMap encT := fun l => by
      induction l with
      | nil => rfl
      | cons x r ih =>
        rw [List.map_cons, List.map_cons, List.flatMap_cons, ← ih]
        show _ = encT x.data.toList ++ _
        rw [strV_of x]
        rfl
    rw [h1, hb]
    rfl
  refine .inr ⟨w.heap.size, _, _, rfl, List.length_pos_iff.2 (splS_ne _ _), Nat.le_refl _, heap_alloc_new w _, Nat.le_refl _, ?_, ?_, ?_⟩
  · rw [← hlen]
    have := Go.Lib.countB_le ⟨#[c]⟩ (Nat.le_refl _) _ ⟨s.toArray⟩ (Nat.le_refl _)
    rw [size_strV] at this
    unfold maxLen
    omega
  · rw [List.size_toArray, List.length_map, Nat.mul_one, ← hlen]
    exact hl
  · show List.take _ (((Go.Lib.splitB ⟨#[c]⟩ 0 (Go.Lib.countB ⟨s.toArray⟩ ⟨#[c]⟩) ⟨s.toArray⟩).map Value.string)) = _
    rw [hcells, List.take_of_length_le]
    rw [flat_len (k := 1) (fun _ => rfl)]
    exact Nat.le_refl _
end AE
end Go.Proofs.YtblhndlmgibljaaDoor

/- Parse: lines, tables; the reader's material by contract; what Parse answers. -/
namespace Go.Proofs.YtblhndlmgibljaaDoor
open Go Go.Proofs Go.RowKit
set_option maxRecDepth 100000
namespace AE
theorem ne_of_own {B g : Nat} {M : Mem} {e : TypeId} {k : Nat} {α : Type} {enc : α → List Value} {a : Option Addr} {c : Nat} {l : List α} (h : OArr B M e k enc (.slice a l.length c) l) (hl : l ≠ []) (hap : ∀ i, some i = obl (.slice a l.length c) → some i ≠ some g) : ∀ q : Addr, a = some q → some q.block ≠ some g := fun q hq => by
  rcases h with ⟨a', e1, rfl⟩ | ⟨g', cap, cur, e1, h0, _⟩
  · exact absurd rfl hl
  · cases e1
    cases hq
    exact hap _ (obl_pos _ _ h0).symm
theorem con_mat {B g : Nat} {Mm : Mem} {a : Option Addr} {c : Nat} {ws : List Bs} {b : Bool} {w : World} (hO : OBox B Mm (.pointer (some ⟨g, 0, none⟩)) tRd [.slice a ws.length c, .bool b]) (hA : Arr Mm 1 encT (.slice a ws.length c) ws) (hne : ∀ q : Addr, a = some q → some q.block ≠ some g) (hw : ∀ i o, Mm i = some o → w.heap[i]? = some o) (hL : LibM Mm) (hK : KindsM Mm) (hg : 7 ≤ g) (hlen : ∀ s ∈ ws, s.length ≤ 1000000) :
    Calls Tryd.prog 43 #[.pointer (some ⟨g, 0, none⟩)] w fun e w' => ∃ a' c' M', e = .returned (M.val (matF (ws, b)).1) ∧ (OBox B M' (.pointer (some ⟨g, 0, none⟩)) tRd [.slice a' (matF (ws, b)).2.1.length c', .bool (matF (ws, b)).2.2] ∧ RdS a c ws a' c' (matF (ws, b)).2.1 ∧ Keeps Mm M' (some g)) ∧ Turns B Mm M' (some g) w w' :=
  boxCon hO hw (MatG.any w (X := (ws, b)) (hO.mono0 hw) (hA.mono hw) hne (hL.mono hw) (hK.mono hw) hg hlen)

def lnF (s : Bs) : Mt × Bool := ((matF (splS s [32], false)).1, (matF (splS s [32], false)).2.2)
def tabTo (L : List Bs) (i : Nat) : List Mt := (L.take i).map fun s => (lnF s).1
theorem tabTo_succ {L : List Bs} {i : Nat} (hi : i < L.length) : tabTo L (i + 1) = tabTo L i ++ [(lnF (L.getD i default)).1] := by
  unfold tabTo
  rw [List.take_add_one, List.map_append, List.getElem?_eq_getElem hi, List.getD_eq_getElem?_getD, List.getElem?_eq_getElem hi]
  rfl
theorem tabTo_len (L : List Bs) (i : Nat) (h : i ≤ L.length) : (tabTo L i).length = i := by
  unfold tabTo
  rw [List.length_map, List.length_take]
  omega
def parL (L : List Bs) : List Mt × Int × Int :=
  match (List.range (L.length - 1)).find? (fun i => (lnF (L.getD i default)).2) with
  | some i => ([], (i : Int) + 1, 3)
  | none => if L.getD (L.length - 1) default = [] then (if (chkM (tabTo L (L.length - 1))).2 = 0 then (tabTo L (L.length - 1), 0, 0) else ([], (chkM (tabTo L (L.length - 1))).1 + 1, (chkM (tabTo L (L.length - 1))).2)) else ([], (L.length : Int), 3)
def parM (t : Bs) : List Mt × Int × Int := parL (splS t [10])
section
variable {L : List Bs}
theorem parL_bad {i : Nat} (hi : i < L.length - 1) (h : ∀ j, j < i → ¬ (lnF (L.getD j default)).2 = true) (hb : (lnF (L.getD i default)).2 = true) : parL L = ([], (i : Int) + 1, 3) := by
  unfold parL
  rw [find_first hi (fun j hj => Bool.eq_false_iff.2 (h j hj)) hb]
theorem parL_none (h : ∀ j, j < L.length - 1 → ¬ (lnF (L.getD j default)).2 = true) : (List.range (L.length - 1)).find? (fun i => (lnF (L.getD i default)).2) = none :=
  List.find?_eq_none.2 fun j hj => by simpa using h j (by simpa using hj)
theorem parL_end (h : ∀ j, j < L.length - 1 → ¬ (lnF (L.getD j default)).2 = true) (hl : ¬ L.getD (L.length - 1) default = []) : parL L = ([], (L.length : Int), 3) := by
  unfold parL
  rw [parL_none h]
  simp only
  rw [if_neg hl]
theorem parL_chk (h : ∀ j, j < L.length - 1 → ¬ (lnF (L.getD j default)).2 = true) (hl : L.getD (L.length - 1) default = []) (hc : ¬ (chkM (tabTo L (L.length - 1))).2 = 0) : parL L = ([], (chkM (tabTo L (L.length - 1))).1 + 1, (chkM (tabTo L (L.length - 1))).2) := by
  unfold parL
  rw [parL_none h]
  simp only
  rw [if_pos hl, if_neg hc]
theorem parL_ok (h : ∀ j, j < L.length - 1 → ¬ (lnF (L.getD j default)).2 = true) (hl : L.getD (L.length - 1) default = []) (hc : (chkM (tabTo L (L.length - 1))).2 = 0) : parL L = (tabTo L (L.length - 1), 0, 0) := by
  unfold parL
  rw [parL_none h]
  simp only
  rw [if_pos hl, if_pos hc]
theorem getD_take {α : Type} {l : List α} {n i : Nat} {d : α} (h : i < n) : (l.take n).getD i d = l.getD i d := by
  rw [List.getD_eq_getElem?_getD, List.getD_eq_getElem?_getD, List.getElem?_take_of_lt h]
theorem getD_mem {α : Type} {l : List α} {i : Nat} {d : α} (h : i < l.length) : l.getD i d ∈ l := by
  rw [List.getD_eq_getElem?_getD, List.getElem?_eq_getElem h]
  exact List.getElem_mem h
end
theorem splS_len {s sep x : Bs} (h : x ∈ splS s sep) : x.length ≤ s.length := splL_len h
theorem splS_count {c : UInt8} : ∀ l : Bs, (splL c l).length ≤ l.length + 1
  | [] => by simp [splL]
  | x :: r => by
    have ih := splS_count (c := c) r
    unfold splL
    split
    · simp only [List.length_cons]; omega
    · split
      · simp
      · rename_i e
        rw [e] at ih
        simp only [List.length_cons] at ih ⊢
        omega
theorem parEnd {B : Nat} {M : Mem} {l b : List Mt} {a : Option Addr} {c : Nat} {x y x' y' : Int} {w : World} (hO : OArr B M elM 8 encM (.slice a b.length c) b) (hb : b = l) (hx : x = x') (hy : y = y') (hi : ∀ i o, M i = some o → w.heap[i]? = some o) :
    ∃ a' c', Ending.returned (.tuple #[.slice a b.length c, .int .i64 x, .int .i64 y]) = .returned (.tuple #[.slice a' l.length c', .int .i64 x', .int .i64 y']) ∧ OArr B (heapOf w) elM 8 encM (.slice a' l.length c') l := by
  subst hb hx hy
  exact ⟨a, c, rfl, hO.mono (Nat.le_refl _) fun i _ o ho => hi i o ho⟩
theorem parEnd_nil {B : Nat} {M : Mem} {l : List Mt} {x y x' y' : Int} (h : l = []) (hx : x = x') (hy : y = y') :
    ∃ a' c', Ending.returned (.tuple #[.slice none 0 0, .int .i64 x, .int .i64 y]) = .returned (.tuple #[.slice a' l.length c', .int .i64 x', .int .i64 y']) ∧ OArr B M elM 8 encM (.slice a' l.length c') l := by
  subst h hx hy
  exact ⟨none, 0, rfl, OArr.nil _ _ _ _ _ _⟩
end AE
end Go.Proofs.YtblhndlmgibljaaDoor

/- The walk of Parse. -/
namespace Go.Proofs.YtblhndlmgibljaaDoor
open Go Go.Proofs Go.RowKit
set_option maxRecDepth 100000
namespace AE
namespace ParG
noncomputable def body : Code := (Tryd.f27.body).getD .skip
def N : Nat := 61
noncomputable abbrev at' (N : Nat) (F : List (FOp × Value)) (C : List (FuncId × List Value × Value)) (c : Code) (s : ASt) : Option Stop := evalTo Tryd.prog F C N 1000 10 c s
noncomputable abbrev leave' (N : Nat) (F : List (FOp × Value)) (C : List (FuncId × List Value × Value)) (ks : List KI) (o : Option Stop) : Option Stop := evalLeave Tryd.prog F C N 1000 10 ks o
noncomputable abbrev ops' (N : Nat) (F : List (FOp × Value)) (C : List (FuncId × List Value × Value)) (r : List Oper) (ops : Array Oper) (ks : List KI) (s : ASt) : Option Stop := evalOps Tryd.prog F C N 1000 10 r ops ks s
def s0 : ASt := { sl := slots [(0, symv 0)], ms := [], A := start }
def F0 : List (FOp × Value) := [(.tru (.int .i64 72), .int .i64 72)]
def C0 : List (FuncId × List Value × Value) := []
theorem e0 : callAt Tryd.prog (at' 61 F0 C0 body s0) = some (42, [symv 0, strV [10]]) := by kernel_rfl
noncomputable abbrev so0 := at' 61 F0 C0 body s0
noncomputable def bk0 : List Bk := []
def hd0 : Sl := slots [(5, .slice none 0 0), (4, .int .i64 0), (3, .int .i64 0), (2, .slice none 0 0)]
def hp0 : Sl := match aput 61 hd0 (some 13) (symv 1) with | some s => s | none => .nil
theorem e1 : trAll (stopSt so0) hd0 bk0 = some [] := by kernel_rfl
theorem e2 : aput 61 hd0 (stopDst so0) (symv 1) = some hp0 := by kernel_rfl
noncomputable def po0 : Array Oper := opsAt body [1, 1, 0]
noncomputable def pk0 : List KI := ksAt body [1, 1, 0] []
noncomputable def pr0 : List Oper := po0.toList.drop 2
theorem e3 : stopRest so0 = pr0 := by kernel_rfl
theorem e4 : stopOps so0 = po0 := by kernel_rfl
theorem e5 : stopKs so0 = pk0 := by kernel_rfl
def F1 : List (FOp × Value) := [(.tru (.int .i64 72), .int .i64 72),
    (.len #[68] 3 (symv 1), symv 2),
    (.bin .sub 3 (symv 2) (.int .i64 1), symv 3),
    (.slc 68 (symv 1) none (some (symv 3)) none, symv 4),
    (.len #[68] 3 (symv 4), symv 5)]
def C1 : List (FuncId × List Value × Value) := []
noncomputable def bks0 : List Bk := []
def head0 : Sl := slots [(20, symv 7), (19, symv 5), (18, symv 4), (6, symv 1), (5, symv 6)]
noncomputable abbrev at0 := ops' 61 F1 C1 pr0 po0 pk0 { sl := hp0, ms := [], A := mkAS bk0 }
theorem e6 : headObs head0 bks0 at0 = some [(symv 5, symv 5), (.slice none 0 0, symv 6), (.int .i64 0, symv 7), (symv 1, symv 1), (symv 4, symv 4)] := by kernel_rfl
noncomputable def lc0 : Code := loopAt body [1, 1, 1, 0, 1, 4]
noncomputable def lk0 : List KI := ksAt body [1, 1, 1, 0, 1, 4] []
theorem e7 : stopCode at0 = lc0 := by kernel_rfl
theorem e8 : stopKs at0 = lk0 := by kernel_rfl
def F2 : List (FOp × Value) := [(.tru (.int .i64 72), .int .i64 72),
    (.bin .lss 3 (symv 7) (symv 5), .bool true),
    (.ixa 68 (symv 4) (symv 7), symv 8),
    (.ld 9 (symv 8), symv 9)]
def C2 : List (FuncId × List Value × Value) := []
theorem e9 : callAt Tryd.prog (at' 61 F2 C2 lc0 (headSt head0 bks0)) = some (42, [symv 9, strV [32]]) := by kernel_rfl
noncomputable abbrev so1 := at' 61 F2 C2 lc0 (headSt head0 bks0)
noncomputable def bk1 : List Bk := []
def hd1 : Sl := slots [(20, symv 7), (19, symv 5), (18, symv 4), (7, symv 7), (6, symv 1), (5, symv 6)]
def hp1 : Sl := match aput 61 hd1 (some 26) (symv 10) with | some s => s | none => .nil
theorem e10 : trAll (stopSt so1) hd1 bk1 = some [(symv 7, symv 7), (symv 5, symv 5), (symv 6, symv 6), (symv 7, symv 7), (symv 1, symv 1), (symv 4, symv 4)] := by kernel_rfl
theorem e11 : aput 61 hd1 (stopDst so1) (symv 10) = some hp1 := by kernel_rfl
noncomputable def po1 : Array Oper := opsAt lc0 [1, 1, 0, 4, 1, 0]
noncomputable def pk1 : List KI := ksAt lc0 [1, 1, 0, 4, 1, 0] []
noncomputable def pr1 : List Oper := po1.toList.drop 2
theorem e12 : stopRest so1 = pr1 := by kernel_rfl
theorem e13 : stopOps so1 = po1 := by kernel_rfl
theorem e14 : stopKs so1 = pk1 := by kernel_rfl
theorem e15 : boxOf (ops' 61 F0 C0 pr1 po1 pk1 { sl := hp1, ms := [], A := mkAS bk1 }) = some (72, (.agg ⟨[symv 10, .bool false]⟩)) := by kernel_rfl
noncomputable abbrev so2 := ops' 61 F0 C0 pr1 po1 pk1 { sl := hp1, ms := [], A := mkAS bk1 }
noncomputable def bk2 : List Bk := []
def hd2 : Sl := slots [(20, symv 7), (19, symv 5), (18, symv 4), (7, symv 7), (6, symv 1), (5, symv 6)]
def hp2 : Sl := match aput 61 hd2 (some 28) (symv 11) with | some s => s | none => .nil
theorem e16 : trAll (stopSt so2) hd2 bk2 = some [(symv 7, symv 7), (symv 5, symv 5), (symv 6, symv 6), (symv 7, symv 7), (symv 1, symv 1), (symv 4, symv 4)] := by kernel_rfl
theorem e17 : aput 61 hd2 (stopDst so2) (symv 11) = some hp2 := by kernel_rfl
noncomputable def po2 : Array Oper := opsAt lc0 [1, 1, 0, 4, 1, 0]
noncomputable def pk2 : List KI := ksAt lc0 [1, 1, 0, 4, 1, 0] []
noncomputable def pr2 : List Oper := po2.toList.drop 4
theorem e18 : stopRest so2 = pr2 := by kernel_rfl
theorem e19 : stopOps so2 = po2 := by kernel_rfl
theorem e20 : stopKs so2 = pk2 := by kernel_rfl
theorem e21 : (enterAt Tryd.prog (ops' 61 F0 C0 pr2 po2 pk2 { sl := hp2, ms := [], A := mkAS bk2 })).isSome = true := by kernel_rfl
theorem e22 : (enterD Tryd.prog (ops' 61 F0 C0 pr2 po2 pk2 { sl := hp2, ms := [], A := mkAS bk2 })).1 = 43 := by kernel_rfl
theorem e23 : (enterD Tryd.prog (ops' 61 F0 C0 pr2 po2 pk2 { sl := hp2, ms := [], A := mkAS bk2 })).2.1 = [symv 11] := by kernel_rfl
noncomputable abbrev so3 := ops' 61 F0 C0 pr2 po2 pk2 { sl := hp2, ms := [], A := mkAS bk2 }
noncomputable def bk3 : List Bk := []
def hd3 : Sl := slots [(29, symv 6), (20, symv 7), (19, symv 5), (18, symv 4), (9, symv 11), (7, symv 7), (6, symv 1), (5, symv 6)]
def hp3 : Sl := match aput 61 hd3 (some 31) (.agg ⟨[symv 12, symv 13, symv 14, symv 15, symv 16, symv 17, symv 18, symv 19]⟩) with | some s => s | none => .nil
theorem e24 : trAll (entSt Tryd.prog so3) hd3 bk3 = some [(symv 7, symv 7), (symv 5, symv 5), (symv 6, symv 6), (symv 11, symv 11), (symv 6, symv 6), (symv 7, symv 7), (symv 1, symv 1), (symv 4, symv 4)] := by kernel_rfl
theorem e25 : aput 61 hd3 (stopDst so3) (.agg ⟨[symv 12, symv 13, symv 14, symv 15, symv 16, symv 17, symv 18, symv 19]⟩) = some hp3 := by kernel_rfl
noncomputable def po3 : Array Oper := opsAt lc0 [1, 1, 0, 4, 1, 1, 0]
noncomputable def pk3 : List KI := ksAt lc0 [1, 1, 0, 4, 1, 1, 0] []
noncomputable def pr3 : List Oper := po3.toList.drop 3
theorem e26 : stopRest so3 = pr3 := by kernel_rfl
theorem e27 : stopOps so3 = po3 := by kernel_rfl
theorem e28 : stopKs so3 = pk3 := by kernel_rfl
theorem e29 : cellsAt (stopSt (ops' 61 F0 C0 pr3 po3 pk3 { sl := hp3, ms := [], A := mkAS bk3 })).A 8 (.slice (some ⟨0, 0, none⟩) 1 1) = some [symv 12, symv 13, symv 14, symv 15, symv 16, symv 17, symv 18, symv 19] := by kernel_rfl
theorem e30 : appOf 22 (ops' 61 F0 C0 pr3 po3 pk3 { sl := hp3, ms := [], A := mkAS bk3 }) = some (symv 6, .slice (some ⟨0, 0, none⟩) 1 1) := by kernel_rfl
noncomputable abbrev so4 := ops' 61 F0 C0 pr3 po3 pk3 { sl := hp3, ms := [], A := mkAS bk3 }
noncomputable def bk4 : List Bk := []
def hd4 : Sl := slots [(20, symv 7), (19, symv 5), (18, symv 4), (9, symv 11), (7, symv 7), (6, symv 1), (5, symv 6)]
def hp4 : Sl := match aput 61 hd4 (some 33) (symv 22) with | some s => s | none => .nil
theorem e31 : trAll (stopSt so4) hd4 bk4 = some [(symv 7, symv 7), (symv 5, symv 5), (symv 6, symv 6), (symv 11, symv 11), (symv 7, symv 7), (symv 1, symv 1), (symv 4, symv 4)] := by kernel_rfl
theorem e32 : aput 61 hd4 (stopDst so4) (symv 22) = some hp4 := by kernel_rfl
noncomputable def po4 : Array Oper := opsAt lc0 [1, 1, 0, 4, 1, 1, 0]
noncomputable def pk4 : List KI := ksAt lc0 [1, 1, 0, 4, 1, 1, 0] []
noncomputable def pr4 : List Oper := po4.toList.drop 5
theorem e33 : stopRest so4 = pr4 := by kernel_rfl
theorem e34 : stopOps so4 = po4 := by kernel_rfl
theorem e35 : stopKs so4 = pk4 := by kernel_rfl
def F3 : List (FOp × Value) := [(.tru (.int .i64 72), .int .i64 72),
    (.nilc (symv 11), symv 11),
    (.fa 72 (symv 11) 1, symv 23),
    (.ld 4 (symv 23), symv 21),
    (.tru (symv 21), .bool true),
    (.bin .add 3 (symv 7) (.int .i64 1), symv 24)]
def C3 : List (FuncId × List Value × Value) := []
theorem e36 : endVal Tryd.prog Tryd.f27 (leave' 61 F0 C0 lk0 (ops' 61 F3 C3 pr4 po4 pk4 { sl := hp4, ms := [], A := mkAS bk4 })) = some (.tuple ⟨[.slice none 0 0, symv 24, .int .i64 3]⟩) := by kernel_rfl
def F4 : List (FOp × Value) := [(.tru (.int .i64 72), .int .i64 72),
    (.nilc (symv 11), symv 11),
    (.fa 72 (symv 11) 1, symv 23),
    (.ld 4 (symv 23), symv 21),
    (.tru (symv 21), .bool false),
    (.bin .add 3 (symv 7) (.int .i64 1), symv 24)]
def C4 : List (FuncId × List Value × Value) := []
theorem e37 : backObs head0 bks0 (ops' 61 F4 C4 pr4 po4 pk4 { sl := hp4, ms := [], A := mkAS bk4 }) = some [(symv 5, symv 5), (symv 22, symv 6), (symv 24, symv 7), (symv 1, symv 1), (symv 4, symv 4)] := by kernel_rfl
def F5 : List (FOp × Value) := [(.tru (.int .i64 72), .int .i64 72),
    (.bin .lss 3 (symv 7) (symv 5), .bool false)]
def C5 : List (FuncId × List Value × Value) := []
def F6 : List (FOp × Value) := [(.tru (.int .i64 72), .int .i64 72),
    (.len #[68] 3 (symv 1), symv 2),
    (.bin .sub 3 (symv 2) (.int .i64 1), symv 3),
    (.ixa 68 (symv 1) (symv 3), symv 25),
    (.ld 9 (symv 25), symv 26),
    (.bin .neq 9 (symv 26) (strV []), .bool false),
    (.bin .neq 25 (symv 28) (.int .i64 0), .bool false)]
def C6 : List (FuncId × List Value × Value) := [(11, [symv 6], .tuple ⟨[symv 27, symv 28]⟩)]
theorem e38 : endVal Tryd.prog Tryd.f27 (leave' 61 F6 C6 lk0 (at' 61 F5 C5 lc0 (headSt head0 bks0))) = some (.tuple ⟨[symv 6, .int .i64 0, .int .i64 0]⟩) := by kernel_rfl
def F7 : List (FOp × Value) := [(.tru (.int .i64 72), .int .i64 72),
    (.len #[68] 3 (symv 1), symv 2),
    (.bin .sub 3 (symv 2) (.int .i64 1), symv 3),
    (.ixa 68 (symv 1) (symv 3), symv 25),
    (.ld 9 (symv 25), symv 26),
    (.bin .neq 9 (symv 26) (strV []), .bool false),
    (.bin .neq 25 (symv 28) (.int .i64 0), .bool true),
    (.bin .add 3 (symv 27) (.int .i64 1), symv 29)]
def C7 : List (FuncId × List Value × Value) := [(11, [symv 6], .tuple ⟨[symv 27, symv 28]⟩)]
theorem e39 : endVal Tryd.prog Tryd.f27 (leave' 61 F7 C7 lk0 (at' 61 F5 C5 lc0 (headSt head0 bks0))) = some (.tuple ⟨[.slice none 0 0, symv 29, symv 28]⟩) := by kernel_rfl
def F8 : List (FOp × Value) := [(.tru (.int .i64 72), .int .i64 72),
    (.len #[68] 3 (symv 1), symv 2),
    (.bin .sub 3 (symv 2) (.int .i64 1), symv 3),
    (.ixa 68 (symv 1) (symv 3), symv 25),
    (.ld 9 (symv 25), symv 26),
    (.bin .neq 9 (symv 26) (strV []), .bool true)]
def C8 : List (FuncId × List Value × Value) := []
theorem e40 : endVal Tryd.prog Tryd.f27 (leave' 61 F8 C8 lk0 (at' 61 F5 C5 lc0 (headSt head0 bks0))) = some (.tuple ⟨[.slice none 0 0, symv 2, .int .i64 3]⟩) := by kernel_rfl
@[reducible] noncomputable def vL (t : Bs) (b : List Mt) (a : Option Addr) (c : Nat) (i : Nat) (b0 : List Bs) (a0 : Option Addr) (c0 : Nat) (b1 : List Bs) (a1 : Option Addr) (c1 : Nat) (g2 : Nat) (b3 : Bool) (x3v : Value) (b4 : List Mt) (a4 : Option Addr) (c4 : Nat) : List Value := [strV t, .slice a0 b0.length c0, .int .i64 ((b0.length : Nat) : Int), .int .i64 (((b0.length : Nat) : Int) - 1), .slice a0 ((((b0.length : Nat) : Int) - 1)).toNat c0, .int .i64 (((b0.take ((((b0.length : Nat) : Int) - 1)).toNat).length : Nat) : Int), .slice a b.length c, .int .i64 ((i : Nat) : Int), cellPtr (.slice a0 ((((b0.length : Nat) : Int) - 1)).toNat c0) (i * 1), strV ((b0.take ((((b0.length : Nat) : Int) - 1)).toNat).getD (i) default), .slice a1 b1.length c1, .pointer (some ⟨g2, 0, none⟩), strV (matF (b1, false)).1.1, .bool (matF (b1, false)).1.2.1, .bool (matF (b1, false)).1.2.2.1, .bool (matF (b1, false)).1.2.2.2.1, .int .i64 (matF (b1, false)).1.2.2.2.2.1, .int .i64 (matF (b1, false)).1.2.2.2.2.2.1, .int .i64 (matF (b1, false)).1.2.2.2.2.2.2.1, .int .i64 (matF (b1, false)).1.2.2.2.2.2.2.2, (oneC x3v), .bool b3, .slice a4 b4.length c4, .pointer (some ⟨g2, 1, none⟩), .int .i64 ((i + 1 : Nat) : Int), cellPtr (.slice a0 b0.length c0) (((((b0.length : Nat) : Int) - 1)).toNat * 1), strV (b0.getD (((((b0.length : Nat) : Int) - 1)).toNat) default), .int .i64 (chkM b).1, .int .i64 (chkM b).2, .int .i64 ((chkM b).1 + 1)]
@[reducible] noncomputable def sg (M : Mem) (t : Bs) (b : List Mt) (a : Option Addr) (c : Nat) (i : Nat) (b0 : List Bs) (a0 : Option Addr) (c0 : Nat) (b1 : List Bs) (a1 : Option Addr) (c1 : Nat) (g2 : Nat) (b3 : Bool) (x3v : Value) (b4 : List Mt) (a4 : Option Addr) (c4 : Nat) : Sig := sgL M (vL t b a c i b0 a0 c0 b1 a1 c1 g2 b3 x3v b4 a4 c4)
set_option maxHeartbeats 4000000 in
theorem any (W : World) (t : Bs) (hK : KindsM (heapOf W)) (hL : LibM (heapOf W)) (hlen : t.length ≤ 100000) : Calls Tryd.prog 27 #[strV t] W fun e w' => (∃ a c, e = .returned (.tuple #[.slice a (parM t).1.length c, .int .i64 (parM t).2.1, .int .i64 (parM t).2.2]) ∧ OArr W.heap.size (heapOf w') elM 8 encM (.slice a (parM t).1.length c) (parM t).1) ∧ Low W.heap.size W w' := by
  refine @walk_enter (sg (heapOf W) t [] none 0 0 [] none 0 [] none 0 0 false default [] none 0) Tryd.prog 27 Tryd.f27 body [symv 0] (slots [(0, symv 0)]) N W _ Tryd.func27 (by kernel_rfl) (by kernel_rfl) (by kernel_rfl) (by kernel_rfl) (immW_sgL W _) fun a hh => ?_
  letI := (sg (heapOf W) t [] none 0 0 [] none 0 [] none 0 0 false default [] none 0)
  refine walk_to (F := F0) (T := C0) (fuel := 1000) (d := 10) mixed (aFc (truI _) aFn) aCn ?_ hh
  obtain ⟨b0, hb0⟩ : ∃ b0 : List Bs, b0 = (splS t ([10] : Bs)) := ⟨_, rfl⟩
  refine ostop_callT (Y := Option Addr × Nat) (vals2 := fun yV => (vL t [] none 0 0 b0 yV.1 yV.2 [] none 0 0 false default [] none 0)) (T := none) (R := fun y M' => OArr W.heap.size M' elT 1 encT (.slice y.1 b0.length y.2) b0 ∧ Keeps (heapOf W) M' none) e0 e1 e2 rfl (fun w hw hB => by subst hb0; exact newOf hw hB (fun y M' => rfl) (con_split _ ((hL.mono (fun _ _ h => h)).mono hw) (by first | omega | exact Nat.le_trans (splS_len (by rw [← hb0]; exact List.mem_of_mem_take (getD_mem (by omega)))) (by omega)))) (fun _ _ _ => meet_nil) ?_
  intro M0 ⟨a0, c0⟩ hR0 aC w hh
  obtain ⟨hO0, hK0⟩ := hR0
  have hcp0 := hO0.cap
  have hM0 := hK0.up (fun _ h => by cases h) (Nat.le_refl _) (fun _ _ h => h)
  have hn0 : b0.length ≤ t.length + 1 := by rw [hb0]; first | done | exact splS_count _
  have hn0 : b0.length > 0 := by rw [hb0]; first | done | exact List.length_pos_iff.2 (splS_ne _ _)
  letI := (sg M0 t [] none 0 0 b0 a0 c0 [] none 0 0 false default [] none 0)
  refine walk_opsE e3 e4 e5 (F := F1) (T := C1) (fuel := 1000) (d := 10) mixed (aFc (truI _) (aFc (FactOk.arrLen (hO0.arr hkT) rfl rfl underTl rfl rfl) (aFc (FactOk.bi rfl rfl rfl rfl rfl rfl (intI (by omega) (by omega) (by omega))) (aFc (FactOk.slcHi rfl rfl rfl underTl sizeT rfl (natI (by omega)) (show ((((b0.length : Nat) : Int) - 1)).toNat ≤ c0 by omega) rfl) (aFc (FactOk.arrLen ((hO0.arr hkT).take (show ((((b0.length : Nat) : Int) - 1)).toNat ≤ b0.length by omega)) rfl rfl underTl rfl rfl) aFn))))) aCn ?_ hh
  refine ostop_loop (sg := (fun (⟨M, b, a, c, i⟩ : Mem × List Mt × Option Addr × Nat × Nat) => sg M t b a c i b0 a0 c0 [] none 0 0 false default [] none 0)) (fun (⟨M, b, a, c, i⟩ : Mem × List Mt × Option Addr × Nat × Nat) => OArr W.heap.size M elT 1 encT (.slice a0 b0.length c0) b0 ∧ OArr W.heap.size M elM 8 encM (.slice a b.length c) b ∧ (∀ k, some k = obl (.slice a0 b0.length c0) → some k ≠ obl (.slice a b.length c)) ∧ (∀ i o, heapOf W i = some o → M i = some o) ∧ b = tabTo b0 i ∧ i ≤ b0.length - 1 ∧ ∀ j, j < i → ¬ (lnF (b0.getD j default)).2 = true) (fun (⟨M, b, a, c, i⟩ : Mem × List Mt × Option Addr × Nat × Nat) => b0.length - i) ⟨M0, [], none, 0, 0⟩ e6 (meet_cons (by first | exact meetV (.int .i64 (((b0.take ((((b0.length : Nat) : Int) - 1)).toNat).length : Nat) : Int)) rfl rfl | exact meetI rfl rfl (by omega)) (meet_cons (by first | rfl | exact meetInt (by omega)) (meet_cons (by first | rfl | exact meetInt (by omega)) (meet_cons (by first | exact meetV (.slice a0 b0.length c0) rfl rfl | exact meetI rfl rfl (by omega)) (meet_cons (by first | exact meetV (.slice a0 ((((b0.length : Nat) : Int) - 1)).toNat c0) rfl rfl | exact meetI rfl rfl (by omega)) meet_nil))))) (fun _ _ h => h) (by exact ⟨hO0, OArr.nil _ _ _ _ _ _, fun k _ e => (by cases e), hM0, rfl, Nat.zero_le _, fun j h => absurd h (Nat.not_lt_zero _)⟩) ?_
  intro ⟨M, b, a, c, i⟩ hI aC w hh
  letI := (sg M t b a c i b0 a0 c0 [] none 0 0 false default [] none 0)
  refine walk_loopE e7 e8 ?_
  have hL0 := hI.1
  have hO := hI.2.1
  have hap := hI.2.2.1
  have hM := hI.2.2.2.1
  have hx : ((((b0.length : Nat) : Int) - 1)).toNat = b0.length - 1 := by omega
  have hlt : (b0.take ((((b0.length : Nat) : Int) - 1)).toNat).length = b0.length - 1 := by rw [List.length_take]; omega
  have hi := hI.2.2.2.2.2.1
  have hbn : b.length = i := by rw [hI.2.2.2.2.1]; exact tabTo_len _ _ (by omega)
  have hcf := chkM_fst b
  by_cases q0 : ((i : Nat) : Int) < (((b0.take ((((b0.length : Nat) : Int) - 1)).toNat).length : Nat) : Int)
  · refine walk_to (F := F2) (T := C2) (fuel := 1000) (d := 10) mixed (aFc (truI _) (aFc (FactOk.bi rfl rfl rfl rfl rfl rfl (boolT (by omega))) (aFc (FactOk.arrIxa ((hL0.arr hkT).take (show ((((b0.length : Nat) : Int) - 1)).toNat ≤ b0.length by omega)) (show i < (b0.take ((((b0.length : Nat) : Int) - 1)).toNat).length by omega) rfl rfl rfl underTl sizeT rfl rfl rfl) (aFc (FactOk.arrLd1 (j := 0) ((hL0.arr hkT).take (show ((((b0.length : Nat) : Int) - 1)).toNat ≤ b0.length by omega)) (getSome (show i < (b0.take ((((b0.length : Nat) : Int) - 1)).toNat).length by omega)) rfl rfl aggStr rfl rfl rfl rfl) aFn)))) aCn ?_ hh
    obtain ⟨b1, hb1⟩ : ∃ b1 : List Bs, b1 = (splS ((b0.take ((((b0.length : Nat) : Int) - 1)).toNat).getD (i) default) ([32] : Bs)) := ⟨_, rfl⟩
    refine ostop_callT (Y := Option Addr × Nat) (vals2 := fun yV => (vL t b a c i b0 a0 c0 b1 yV.1 yV.2 0 false default [] none 0)) (T := none) (R := fun y M' => OArr W.heap.size M' elT 1 encT (.slice y.1 b1.length y.2) b1 ∧ Keeps M M' none) e9 e10 e11 rfl (fun w hw hB => by subst hb1; exact newOf hw hB (fun y M' => rfl) (con_split _ ((hL.mono hM).mono hw) (by first | omega | exact Nat.le_trans (splS_len (by rw [← hb0]; exact List.mem_of_mem_take (getD_mem (by omega)))) (by omega)))) (fun _ _ _ => (meet_cons (by first | exact meetV (.int .i64 ((i : Nat) : Int)) rfl rfl | exact meetI rfl rfl (by omega)) (meet_cons (by first | exact meetV (.int .i64 (((b0.take ((((b0.length : Nat) : Int) - 1)).toNat).length : Nat) : Int)) rfl rfl | exact meetI rfl rfl (by omega)) (meet_cons (by first | exact meetV (.slice a b.length c) rfl rfl | exact meetI rfl rfl (by omega)) (meet_cons (by first | exact meetV (.int .i64 ((i : Nat) : Int)) rfl rfl | exact meetI rfl rfl (by omega)) (meet_cons (by first | exact meetV (.slice a0 b0.length c0) rfl rfl | exact meetI rfl rfl (by omega)) (meet_cons (by first | exact meetV (.slice a0 ((((b0.length : Nat) : Int) - 1)).toNat c0) rfl rfl | exact meetI rfl rfl (by omega)) meet_nil))))))) ?_
    intro M1 ⟨a1, c1⟩ hR1 aC w hh
    obtain ⟨hO1, hK1⟩ := hR1
    have hcp1 := hO1.cap
    have hM1 := hK1.up (fun _ h => by cases h) (Nat.le_refl _) hM
    have hL0k1 := hK1.own hL0 (fun _ _ h => by cases h)
    have hOk1 := hK1.own hO (fun _ _ h => by cases h)
    have hn1 : b1.length ≤ ((b0.take ((((b0.length : Nat) : Int) - 1)).toNat).getD (i) default).length + 1 := by rw [hb1]; first | done | exact splS_count _
    have hn1 : b1.length > 0 := by rw [hb1]; first | done | exact List.length_pos_iff.2 (splS_ne _ _)
    letI := (sg M1 t b a c i b0 a0 c0 b1 a1 c1 0 false default [] none 0)
    refine walk_opsE e12 e13 e14 (F := F0) (T := C0) (fuel := 1000) (d := 10) mixed (aFc (truI _) aFn) aCn ?_ hh
    refine ostop_box (u := .agg ⟨[.slice a1 b1.length c1, .bool false]⟩) (cs := [.slice a1 b1.length c1, .bool false]) (vals2 := fun gV => (vL t b a c i b0 a0 c0 b1 a1 c1 gV false default [] none 0)) e15 rfl rfl rfl e16 e17 rfl (fun _ gV => (meet_cons (by first | exact meetV (.int .i64 ((i : Nat) : Int)) rfl rfl | exact meetI rfl rfl (by omega)) (meet_cons (by first | exact meetV (.int .i64 (((b0.take ((((b0.length : Nat) : Int) - 1)).toNat).length : Nat) : Int)) rfl rfl | exact meetI rfl rfl (by omega)) (meet_cons (by first | exact meetV (.slice a b.length c) rfl rfl | exact meetI rfl rfl (by omega)) (meet_cons (by first | exact meetV (.int .i64 ((i : Nat) : Int)) rfl rfl | exact meetI rfl rfl (by omega)) (meet_cons (by first | exact meetV (.slice a0 b0.length c0) rfl rfl | exact meetI rfl rfl (by omega)) (meet_cons (by first | exact meetV (.slice a0 ((((b0.length : Nat) : Int) - 1)).toNat c0) rfl rfl | exact meetI rfl rfl (by omega)) meet_nil))))))) (fun _ _ => rfl) ?_
    intro M2 g2 hn2 hX2 hK2 aC w hh
    have hL0k1g2 := apart_fresh hL0k1 hn2
    have hOk1g2 := apart_fresh hOk1 hn2
    have hO1g2 := apart_fresh hO1 hn2
    have hM2 := hK2.up (fun i h => by cases h) (Nat.le_refl _) hM1
    have hL0k1k2 := hK2.own hL0k1 (by first | assumption | exact fun _ _ h => by cases h)
    have hOk1k2 := hK2.own hOk1 (by first | assumption | exact fun _ _ h => by cases h)
    have hO1k2 := hK2.own hO1 (by first | assumption | exact fun _ _ h => by cases h)
    letI := (sg M2 t b a c i b0 a0 c0 b1 a1 c1 g2 false default [] none 0)
    refine walk_opsE e18 e19 e20 (F := F0) (T := C0) (fuel := 1000) (d := 10) mixed (aFc (truI _) aFn) aCn ?_ hh
    obtain ⟨b3, hb3⟩ : ∃ b3 : Bool, b3 = (matF (b1, false)).2.2 := ⟨_, rfl⟩
    refine ostop_callW (Y := Value) (vals2 := fun yV => (vL t b a c i b0 a0 c0 b1 a1 c1 g2 b3 yV [] none 0)) (T := some g2) (R := fun yV M' => OBox W.heap.size M' (.pointer (some ⟨g2, 0, none⟩)) tRd [oneC yV, .bool b3] ∧ Keeps M2 M' (some g2)) e21 e22 e23 rfl e24 e25 rfl (fun w hw hB => by subst hb3; exact boxL (fun _ _ => rfl) (con_mat hX2 (hO1k2.arr hkT) (ne_of_own hO1k2 (by rw [hb1]; exact splS_ne _ _) (by assumption)) hw (hL.mono hM2) (hK.mono hM2) (Nat.le_trans hL.seven hX2.known.2) (by rw [hb1]; exact fun s hs => Nat.le_trans (splS_len hs) (Nat.le_trans (splS_len (by rw [← hb0]; exact List.mem_of_mem_take (getD_mem (by omega)))) (by omega))))) (fun _ _ _ => (meet_cons (by first | exact meetV (.int .i64 ((i : Nat) : Int)) rfl rfl | exact meetI rfl rfl (by omega)) (meet_cons (by first | exact meetV (.int .i64 (((b0.take ((((b0.length : Nat) : Int) - 1)).toNat).length : Nat) : Int)) rfl rfl | exact meetI rfl rfl (by omega)) (meet_cons (by first | exact meetV (.slice a b.length c) rfl rfl | exact meetI rfl rfl (by omega)) (meet_cons (by first | exact meetV (.pointer (some ⟨g2, 0, none⟩)) rfl rfl | exact meetI rfl rfl (by omega)) (meet_cons (by first | exact meetV (.slice a b.length c) rfl rfl | exact meetI rfl rfl (by omega)) (meet_cons (by first | exact meetV (.int .i64 ((i : Nat) : Int)) rfl rfl | exact meetI rfl rfl (by omega)) (meet_cons (by first | exact meetV (.slice a0 b0.length c0) rfl rfl | exact meetI rfl rfl (by omega)) (meet_cons (by first | exact meetV (.slice a0 ((((b0.length : Nat) : Int) - 1)).toNat c0) rfl rfl | exact meetI rfl rfl (by omega)) meet_nil))))))))) ?_
    intro M3 x3v ⟨hX3, hK3⟩ aC w hh
    have hM3 := hK3.up (fun i h => by cases h; exact hX2.known.2) (Nat.le_refl _) hM2
    have hL0k1k2k3 := hK3.own hL0k1k2 (by assumption)
    have hOk1k2k3 := hK3.own hOk1k2 (by assumption)
    letI := (sg M3 t b a c i b0 a0 c0 b1 a1 c1 g2 b3 x3v [] none 0)
    refine walk_opsE e26 e27 e28 (F := F0) (T := C0) (fuel := 1000) (d := 10) mixed (aFc (truI _) aFn) aCn ?_ hh
    obtain ⟨b4, hb4⟩ : ∃ b4 : List Mt, b4 = b ++ [(matF (b1, false)).1] := ⟨_, rfl⟩
    have hn4 : b4.length = b.length + 1 := by rw [hb4]; first | rfl | simp
    refine ostop_appendF (l := b) (lx := [(matF (b1, false)).1]) (l' := b4) (vals2 := fun aV cV => (vL t b a c i b0 a0 c0 b1 a1 c1 g2 b3 x3v b4 aV cV)) (T := (obl (.slice a b.length c))) hb4 e30 underMl infoM zeroM iszM ibyM zszM (by decide) hkM honeM e31 e32 rfl (appTo_sym rfl rfl hOk1k2k3) (app_cells e29 hkM (by decide) rfl) (lenMax (show b.length + 1 ≤ 1000000 by omega)) (show (b.length + 1) * bytesM ≤ 140737488355328 by unfold bytesM; omega) (fun _ _ _ => (meet_cons (by first | exact meetV (.int .i64 ((i : Nat) : Int)) rfl rfl | exact meetI rfl rfl (by omega)) (meet_cons (by first | exact meetV (.int .i64 (((b0.take ((((b0.length : Nat) : Int) - 1)).toNat).length : Nat) : Int)) rfl rfl | exact meetI rfl rfl (by omega)) (meet_cons (by first | exact meetV (.slice a b.length c) rfl rfl | exact meetI rfl rfl (by omega)) (meet_cons (by first | exact meetV (.pointer (some ⟨g2, 0, none⟩)) rfl rfl | exact meetI rfl rfl (by omega)) (meet_cons (by first | exact meetV (.int .i64 ((i : Nat) : Int)) rfl rfl | exact meetI rfl rfl (by omega)) (meet_cons (by first | exact meetV (.slice a0 b0.length c0) rfl rfl | exact meetI rfl rfl (by omega)) (meet_cons (by first | exact meetV (.slice a0 ((((b0.length : Nat) : Int) - 1)).toNat c0) rfl rfl | exact meetI rfl rfl (by omega)) meet_nil)))))))) (fun _ _ _ => rfl) ?_
    intro M4 a4 c4 hO4 hK4 hT4 hF4 aC w hh
    have hM4 := hK4.up hT4 (Nat.le_refl _) hM3
    have hL0k1k2k3k4 := hK4.own hL0k1k2k3 (by first | assumption | exact fun _ _ h => by cases h)
    have hL0k1k2k3q4 := apart_new hL0k1k2k3 (by first | assumption | exact fun _ _ h => by cases h) hF4
    have hX3k4 := hK4.box hX3 (by first | assumption | exact fun _ h => by cases h)
    letI := (sg M4 t b a c i b0 a0 c0 b1 a1 c1 g2 b3 x3v b4 a4 c4)
    by_cases z0 : b3 = true
    · refine walk_opsE e33 e34 e35 (F := F3) (T := C3) (fuel := 1000) (d := 10) mixed (aFc (truI _) (aFc (FactOk.nilcP rfl rfl rfl rfl) (aFc (FactOk.faB (g := g2) (o := 0) (ty := 4) (off := 1) (m := 1) (by kernel_rfl) (by kernel_rfl) (by kernel_rfl) (by decide) rfl rfl rfl rfl) (aFc (FactOk.boxLd (g := g2) (j := 1) hX3k4 rfl rfl rfl (by kernel_rfl) rfl rfl) (aFc (truT rfl rfl z0) (aFc (FactOk.bi rfl rfl rfl rfl rfl rfl (intI (by omega) (by omega) (by omega))) aFn)))))) aCn ?_ hh
      refine walk_leave (F := F0) (T := C0) (fuel := 1000) (d := 10) mixed (aFc (truI _) aFn) aCn ?_
      exact ostop_end e36 fun w2 hLow hIn => ⟨(by first | (have z : b3 = true := (by assumption); rw [hb3, hb1, getD_take (by omega)] at z; rw [show parM t = ([], (i : Int) + 1, 3) by unfold parM; rw [← hb0]; exact parL_bad (by omega) hI.2.2.2.2.2.2 z]; exact parEnd_nil rfl (by simp) rfl) | (have z : ¬ (b0.getD ((((b0.length : Nat) : Int) - 1)).toNat default) = [] := (by assumption); rw [hx] at z; rw [show parM t = ([], (b0.length : Int), 3) by unfold parM; rw [← hb0]; exact parL_end (fun j hj => hI.2.2.2.2.2.2 j (by omega)) z]; exact parEnd_nil rfl rfl rfl) | (have z : (b0.getD ((((b0.length : Nat) : Int) - 1)).toNat default) = [] := (by assumption); have zc : ¬ (chkM b).2 = 0 := (by assumption); rw [hx] at z; have hbt : b = tabTo b0 (b0.length - 1) := (by rw [hI.2.2.2.2.1, show i = b0.length - 1 by omega]); rw [show parM t = ([], (chkM b).1 + 1, (chkM b).2) by unfold parM; rw [← hb0]; rw [hbt] at zc ⊢; exact parL_chk (fun j hj => hI.2.2.2.2.2.2 j (by omega)) z zc]; exact parEnd_nil rfl rfl rfl) | (have z : (b0.getD ((((b0.length : Nat) : Int) - 1)).toNat default) = [] := (by assumption); have zc : (chkM b).2 = 0 := (by assumption); rw [hx] at z; have hbt : b = tabTo b0 (b0.length - 1) := (by rw [hI.2.2.2.2.1, show i = b0.length - 1 by omega]); rw [show parM t = (b, 0, 0) by unfold parM; rw [← hb0]; rw [hbt] at zc ⊢; exact parL_ok (fun j hj => hI.2.2.2.2.2.2 j (by omega)) z zc]; exact parEnd hO rfl rfl rfl hIn)), hLow⟩
    · refine walk_opsE e33 e34 e35 (F := F4) (T := C4) (fuel := 1000) (d := 10) mixed (aFc (truI _) (aFc (FactOk.nilcP rfl rfl rfl rfl) (aFc (FactOk.faB (g := g2) (o := 0) (ty := 4) (off := 1) (m := 1) (by kernel_rfl) (by kernel_rfl) (by kernel_rfl) (by decide) rfl rfl rfl rfl) (aFc (FactOk.boxLd (g := g2) (j := 1) hX3k4 rfl rfl rfl (by kernel_rfl) rfl rfl) (aFc (truF rfl rfl z0) (aFc (FactOk.bi rfl rfl rfl rfl rfl rfl (intI (by omega) (by omega) (by omega))) aFn)))))) aCn ?_ hh
      exact ostop_backM (s1 := (sg M4 t b a c i b0 a0 c0 b1 a1 c1 g2 b3 x3v b4 a4 c4)) (sg := (fun (⟨M, b, a, c, i⟩ : Mem × List Mt × Option Addr × Nat × Nat) => sg M t b a c i b0 a0 c0 [] none 0 0 false default [] none 0)) (I := fun (⟨M, b, a, c, i⟩ : Mem × List Mt × Option Addr × Nat × Nat) => OArr W.heap.size M elT 1 encT (.slice a0 b0.length c0) b0 ∧ OArr W.heap.size M elM 8 encM (.slice a b.length c) b ∧ (∀ k, some k = obl (.slice a0 b0.length c0) → some k ≠ obl (.slice a b.length c)) ∧ (∀ i o, heapOf W i = some o → M i = some o) ∧ b = tabTo b0 i ∧ i ≤ b0.length - 1 ∧ ∀ j, j < i → ¬ (lnF (b0.getD j default)).2 = true) (μ := fun (⟨M, b, a, c, i⟩ : Mem × List Mt × Option Addr × Nat × Nat) => b0.length - i) (x := ⟨M, b, a, c, i⟩) ⟨M4, b4, a4, c4, i + 1⟩ e37 (meet_cons (by first | exact meetV (.int .i64 (((b0.take ((((b0.length : Nat) : Int) - 1)).toNat).length : Nat) : Int)) rfl rfl | exact meetI rfl rfl (by omega)) (meet_cons (by first | exact meetV (.slice a4 b4.length c4) rfl rfl | exact meetI rfl rfl (by omega)) (meet_cons (by first | exact meetV (.int .i64 ((i + 1 : Nat) : Int)) rfl rfl | exact meetI rfl rfl (by omega)) (meet_cons (by first | exact meetV (.slice a0 b0.length c0) rfl rfl | exact meetI rfl rfl (by omega)) (meet_cons (by first | exact meetV (.slice a0 ((((b0.length : Nat) : Int) - 1)).toNat c0) rfl rfl | exact meetI rfl rfl (by omega)) meet_nil))))) (fun _ _ h => h) (by exact ⟨by assumption, by assumption, by assumption, by assumption, by rw [hb4, hb1, tabTo_succ (by omega), ← hI.2.2.2.2.1, getD_take (by omega)]; rfl, by omega, fun j hj => by rcases Nat.lt_succ_iff_lt_or_eq.1 hj with h | rfl; exact hI.2.2.2.2.2.2 j h; have z : ¬ b3 = true := (by assumption); rw [hb3, hb1, getD_take (by omega)] at z; exact z⟩) (by (try dsimp only); omega)
  · refine walk_to (F := F5) (T := C5) (fuel := 1000) (d := 10) mixed (aFc (truI _) (aFc (FactOk.bi rfl rfl rfl rfl rfl rfl (boolF (by omega))) aFn)) aCn ?_ hh
    by_cases r0 : (b0.getD (((((b0.length : Nat) : Int) - 1)).toNat) default) = ([] : Bs)
    · by_cases r1 : (chkM b).2 = 0
      · refine walk_leave (F := F6) (T := C6) (fuel := 1000) (d := 10) mixed (aFc (truI _) (aFc (FactOk.arrLen (hL0.arr hkT) rfl rfl underTl rfl rfl) (aFc (FactOk.bi rfl rfl rfl rfl rfl rfl (intI (by omega) (by omega) (by omega))) (aFc (FactOk.arrIxa (hL0.arr hkT) (show ((((b0.length : Nat) : Int) - 1)).toNat < b0.length by omega) rfl rfl rfl underTl sizeT rfl (natI (by omega)) rfl) (aFc (FactOk.arrLd1 (j := 0) (hL0.arr hkT) (getSome (show ((((b0.length : Nat) : Int) - 1)).toNat < b0.length by omega)) rfl rfl aggStr rfl rfl rfl rfl) (aFc (FactOk.strNeT rfl rfl rfl rfl r0) (aFc (FactOk.bi rfl rfl rfl rfl rfl rfl (nboolF (by omega))) aFn))))))) (aCc (callChkP rfl rfl rfl rfl (hO.arr hkM) (hK.mono (by assumption))) aCn) ?_
        exact ostop_end e38 fun w2 hLow hIn => ⟨(by first | (have z : b3 = true := (by assumption); rw [hb3, hb1, getD_take (by omega)] at z; rw [show parM t = ([], (i : Int) + 1, 3) by unfold parM; rw [← hb0]; exact parL_bad (by omega) hI.2.2.2.2.2.2 z]; exact parEnd_nil rfl (by simp) rfl) | (have z : ¬ (b0.getD ((((b0.length : Nat) : Int) - 1)).toNat default) = [] := (by assumption); rw [hx] at z; rw [show parM t = ([], (b0.length : Int), 3) by unfold parM; rw [← hb0]; exact parL_end (fun j hj => hI.2.2.2.2.2.2 j (by omega)) z]; exact parEnd_nil rfl rfl rfl) | (have z : (b0.getD ((((b0.length : Nat) : Int) - 1)).toNat default) = [] := (by assumption); have zc : ¬ (chkM b).2 = 0 := (by assumption); rw [hx] at z; have hbt : b = tabTo b0 (b0.length - 1) := (by rw [hI.2.2.2.2.1, show i = b0.length - 1 by omega]); rw [show parM t = ([], (chkM b).1 + 1, (chkM b).2) by unfold parM; rw [← hb0]; rw [hbt] at zc ⊢; exact parL_chk (fun j hj => hI.2.2.2.2.2.2 j (by omega)) z zc]; exact parEnd_nil rfl rfl rfl) | (have z : (b0.getD ((((b0.length : Nat) : Int) - 1)).toNat default) = [] := (by assumption); have zc : (chkM b).2 = 0 := (by assumption); rw [hx] at z; have hbt : b = tabTo b0 (b0.length - 1) := (by rw [hI.2.2.2.2.1, show i = b0.length - 1 by omega]); rw [show parM t = (b, 0, 0) by unfold parM; rw [← hb0]; rw [hbt] at zc ⊢; exact parL_ok (fun j hj => hI.2.2.2.2.2.2 j (by omega)) z zc]; exact parEnd hO rfl rfl rfl hIn)), hLow⟩
      · refine walk_leave (F := F7) (T := C7) (fuel := 1000) (d := 10) mixed (aFc (truI _) (aFc (FactOk.arrLen (hL0.arr hkT) rfl rfl underTl rfl rfl) (aFc (FactOk.bi rfl rfl rfl rfl rfl rfl (intI (by omega) (by omega) (by omega))) (aFc (FactOk.arrIxa (hL0.arr hkT) (show ((((b0.length : Nat) : Int) - 1)).toNat < b0.length by omega) rfl rfl rfl underTl sizeT rfl (natI (by omega)) rfl) (aFc (FactOk.arrLd1 (j := 0) (hL0.arr hkT) (getSome (show ((((b0.length : Nat) : Int) - 1)).toNat < b0.length by omega)) rfl rfl aggStr rfl rfl rfl rfl) (aFc (FactOk.strNeT rfl rfl rfl rfl r0) (aFc (FactOk.bi rfl rfl rfl rfl rfl rfl (nboolT (by omega))) (aFc (FactOk.bi rfl rfl rfl rfl rfl rfl (intI (by omega) (by omega) (by omega))) aFn)))))))) (aCc (callChkP rfl rfl rfl rfl (hO.arr hkM) (hK.mono (by assumption))) aCn) ?_
        exact ostop_end e39 fun w2 hLow hIn => ⟨(by first | (have z : b3 = true := (by assumption); rw [hb3, hb1, getD_take (by omega)] at z; rw [show parM t = ([], (i : Int) + 1, 3) by unfold parM; rw [← hb0]; exact parL_bad (by omega) hI.2.2.2.2.2.2 z]; exact parEnd_nil rfl (by simp) rfl) | (have z : ¬ (b0.getD ((((b0.length : Nat) : Int) - 1)).toNat default) = [] := (by assumption); rw [hx] at z; rw [show parM t = ([], (b0.length : Int), 3) by unfold parM; rw [← hb0]; exact parL_end (fun j hj => hI.2.2.2.2.2.2 j (by omega)) z]; exact parEnd_nil rfl rfl rfl) | (have z : (b0.getD ((((b0.length : Nat) : Int) - 1)).toNat default) = [] := (by assumption); have zc : ¬ (chkM b).2 = 0 := (by assumption); rw [hx] at z; have hbt : b = tabTo b0 (b0.length - 1) := (by rw [hI.2.2.2.2.1, show i = b0.length - 1 by omega]); rw [show parM t = ([], (chkM b).1 + 1, (chkM b).2) by unfold parM; rw [← hb0]; rw [hbt] at zc ⊢; exact parL_chk (fun j hj => hI.2.2.2.2.2.2 j (by omega)) z zc]; exact parEnd_nil rfl rfl rfl) | (have z : (b0.getD ((((b0.length : Nat) : Int) - 1)).toNat default) = [] := (by assumption); have zc : (chkM b).2 = 0 := (by assumption); rw [hx] at z; have hbt : b = tabTo b0 (b0.length - 1) := (by rw [hI.2.2.2.2.1, show i = b0.length - 1 by omega]); rw [show parM t = (b, 0, 0) by unfold parM; rw [← hb0]; rw [hbt] at zc ⊢; exact parL_ok (fun j hj => hI.2.2.2.2.2.2 j (by omega)) z zc]; exact parEnd hO rfl rfl rfl hIn)), hLow⟩
    · refine walk_leave (F := F8) (T := C8) (fuel := 1000) (d := 10) mixed (aFc (truI _) (aFc (FactOk.arrLen (hL0.arr hkT) rfl rfl underTl rfl rfl) (aFc (FactOk.bi rfl rfl rfl rfl rfl rfl (intI (by omega) (by omega) (by omega))) (aFc (FactOk.arrIxa (hL0.arr hkT) (show ((((b0.length : Nat) : Int) - 1)).toNat < b0.length by omega) rfl rfl rfl underTl sizeT rfl (natI (by omega)) rfl) (aFc (FactOk.arrLd1 (j := 0) (hL0.arr hkT) (getSome (show ((((b0.length : Nat) : Int) - 1)).toNat < b0.length by omega)) rfl rfl aggStr rfl rfl rfl rfl) (aFc (FactOk.strNeF rfl rfl rfl rfl r0) aFn)))))) aCn ?_
      exact ostop_end e40 fun w2 hLow hIn => ⟨(by first | (have z : b3 = true := (by assumption); rw [hb3, hb1, getD_take (by omega)] at z; rw [show parM t = ([], (i : Int) + 1, 3) by unfold parM; rw [← hb0]; exact parL_bad (by omega) hI.2.2.2.2.2.2 z]; exact parEnd_nil rfl (by simp) rfl) | (have z : ¬ (b0.getD ((((b0.length : Nat) : Int) - 1)).toNat default) = [] := (by assumption); rw [hx] at z; rw [show parM t = ([], (b0.length : Int), 3) by unfold parM; rw [← hb0]; exact parL_end (fun j hj => hI.2.2.2.2.2.2 j (by omega)) z]; exact parEnd_nil rfl rfl rfl) | (have z : (b0.getD ((((b0.length : Nat) : Int) - 1)).toNat default) = [] := (by assumption); have zc : ¬ (chkM b).2 = 0 := (by assumption); rw [hx] at z; have hbt : b = tabTo b0 (b0.length - 1) := (by rw [hI.2.2.2.2.1, show i = b0.length - 1 by omega]); rw [show parM t = ([], (chkM b).1 + 1, (chkM b).2) by unfold parM; rw [← hb0]; rw [hbt] at zc ⊢; exact parL_chk (fun j hj => hI.2.2.2.2.2.2 j (by omega)) z zc]; exact parEnd_nil rfl rfl rfl) | (have z : (b0.getD ((((b0.length : Nat) : Int) - 1)).toNat default) = [] := (by assumption); have zc : (chkM b).2 = 0 := (by assumption); rw [hx] at z; have hbt : b = tabTo b0 (b0.length - 1) := (by rw [hI.2.2.2.2.1, show i = b0.length - 1 by omega]); rw [show parM t = (b, 0, 0) by unfold parM; rw [← hb0]; rw [hbt] at zc ⊢; exact parL_ok (fun j hj => hI.2.2.2.2.2.2 j (by omega)) z zc]; exact parEnd hO rfl rfl rfl hIn)), hLow⟩
end ParG
end AE
end Go.Proofs.YtblhndlmgibljaaDoor

/- What the library's variables hold where a law is called; Parse by contract; the wrap that keeps the world's shape. -/
namespace Go.Proofs.YtblhndlmgibljaaDoor
open Go Go.ChangeShapes Go.WideShapes Go.ChangeAt Go.RowKit
set_option maxRecDepth 100000

theorem change_and_shaped {H : Type} {enc : TypeId × Value → H} {a : Assume} {C : Checked} {os : Os} {f : FuncId} {fn : Func} {s : ChangeSpec} {conds : List PathCond} {apart fresh handsOn again : Bool} {X : World → Array Value → Prop}
    (hX : ∀ (w w' : World) (args : Array Value), w.heap = w'.heap → X w args → X w' args)
    (own : ownKnob C.prog.godebug = none) (started : os.Started) (noInit : C.prog.inits.idxOf? f = none) (hfn : C.prog.funcs[f]? = some fn)
    (witness : ∃ (w : World) (tape : Tape) (i : Input), w.os = os ∧ (w.forCall tape i).Shaped C.prog ∧ i.vars = [] ∧ Input.okWide C.prog (w.forCall tape i) .any w.heap.size f i ∧
      ((s.pre enc C.prog fn conds apart (w.forCall tape i).memory i.args ∧ X (w.forCall tape i).memory i.args) ∧ sizedMet enc C.prog fn (OpenSpec.ofChange s) apart (w.forCall tape i).memory i.args) ∧ a.holds C.prog (lone (Frame.enter C.prog f i.args .normal) [] (w.forCall tape i)))
    (contract : ∀ (W : World) (base : Nat) (args : Array Value) (ds gs : List (DataW H)) (before : List MemPlace),
      (∀ (j : Nat) t v, fn.params[j]? = some t → args[j]? = some v → Value.okWide C.prog W .any base t v) →
      DataW.Whole enc C.prog fn.params.toList s.vars apart W args.toList ds gs before →
      conds.all (PathCond.test C.prog ⟨fn.params.toList, ds, s.plain.varTypes C.prog, gs⟩) = true →
      (DataW.weightsEach C.prog (fn.params.toList ++ s.plain.varTypes C.prog) (ds ++ gs)).all (· ≤ reachBytes) = true → X W args → W.ShapedOpen C.prog →
      a.holds C.prog (lone (Frame.enter C.prog f args .normal) [] W) →
      Calls C.prog f args W fun e W' => ∃ v, e = .returned v ∧ s.post enc C.prog fn apart fresh handsOn again W args v W') :
    ReturnsInHanded a C os f .any (fun w args => (s.pre enc C.prog fn conds apart w args ∧ X w args) ∧ sizedMet enc C.prog fn (OpenSpec.ofChange s) apart w args) (s.post enc C.prog fn apart fresh handsOn again) := by
  refine returnsInHanded_of_calls own started noInit witness ?_
  intro w tape i _ hsh _ hok hpre hholds
  obtain ⟨_, _, _, fn', hfn', _, _, _, _, hval⟩ := hok
  have e : fn' = fn := Option.some.inj (hfn'.symm.trans hfn)
  subst e
  obtain ⟨⟨⟨ds, gs, before, hw, hc⟩, hx⟩, hz⟩ := hpre
  have hw' := DataW.Whole.of_heap (w' := w.forCall tape i) (by rfl) hw
  refine (contract (w.forCall tape i) w.heap.size i.args ds gs before hval hw' hc (hz.weights hw) (hX _ _ _ (by rfl) hx) hsh hholds).mono fun e W' ⟨v, he, hp⟩ => ?_
  subst he
  exact ChangeSpec.post_blind hp

theorem iface_of_trod {H : Type} {enc : TypeId × Value → H} {P : Program} {w : World} {base : Nat} {sp : Nat → Bool} {held : Bool} {fuel : Nat} {t : TypeId} {cs : List Value} {nm : String} {d : DataW H} {q : List MemPlace} {ms : Array (String × TypeId)} (hu : P.underlying t = some (.interface ms))
    (h : DataW.trod enc P w base sp held fuel t cs = some (.iface nm d, q)) : ∃ te pe, cs = [.iface te pe] := by
  cases fuel with
  | zero => cases h
  | succ fuel =>
    unfold DataW.trod at h
    rw [hu] at h
    split at h
    all_goals first
      | (rename_i e1 e2; first | (simp only [Option.some.injEq, reduceCtorEq] at e1; done) | skip)
      | skip
    all_goals first | (exact ⟨_, _, rfl⟩) | (simp at h; done) | (exfalso; simp_all; done)

noncomputable def errMs : Array (String × TypeId) := match Tryd.prog.underlying 57 with
  | some (.interface ms) => ms
  | _ => #[]
theorem err_of_laid {W : World} {nm : String} {tn : String} {d : DataW Unit} {g : Nat} (hg : Tryd.prog.globalNamed nm = some g) (ht : (Tryd.prog.globals[g]?).map (·.type) = some 57) (h : laidMet Tryd.prog [(nm, .iface tn d)] W) : ∃ te pe ty fr, W.heap[g]? = some (.cells #[.iface te pe] ty fr) := by
  obtain ⟨ps, ⟨g', t', cs, fuel, p, q, hg', ht', hvar, hd, _, _⟩, _⟩ := h
  obtain rfl := Option.some.inj (hg.symm.trans hg')
  obtain rfl := Option.some.inj (ht.symm.trans ht')
  have hu : Tryd.prog.underlying 57 = some (.interface errMs) := by kernel_rfl
  obtain ⟨te, pe, hc⟩ := iface_of_trod hu hd
  unfold World.var? at hvar
  rw [hg] at hvar
  simp only [Option.bind_some] at hvar
  split at hvar
  · rename_i cs' ty fr hb
    cases hvar
    refine ⟨te, pe, ty, fr, ?_⟩
    rw [hb]
    obtain ⟨l'⟩ := cs
    simp only at hc
    rw [hc]
  · cases hvar

theorem lib_of_laid {W : World} {l : List (String × DataW Unit)} (h : laidMetH Tryd.prog l W) (h1 : (l.filter fun x => x.1 == "internal/strconv.uint64pow10") = [("internal/strconv.uint64pow10", Rows.laid_internal_strconv_uint64pow10)]) (h5 : (l.filter fun x => x.1 == "strconv.ErrSyntax") = [("strconv.ErrSyntax", Rows.laid_strconv_ErrSyntax)])
    (h6 : (l.filter fun x => x.1 == "strconv.ErrRange") = [("strconv.ErrRange", Rows.laid_strconv_ErrRange)]) (hsh : W.ShapedOpen Tryd.prog) : AE.LibM (AE.heapOf W) := by
  have k1 := laidMetH.filter (fun x => x.1 == "internal/strconv.uint64pow10") h
  rw [h1, MakeChecks.laidMetH_plain _ _ _ (by kernel_rfl)] at k1
  have k5 := laidMetH.filter (fun x => x.1 == "strconv.ErrSyntax") h
  rw [h5, MakeChecks.laidMetH_plain _ _ _ (by kernel_rfl)] at k5
  have k6 := laidMetH.filter (fun x => x.1 == "strconv.ErrRange") h
  rw [h6, MakeChecks.laidMetH_plain _ _ _ (by kernel_rfl)] at k6
  have t1 : Go.Lib.TabIs Tryd.prog W "internal/strconv.uint64pow10" .u64 Go.Lib.pow10Tab := Go.Lib.tabIs_of_head (g := 1) (t := 109) (e := 98) (n := 20) (rest := []) (by kernel_rfl) (by kernel_rfl) (by kernel_rfl) (by kernel_rfl) (by kernel_rfl) (by kernel_rfl) k1
  obtain ⟨m, hm⟩ := laysM146.s1_3 W hsh
  refine ⟨?_, ?_, ?_, ?_⟩
  · unfold Go.Lib.TabIs World.var? at t1
    rw [show Tryd.prog.globalNamed "internal/strconv.uint64pow10" = some 1 by kernel_rfl] at t1
    simp only [Option.bind_some] at t1
    split at t1
    · rename_i cs ty fr hb
      cases t1
      exact ⟨ty, fr, hb⟩
    · cases t1
  · have hm' : W.cell? ⟨2, 0, none⟩ = some (.int .i64 m) := hm
    unfold World.cell? at hm'
    simp only at hm'
    split at hm'
    · rename_i cs ty fr hb
      exact ⟨m, cs, ty, fr, hb, by simpa using hm'⟩
    · cases hm'
  · exact err_of_laid (by kernel_rfl) (by kernel_rfl) k5
  · exact err_of_laid (by kernel_rfl) (by kernel_rfl) k6

namespace AE
theorem con_par {t : Bs} {w : World} (hK : KindsM (heapOf w)) (hL : LibM (heapOf w)) (hlen : t.length ≤ 100000) :
    Calls Tryd.prog 27 #[strV t] w fun e w' => (∃ a c, e = .returned (.tuple #[.slice a (parM t).1.length c, .int .i64 (parM t).2.1, .int .i64 (parM t).2.2]) ∧ OArr w.heap.size (heapOf w') elM 8 encM (.slice a (parM t).1.length c) (parM t).1) ∧ Low w.heap.size w w' := ParG.any w t hK hL hlen
theorem parOf {α : Type} {P : Program} {f : FuncId} {args : Array Value} {B : Nat} {M : Mem} {e : TypeId} {k : Nat} {enc : α → List Value} {l : List α} {x y : Int} {w : World} {vR : Value} {vals2 : Option Addr × Nat → List Value} (hw : ∀ i o, M i = some o → w.heap[i]? = some o) (hB : B ≤ w.heap.size)
    (hv : ∀ z M', @interp (sgL M' (vals2 z)) vR = .tuple #[.slice z.1 l.length z.2, .int .i64 x, .int .i64 y]) (h : Calls P f args w fun e' w' => (∃ a c, e' = .returned (.tuple #[.slice a l.length c, .int .i64 x, .int .i64 y]) ∧ OArr w.heap.size (heapOf w') e k enc (.slice a l.length c) l) ∧ Low w.heap.size w w') :
    Calls P f args w fun e' w' => ∃ z M', e' = .returned (@interp (sgL M' (vals2 z)) vR) ∧ (OArr B M' e k enc (.slice z.1 l.length z.2) l ∧ Keeps M M' none) ∧ Turns B M M' none w w' :=
  h.mono fun e' w' he => by
    obtain ⟨⟨a, c, rfl, hO⟩, hl⟩ := he
    obtain ⟨q1, q2, q3⟩ := turns_new hw hB hO hl
    exact ⟨(a, c), _, by rw [hv], ⟨q1, q3⟩, q2⟩
end AE
end Go.Proofs.YtblhndlmgibljaaDoor

/- the walk of the reference's isName -/
namespace Go.Proofs.YtblhndlmgibljaaDoor
open Go Go.Proofs Go.RowKit
set_option maxRecDepth 100000
namespace AE
namespace RNameG
noncomputable def body : Code := (Tryd.f48.body).getD .skip
def N : Nat := 51
noncomputable abbrev at' (N : Nat) (F : List (FOp × Value)) (C : List (FuncId × List Value × Value)) (c : Code) (s : ASt) : Option Stop := evalTo Tryd.prog F C N 1000 10 c s
noncomputable abbrev leave' (N : Nat) (F : List (FOp × Value)) (C : List (FuncId × List Value × Value)) (ks : List KI) (o : Option Stop) : Option Stop := evalLeave Tryd.prog F C N 1000 10 ks o
def s0 : ASt := { sl := slots [(0, symv 0)], ms := [], A := start }
def F0 : List (FOp × Value) := [(.len #[9] 3 (symv 0), symv 1),
    (.bin .lss 3 (symv 1) (.int .i64 1), .bool true)]
def C0 : List (FuncId × List Value × Value) := []
theorem e0 : endVal Tryd.prog Tryd.f48 (at' 51 F0 C0 body s0) = some (.bool false) := by kernel_rfl
def F1 : List (FOp × Value) := [(.len #[9] 3 (symv 0), symv 1),
    (.bin .lss 3 (symv 1) (.int .i64 1), .bool false),
    (.bin .gtr 3 (symv 1) (.int .i64 32), .bool true)]
def C1 : List (FuncId × List Value × Value) := []
theorem e1 : endVal Tryd.prog Tryd.f48 (at' 51 F1 C1 body s0) = some (.bool false) := by kernel_rfl
def F2 : List (FOp × Value) := [(.len #[9] 3 (symv 0), symv 1),
    (.bin .lss 3 (symv 1) (.int .i64 1), .bool false),
    (.bin .gtr 3 (symv 1) (.int .i64 32), .bool false)]
def C2 : List (FuncId × List Value × Value) := []
noncomputable def bks0 : List Bk := []
def head0 : Sl := slots [(3, symv 2), (0, symv 0)]
noncomputable abbrev at0 := at' 51 F2 C2 body s0
theorem e2 : headObs head0 bks0 at0 = some [(symv 0, symv 0), (.int .i64 0, symv 2)] := by kernel_rfl
def F3 : List (FOp × Value) := [(.len #[9] 3 (symv 0), symv 1),
    (.bin .lss 3 (symv 2) (symv 1), .bool true),
    (.ix 9 (symv 0) (symv 2), symv 3),
    (.bin .geq 5 (symv 3) (.int .u8 97), .bool true),
    (.bin .leq 5 (symv 3) (.int .u8 122), .bool true),
    (.bin .eql 5 (symv 3) (.int .u8 45), .bool true),
    (.bin .gtr 3 (symv 2) (.int .i64 0), .bool true),
    (.bin .sub 3 (symv 1) (.int .i64 1), symv 4),
    (.bin .lss 3 (symv 2) (symv 4), .bool true),
    (.bin .add 3 (symv 2) (.int .i64 1), symv 5)]
def C3 : List (FuncId × List Value × Value) := []
theorem e3 : backObs head0 bks0 (at' 51 F3 C3 (stopCode at0) (headSt head0 bks0)) = some [(symv 0, symv 0), (symv 5, symv 2)] := by kernel_rfl
def F4 : List (FOp × Value) := [(.len #[9] 3 (symv 0), symv 1),
    (.bin .lss 3 (symv 2) (symv 1), .bool true),
    (.ix 9 (symv 0) (symv 2), symv 3),
    (.bin .geq 5 (symv 3) (.int .u8 97), .bool true),
    (.bin .leq 5 (symv 3) (.int .u8 122), .bool true),
    (.bin .eql 5 (symv 3) (.int .u8 45), .bool true),
    (.bin .gtr 3 (symv 2) (.int .i64 0), .bool true),
    (.bin .sub 3 (symv 1) (.int .i64 1), symv 4),
    (.bin .lss 3 (symv 2) (symv 4), .bool false),
    (.bin .add 3 (symv 2) (.int .i64 1), symv 5)]
def C4 : List (FuncId × List Value × Value) := []
theorem e4 : backObs head0 bks0 (at' 51 F4 C4 (stopCode at0) (headSt head0 bks0)) = some [(symv 0, symv 0), (symv 5, symv 2)] := by kernel_rfl
def F5 : List (FOp × Value) := [(.len #[9] 3 (symv 0), symv 1),
    (.bin .lss 3 (symv 2) (symv 1), .bool true),
    (.ix 9 (symv 0) (symv 2), symv 3),
    (.bin .geq 5 (symv 3) (.int .u8 97), .bool true),
    (.bin .leq 5 (symv 3) (.int .u8 122), .bool true),
    (.bin .eql 5 (symv 3) (.int .u8 45), .bool true),
    (.bin .gtr 3 (symv 2) (.int .i64 0), .bool false),
    (.bin .add 3 (symv 2) (.int .i64 1), symv 5)]
def C5 : List (FuncId × List Value × Value) := []
theorem e5 : backObs head0 bks0 (at' 51 F5 C5 (stopCode at0) (headSt head0 bks0)) = some [(symv 0, symv 0), (symv 5, symv 2)] := by kernel_rfl
def F6 : List (FOp × Value) := [(.len #[9] 3 (symv 0), symv 1),
    (.bin .lss 3 (symv 2) (symv 1), .bool true),
    (.ix 9 (symv 0) (symv 2), symv 3),
    (.bin .geq 5 (symv 3) (.int .u8 97), .bool true),
    (.bin .leq 5 (symv 3) (.int .u8 122), .bool true),
    (.bin .eql 5 (symv 3) (.int .u8 45), .bool false),
    (.bin .add 3 (symv 2) (.int .i64 1), symv 5)]
def C6 : List (FuncId × List Value × Value) := []
theorem e6 : backObs head0 bks0 (at' 51 F6 C6 (stopCode at0) (headSt head0 bks0)) = some [(symv 0, symv 0), (symv 5, symv 2)] := by kernel_rfl
def F7 : List (FOp × Value) := [(.len #[9] 3 (symv 0), symv 1),
    (.bin .lss 3 (symv 2) (symv 1), .bool true),
    (.ix 9 (symv 0) (symv 2), symv 3),
    (.bin .geq 5 (symv 3) (.int .u8 97), .bool true),
    (.bin .leq 5 (symv 3) (.int .u8 122), .bool false),
    (.bin .eql 5 (symv 3) (.int .u8 45), .bool true),
    (.bin .gtr 3 (symv 2) (.int .i64 0), .bool true),
    (.bin .sub 3 (symv 1) (.int .i64 1), symv 4),
    (.bin .lss 3 (symv 2) (symv 4), .bool true),
    (.bin .add 3 (symv 2) (.int .i64 1), symv 5)]
def C7 : List (FuncId × List Value × Value) := []
theorem e7 : backObs head0 bks0 (at' 51 F7 C7 (stopCode at0) (headSt head0 bks0)) = some [(symv 0, symv 0), (symv 5, symv 2)] := by kernel_rfl
def F8 : List (FOp × Value) := [(.len #[9] 3 (symv 0), symv 1),
    (.bin .lss 3 (symv 2) (symv 1), .bool true),
    (.ix 9 (symv 0) (symv 2), symv 3),
    (.bin .geq 5 (symv 3) (.int .u8 97), .bool true),
    (.bin .leq 5 (symv 3) (.int .u8 122), .bool false),
    (.bin .eql 5 (symv 3) (.int .u8 45), .bool true),
    (.bin .gtr 3 (symv 2) (.int .i64 0), .bool true),
    (.bin .sub 3 (symv 1) (.int .i64 1), symv 4),
    (.bin .lss 3 (symv 2) (symv 4), .bool false)]
def C8 : List (FuncId × List Value × Value) := []
def F9 : List (FOp × Value) := []
def C9 : List (FuncId × List Value × Value) := []
theorem e8 : endVal Tryd.prog Tryd.f48 (leave' 51 F9 C9 (stopKs at0) (at' 51 F8 C8 (stopCode at0) (headSt head0 bks0))) = some (.bool false) := by kernel_rfl
def F10 : List (FOp × Value) := [(.len #[9] 3 (symv 0), symv 1),
    (.bin .lss 3 (symv 2) (symv 1), .bool true),
    (.ix 9 (symv 0) (symv 2), symv 3),
    (.bin .geq 5 (symv 3) (.int .u8 97), .bool true),
    (.bin .leq 5 (symv 3) (.int .u8 122), .bool false),
    (.bin .eql 5 (symv 3) (.int .u8 45), .bool true),
    (.bin .gtr 3 (symv 2) (.int .i64 0), .bool false)]
def C10 : List (FuncId × List Value × Value) := []
theorem e9 : endVal Tryd.prog Tryd.f48 (leave' 51 F9 C9 (stopKs at0) (at' 51 F10 C10 (stopCode at0) (headSt head0 bks0))) = some (.bool false) := by kernel_rfl
def F11 : List (FOp × Value) := [(.len #[9] 3 (symv 0), symv 1),
    (.bin .lss 3 (symv 2) (symv 1), .bool true),
    (.ix 9 (symv 0) (symv 2), symv 3),
    (.bin .geq 5 (symv 3) (.int .u8 97), .bool true),
    (.bin .leq 5 (symv 3) (.int .u8 122), .bool false),
    (.bin .eql 5 (symv 3) (.int .u8 45), .bool false)]
def C11 : List (FuncId × List Value × Value) := []
theorem e10 : endVal Tryd.prog Tryd.f48 (leave' 51 F9 C9 (stopKs at0) (at' 51 F11 C11 (stopCode at0) (headSt head0 bks0))) = some (.bool false) := by kernel_rfl
def F12 : List (FOp × Value) := [(.len #[9] 3 (symv 0), symv 1),
    (.bin .lss 3 (symv 2) (symv 1), .bool true),
    (.ix 9 (symv 0) (symv 2), symv 3),
    (.bin .geq 5 (symv 3) (.int .u8 97), .bool false),
    (.bin .eql 5 (symv 3) (.int .u8 45), .bool true),
    (.bin .gtr 3 (symv 2) (.int .i64 0), .bool true),
    (.bin .sub 3 (symv 1) (.int .i64 1), symv 4),
    (.bin .lss 3 (symv 2) (symv 4), .bool true),
    (.bin .add 3 (symv 2) (.int .i64 1), symv 5)]
def C12 : List (FuncId × List Value × Value) := []
theorem e11 : backObs head0 bks0 (at' 51 F12 C12 (stopCode at0) (headSt head0 bks0)) = some [(symv 0, symv 0), (symv 5, symv 2)] := by kernel_rfl
def F13 : List (FOp × Value) := [(.len #[9] 3 (symv 0), symv 1),
    (.bin .lss 3 (symv 2) (symv 1), .bool true),
    (.ix 9 (symv 0) (symv 2), symv 3),
    (.bin .geq 5 (symv 3) (.int .u8 97), .bool false),
    (.bin .eql 5 (symv 3) (.int .u8 45), .bool true),
    (.bin .gtr 3 (symv 2) (.int .i64 0), .bool true),
    (.bin .sub 3 (symv 1) (.int .i64 1), symv 4),
    (.bin .lss 3 (symv 2) (symv 4), .bool false)]
def C13 : List (FuncId × List Value × Value) := []
theorem e12 : endVal Tryd.prog Tryd.f48 (leave' 51 F9 C9 (stopKs at0) (at' 51 F13 C13 (stopCode at0) (headSt head0 bks0))) = some (.bool false) := by kernel_rfl
def F14 : List (FOp × Value) := [(.len #[9] 3 (symv 0), symv 1),
    (.bin .lss 3 (symv 2) (symv 1), .bool true),
    (.ix 9 (symv 0) (symv 2), symv 3),
    (.bin .geq 5 (symv 3) (.int .u8 97), .bool false),
    (.bin .eql 5 (symv 3) (.int .u8 45), .bool true),
    (.bin .gtr 3 (symv 2) (.int .i64 0), .bool false)]
def C14 : List (FuncId × List Value × Value) := []
theorem e13 : endVal Tryd.prog Tryd.f48 (leave' 51 F9 C9 (stopKs at0) (at' 51 F14 C14 (stopCode at0) (headSt head0 bks0))) = some (.bool false) := by kernel_rfl
def F15 : List (FOp × Value) := [(.len #[9] 3 (symv 0), symv 1),
    (.bin .lss 3 (symv 2) (symv 1), .bool true),
    (.ix 9 (symv 0) (symv 2), symv 3),
    (.bin .geq 5 (symv 3) (.int .u8 97), .bool false),
    (.bin .eql 5 (symv 3) (.int .u8 45), .bool false)]
def C15 : List (FuncId × List Value × Value) := []
theorem e14 : endVal Tryd.prog Tryd.f48 (leave' 51 F9 C9 (stopKs at0) (at' 51 F15 C15 (stopCode at0) (headSt head0 bks0))) = some (.bool false) := by kernel_rfl
def F16 : List (FOp × Value) := [(.len #[9] 3 (symv 0), symv 1),
    (.bin .lss 3 (symv 2) (symv 1), .bool false)]
def C16 : List (FuncId × List Value × Value) := []
theorem e15 : endVal Tryd.prog Tryd.f48 (leave' 51 F9 C9 (stopKs at0) (at' 51 F16 C16 (stopCode at0) (headSt head0 bks0))) = some (.bool true) := by kernel_rfl
@[reducible] noncomputable def vL (s : Bs) (i : Nat) : List Value := [strV s, .int .i64 ((s.length : Nat) : Int), .int .i64 ((i : Nat) : Int), .int .u8 (((s.getD i 0).toNat : Nat) : Int), .int .i64 (((s.length : Nat) : Int) - 1), .int .i64 ((i + 1 : Nat) : Int)]
@[reducible] noncomputable def sg (M : Mem) (s : Bs) (i : Nat) : Sig := sgL M (vL s i)
set_option maxHeartbeats 4000000 in
theorem any (W : World) (s : Bs)  : Calls Tryd.prog 48 #[strV s] W fun e w' => e = .returned (.bool (decide (nameP s))) ∧ Low W.heap.size W w' := by
  refine @walk_enter (sg (heapOf W) s 0) Tryd.prog 48 Tryd.f48 body [symv 0] (slots [(0, symv 0)]) N W _ Tryd.func48 (by kernel_rfl) (by kernel_rfl) (by kernel_rfl) (by kernel_rfl) (immW_sgL W _) fun a hh => ?_
  letI := (sg (heapOf W) s 0)
  by_cases h0 : ((s.length : Nat) : Int) < 1
  · refine walk_to (F := F0) (T := C0) (fuel := 1000) (d := 10) mixed (aFc (FactOk.strLen rfl rfl underStr rfl rfl) (aFc (FactOk.bi rfl rfl rfl rfl rfl rfl (boolT (by omega))) aFn)) aCn ?_ hh
    exact ostop_end e0 fun w2 hLow hIn => ⟨(by first | (rw [decide_eq_false (fun h : nameP s => by have := h.1; omega)]; rfl) | (rw [decide_eq_false (goodAt_bad (i := i) (by omega) (by unfold goodAt; omega))]; rfl) | (rw [decide_eq_true (goodAt_ok (by omega) (by omega) (fun j hj => hI.2 j (by omega)))]; rfl)), hLow⟩
  · by_cases h1 : 32 < ((s.length : Nat) : Int)
    · refine walk_to (F := F1) (T := C1) (fuel := 1000) (d := 10) mixed (aFc (FactOk.strLen rfl rfl underStr rfl rfl) (aFc (FactOk.bi rfl rfl rfl rfl rfl rfl (boolF (by omega))) (aFc (FactOk.bi rfl rfl rfl rfl rfl rfl (boolT (by omega))) aFn))) aCn ?_ hh
      exact ostop_end e1 fun w2 hLow hIn => ⟨(by first | (rw [decide_eq_false (fun h : nameP s => by have := h.1; omega)]; rfl) | (rw [decide_eq_false (goodAt_bad (i := i) (by omega) (by unfold goodAt; omega))]; rfl) | (rw [decide_eq_true (goodAt_ok (by omega) (by omega) (fun j hj => hI.2 j (by omega)))]; rfl)), hLow⟩
    · refine walk_to (F := F2) (T := C2) (fuel := 1000) (d := 10) mixed (aFc (FactOk.strLen rfl rfl underStr rfl rfl) (aFc (FactOk.bi rfl rfl rfl rfl rfl rfl (boolF (by omega))) (aFc (FactOk.bi rfl rfl rfl rfl rfl rfl (boolF (by omega))) aFn))) aCn ?_ hh
      refine ostop_loop (sg := (fun i => sg (heapOf W) s i)) (fun i => i ≤ s.length ∧ ∀ j, j < i → goodAt s j) (fun i => s.length - i) 0 e2 (meet_cons (by exact meetV (strV s) rfl rfl) (meet_cons (by first | rfl | exact meetInt (by omega)) meet_nil)) (fun _ _ h => h) (by exact ⟨Nat.zero_le _, fun j h => absurd h (Nat.not_lt_zero _)⟩) ?_
      intro i hI aC w hh
      letI := (sg (heapOf W) s i)
      by_cases p0 : ((i : Nat) : Int) < ((s.length : Nat) : Int)
      · by_cases p1 : 97 ≤ (((s.getD i 0).toNat : Nat) : Int)
        · by_cases p2 : (((s.getD i 0).toNat : Nat) : Int) ≤ 122
          · by_cases p3 : (((s.getD i 0).toNat : Nat) : Int) = 45
            · by_cases p4 : 0 < ((i : Nat) : Int)
              · by_cases p5 : ((i : Nat) : Int) < (((s.length : Nat) : Int) - 1)
                · refine walk_to (F := F3) (T := C3) (fuel := 1000) (d := 10) mixed (aFc (FactOk.strLen rfl rfl underStr rfl rfl) (aFc (FactOk.bi rfl rfl rfl rfl rfl rfl (boolT (by omega))) (aFc (FactOk.strIx (l := s) (j := i) (show i < s.length by omega) rfl rfl rfl underStr rfl rfl rfl) (aFc (FactOk.bi rfl rfl rfl rfl rfl rfl (boolT (by omega))) (aFc (FactOk.bi rfl rfl rfl rfl rfl rfl (boolT (by omega))) (aFc (FactOk.bi rfl rfl rfl rfl rfl rfl (boolT (by omega))) (aFc (FactOk.bi rfl rfl rfl rfl rfl rfl (boolT (by omega))) (aFc (FactOk.bi rfl rfl rfl rfl rfl rfl (intI (by omega) (by omega) (by omega))) (aFc (FactOk.bi rfl rfl rfl rfl rfl rfl (boolT (by omega))) (aFc (FactOk.bi rfl rfl rfl rfl rfl rfl (intI (by omega) (by omega) (by omega))) aFn)))))))))) aCn ?_ hh
                  exact ostop_backM (s1 := (sg (heapOf W) s i)) (sg := (fun i => sg (heapOf W) s i)) (I := fun i => i ≤ s.length ∧ ∀ j, j < i → goodAt s j) (μ := fun i => s.length - i) (x := i) (i + 1) e3 (meet_cons (by exact meetV (strV s) rfl rfl) (meet_cons (by first | exact meetV (.int .i64 ((i + 1 : Nat) : Int)) rfl rfl | exact meetI rfl rfl (by omega)) meet_nil)) (fun _ _ h => h) (by exact ⟨by omega, fun j h => by rcases Nat.lt_or_ge j i with h1 | h1; exact hI.2 j h1; obtain rfl : j = i := (by omega); unfold goodAt; omega⟩) (by (try dsimp only); omega)
                · refine walk_to (F := F4) (T := C4) (fuel := 1000) (d := 10) mixed (aFc (FactOk.strLen rfl rfl underStr rfl rfl) (aFc (FactOk.bi rfl rfl rfl rfl rfl rfl (boolT (by omega))) (aFc (FactOk.strIx (l := s) (j := i) (show i < s.length by omega) rfl rfl rfl underStr rfl rfl rfl) (aFc (FactOk.bi rfl rfl rfl rfl rfl rfl (boolT (by omega))) (aFc (FactOk.bi rfl rfl rfl rfl rfl rfl (boolT (by omega))) (aFc (FactOk.bi rfl rfl rfl rfl rfl rfl (boolT (by omega))) (aFc (FactOk.bi rfl rfl rfl rfl rfl rfl (boolT (by omega))) (aFc (FactOk.bi rfl rfl rfl rfl rfl rfl (intI (by omega) (by omega) (by omega))) (aFc (FactOk.bi rfl rfl rfl rfl rfl rfl (boolF (by omega))) (aFc (FactOk.bi rfl rfl rfl rfl rfl rfl (intI (by omega) (by omega) (by omega))) aFn)))))))))) aCn ?_ hh
                  exact ostop_backM (s1 := (sg (heapOf W) s i)) (sg := (fun i => sg (heapOf W) s i)) (I := fun i => i ≤ s.length ∧ ∀ j, j < i → goodAt s j) (μ := fun i => s.length - i) (x := i) (i + 1) e4 (meet_cons (by exact meetV (strV s) rfl rfl) (meet_cons (by first | exact meetV (.int .i64 ((i + 1 : Nat) : Int)) rfl rfl | exact meetI rfl rfl (by omega)) meet_nil)) (fun _ _ h => h) (by exact ⟨by omega, fun j h => by rcases Nat.lt_or_ge j i with h1 | h1; exact hI.2 j h1; obtain rfl : j = i := (by omega); unfold goodAt; omega⟩) (by (try dsimp only); omega)
              · refine walk_to (F := F5) (T := C5) (fuel := 1000) (d := 10) mixed (aFc (FactOk.strLen rfl rfl underStr rfl rfl) (aFc (FactOk.bi rfl rfl rfl rfl rfl rfl (boolT (by omega))) (aFc (FactOk.strIx (l := s) (j := i) (show i < s.length by omega) rfl rfl rfl underStr rfl rfl rfl) (aFc (FactOk.bi rfl rfl rfl rfl rfl rfl (boolT (by omega))) (aFc (FactOk.bi rfl rfl rfl rfl rfl rfl (boolT (by omega))) (aFc (FactOk.bi rfl rfl rfl rfl rfl rfl (boolT (by omega))) (aFc (FactOk.bi rfl rfl rfl rfl rfl rfl (boolF (by omega))) (aFc (FactOk.bi rfl rfl rfl rfl rfl rfl (intI (by omega) (by omega) (by omega))) aFn)))))))) aCn ?_ hh
                exact ostop_backM (s1 := (sg (heapOf W) s i)) (sg := (fun i => sg (heapOf W) s i)) (I := fun i => i ≤ s.length ∧ ∀ j, j < i → goodAt s j) (μ := fun i => s.length - i) (x := i) (i + 1) e5 (meet_cons (by exact meetV (strV s) rfl rfl) (meet_cons (by first | exact meetV (.int .i64 ((i + 1 : Nat) : Int)) rfl rfl | exact meetI rfl rfl (by omega)) meet_nil)) (fun _ _ h => h) (by exact ⟨by omega, fun j h => by rcases Nat.lt_or_ge j i with h1 | h1; exact hI.2 j h1; obtain rfl : j = i := (by omega); unfold goodAt; omega⟩) (by (try dsimp only); omega)
            · refine walk_to (F := F6) (T := C6) (fuel := 1000) (d := 10) mixed (aFc (FactOk.strLen rfl rfl underStr rfl rfl) (aFc (FactOk.bi rfl rfl rfl rfl rfl rfl (boolT (by omega))) (aFc (FactOk.strIx (l := s) (j := i) (show i < s.length by omega) rfl rfl rfl underStr rfl rfl rfl) (aFc (FactOk.bi rfl rfl rfl rfl rfl rfl (boolT (by omega))) (aFc (FactOk.bi rfl rfl rfl rfl rfl rfl (boolT (by omega))) (aFc (FactOk.bi rfl rfl rfl rfl rfl rfl (boolF (by omega))) (aFc (FactOk.bi rfl rfl rfl rfl rfl rfl (intI (by omega) (by omega) (by omega))) aFn))))))) aCn ?_ hh
              exact ostop_backM (s1 := (sg (heapOf W) s i)) (sg := (fun i => sg (heapOf W) s i)) (I := fun i => i ≤ s.length ∧ ∀ j, j < i → goodAt s j) (μ := fun i => s.length - i) (x := i) (i + 1) e6 (meet_cons (by exact meetV (strV s) rfl rfl) (meet_cons (by first | exact meetV (.int .i64 ((i + 1 : Nat) : Int)) rfl rfl | exact meetI rfl rfl (by omega)) meet_nil)) (fun _ _ h => h) (by exact ⟨by omega, fun j h => by rcases Nat.lt_or_ge j i with h1 | h1; exact hI.2 j h1; obtain rfl : j = i := (by omega); unfold goodAt; omega⟩) (by (try dsimp only); omega)
          · by_cases p3 : (((s.getD i 0).toNat : Nat) : Int) = 45
            · by_cases p4 : 0 < ((i : Nat) : Int)
              · by_cases p5 : ((i : Nat) : Int) < (((s.length : Nat) : Int) - 1)
                · refine walk_to (F := F7) (T := C7) (fuel := 1000) (d := 10) mixed (aFc (FactOk.strLen rfl rfl underStr rfl rfl) (aFc (FactOk.bi rfl rfl rfl rfl rfl rfl (boolT (by omega))) (aFc (FactOk.strIx (l := s) (j := i) (show i < s.length by omega) rfl rfl rfl underStr rfl rfl rfl) (aFc (FactOk.bi rfl rfl rfl rfl rfl rfl (boolT (by omega))) (aFc (FactOk.bi rfl rfl rfl rfl rfl rfl (boolF (by omega))) (aFc (FactOk.bi rfl rfl rfl rfl rfl rfl (boolT (by omega))) (aFc (FactOk.bi rfl rfl rfl rfl rfl rfl (boolT (by omega))) (aFc (FactOk.bi rfl rfl rfl rfl rfl rfl (intI (by omega) (by omega) (by omega))) (aFc (FactOk.bi rfl rfl rfl rfl rfl rfl (boolT (by omega))) (aFc (FactOk.bi rfl rfl rfl rfl rfl rfl (intI (by omega) (by omega) (by omega))) aFn)))))))))) aCn ?_ hh
                  exact ostop_backM (s1 := (sg (heapOf W) s i)) (sg := (fun i => sg (heapOf W) s i)) (I := fun i => i ≤ s.length ∧ ∀ j, j < i → goodAt s j) (μ := fun i => s.length - i) (x := i) (i + 1) e7 (meet_cons (by exact meetV (strV s) rfl rfl) (meet_cons (by first | exact meetV (.int .i64 ((i + 1 : Nat) : Int)) rfl rfl | exact meetI rfl rfl (by omega)) meet_nil)) (fun _ _ h => h) (by exact ⟨by omega, fun j h => by rcases Nat.lt_or_ge j i with h1 | h1; exact hI.2 j h1; obtain rfl : j = i := (by omega); unfold goodAt; omega⟩) (by (try dsimp only); omega)
                · refine walk_to (F := F8) (T := C8) (fuel := 1000) (d := 10) mixed (aFc (FactOk.strLen rfl rfl underStr rfl rfl) (aFc (FactOk.bi rfl rfl rfl rfl rfl rfl (boolT (by omega))) (aFc (FactOk.strIx (l := s) (j := i) (show i < s.length by omega) rfl rfl rfl underStr rfl rfl rfl) (aFc (FactOk.bi rfl rfl rfl rfl rfl rfl (boolT (by omega))) (aFc (FactOk.bi rfl rfl rfl rfl rfl rfl (boolF (by omega))) (aFc (FactOk.bi rfl rfl rfl rfl rfl rfl (boolT (by omega))) (aFc (FactOk.bi rfl rfl rfl rfl rfl rfl (boolT (by omega))) (aFc (FactOk.bi rfl rfl rfl rfl rfl rfl (intI (by omega) (by omega) (by omega))) (aFc (FactOk.bi rfl rfl rfl rfl rfl rfl (boolF (by omega))) aFn))))))))) aCn ?_ hh
                  refine walk_leave (F := F9) (T := C9) (fuel := 1000) (d := 10) mixed aFn aCn ?_
                  exact ostop_end e8 fun w2 hLow hIn => ⟨(by first | (rw [decide_eq_false (fun h : nameP s => by have := h.1; omega)]; rfl) | (rw [decide_eq_false (goodAt_bad (i := i) (by omega) (by unfold goodAt; omega))]; rfl) | (rw [decide_eq_true (goodAt_ok (by omega) (by omega) (fun j hj => hI.2 j (by omega)))]; rfl)), hLow⟩
              · refine walk_to (F := F10) (T := C10) (fuel := 1000) (d := 10) mixed (aFc (FactOk.strLen rfl rfl underStr rfl rfl) (aFc (FactOk.bi rfl rfl rfl rfl rfl rfl (boolT (by omega))) (aFc (FactOk.strIx (l := s) (j := i) (show i < s.length by omega) rfl rfl rfl underStr rfl rfl rfl) (aFc (FactOk.bi rfl rfl rfl rfl rfl rfl (boolT (by omega))) (aFc (FactOk.bi rfl rfl rfl rfl rfl rfl (boolF (by omega))) (aFc (FactOk.bi rfl rfl rfl rfl rfl rfl (boolT (by omega))) (aFc (FactOk.bi rfl rfl rfl rfl rfl rfl (boolF (by omega))) aFn))))))) aCn ?_ hh
                refine walk_leave (F := F9) (T := C9) (fuel := 1000) (d := 10) mixed aFn aCn ?_
                exact ostop_end e9 fun w2 hLow hIn => ⟨(by first | (rw [decide_eq_false (fun h : nameP s => by have := h.1; omega)]; rfl) | (rw [decide_eq_false (goodAt_bad (i := i) (by omega) (by unfold goodAt; omega))]; rfl) | (rw [decide_eq_true (goodAt_ok (by omega) (by omega) (fun j hj => hI.2 j (by omega)))]; rfl)), hLow⟩
            · refine walk_to (F := F11) (T := C11) (fuel := 1000) (d := 10) mixed (aFc (FactOk.strLen rfl rfl underStr rfl rfl) (aFc (FactOk.bi rfl rfl rfl rfl rfl rfl (boolT (by omega))) (aFc (FactOk.strIx (l := s) (j := i) (show i < s.length by omega) rfl rfl rfl underStr rfl rfl rfl) (aFc (FactOk.bi rfl rfl rfl rfl rfl rfl (boolT (by omega))) (aFc (FactOk.bi rfl rfl rfl rfl rfl rfl (boolF (by omega))) (aFc (FactOk.bi rfl rfl rfl rfl rfl rfl (boolF (by omega))) aFn)))))) aCn ?_ hh
              refine walk_leave (F := F9) (T := C9) (fuel := 1000) (d := 10) mixed aFn aCn ?_
              exact ostop_end e10 fun w2 hLow hIn => ⟨(by first | (rw [decide_eq_false (fun h : nameP s => by have := h.1; omega)]; rfl) | (rw [decide_eq_false (goodAt_bad (i := i) (by omega) (by unfold goodAt; omega))]; rfl) | (rw [decide_eq_true (goodAt_ok (by omega) (by omega) (fun j hj => hI.2 j (by omega)))]; rfl)), hLow⟩
        · by_cases p2 : (((s.getD i 0).toNat : Nat) : Int) = 45
          · by_cases p3 : 0 < ((i : Nat) : Int)
            · by_cases p4 : ((i : Nat) : Int) < (((s.length : Nat) : Int) - 1)
              · refine walk_to (F := F12) (T := C12) (fuel := 1000) (d := 10) mixed (aFc (FactOk.strLen rfl rfl underStr rfl rfl) (aFc (FactOk.bi rfl rfl rfl rfl rfl rfl (boolT (by omega))) (aFc (FactOk.strIx (l := s) (j := i) (show i < s.length by omega) rfl rfl rfl underStr rfl rfl rfl) (aFc (FactOk.bi rfl rfl rfl rfl rfl rfl (boolF (by omega))) (aFc (FactOk.bi rfl rfl rfl rfl rfl rfl (boolT (by omega))) (aFc (FactOk.bi rfl rfl rfl rfl rfl rfl (boolT (by omega))) (aFc (FactOk.bi rfl rfl rfl rfl rfl rfl (intI (by omega) (by omega) (by omega))) (aFc (FactOk.bi rfl rfl rfl rfl rfl rfl (boolT (by omega))) (aFc (FactOk.bi rfl rfl rfl rfl rfl rfl (intI (by omega) (by omega) (by omega))) aFn))))))))) aCn ?_ hh
                exact ostop_backM (s1 := (sg (heapOf W) s i)) (sg := (fun i => sg (heapOf W) s i)) (I := fun i => i ≤ s.length ∧ ∀ j, j < i → goodAt s j) (μ := fun i => s.length - i) (x := i) (i + 1) e11 (meet_cons (by exact meetV (strV s) rfl rfl) (meet_cons (by first | exact meetV (.int .i64 ((i + 1 : Nat) : Int)) rfl rfl | exact meetI rfl rfl (by omega)) meet_nil)) (fun _ _ h => h) (by exact ⟨by omega, fun j h => by rcases Nat.lt_or_ge j i with h1 | h1; exact hI.2 j h1; obtain rfl : j = i := (by omega); unfold goodAt; omega⟩) (by (try dsimp only); omega)
              · refine walk_to (F := F13) (T := C13) (fuel := 1000) (d := 10) mixed (aFc (FactOk.strLen rfl rfl underStr rfl rfl) (aFc (FactOk.bi rfl rfl rfl rfl rfl rfl (boolT (by omega))) (aFc (FactOk.strIx (l := s) (j := i) (show i < s.length by omega) rfl rfl rfl underStr rfl rfl rfl) (aFc (FactOk.bi rfl rfl rfl rfl rfl rfl (boolF (by omega))) (aFc (FactOk.bi rfl rfl rfl rfl rfl rfl (boolT (by omega))) (aFc (FactOk.bi rfl rfl rfl rfl rfl rfl (boolT (by omega))) (aFc (FactOk.bi rfl rfl rfl rfl rfl rfl (intI (by omega) (by omega) (by omega))) (aFc (FactOk.bi rfl rfl rfl rfl rfl rfl (boolF (by omega))) aFn)))))))) aCn ?_ hh
                refine walk_leave (F := F9) (T := C9) (fuel := 1000) (d := 10) mixed aFn aCn ?_
                exact ostop_end e12 fun w2 hLow hIn => ⟨(by first | (rw [decide_eq_false (fun h : nameP s => by have := h.1; omega)]; rfl) | (rw [decide_eq_false (goodAt_bad (i := i) (by omega) (by unfold goodAt; omega))]; rfl) | (rw [decide_eq_true (goodAt_ok (by omega) (by omega) (fun j hj => hI.2 j (by omega)))]; rfl)), hLow⟩
            · refine walk_to (F := F14) (T := C14) (fuel := 1000) (d := 10) mixed (aFc (FactOk.strLen rfl rfl underStr rfl rfl) (aFc (FactOk.bi rfl rfl rfl rfl rfl rfl (boolT (by omega))) (aFc (FactOk.strIx (l := s) (j := i) (show i < s.length by omega) rfl rfl rfl underStr rfl rfl rfl) (aFc (FactOk.bi rfl rfl rfl rfl rfl rfl (boolF (by omega))) (aFc (FactOk.bi rfl rfl rfl rfl rfl rfl (boolT (by omega))) (aFc (FactOk.bi rfl rfl rfl rfl rfl rfl (boolF (by omega))) aFn)))))) aCn ?_ hh
              refine walk_leave (F := F9) (T := C9) (fuel := 1000) (d := 10) mixed aFn aCn ?_
              exact ostop_end e13 fun w2 hLow hIn => ⟨(by first | (rw [decide_eq_false (fun h : nameP s => by have := h.1; omega)]; rfl) | (rw [decide_eq_false (goodAt_bad (i := i) (by omega) (by unfold goodAt; omega))]; rfl) | (rw [decide_eq_true (goodAt_ok (by omega) (by omega) (fun j hj => hI.2 j (by omega)))]; rfl)), hLow⟩
          · refine walk_to (F := F15) (T := C15) (fuel := 1000) (d := 10) mixed (aFc (FactOk.strLen rfl rfl underStr rfl rfl) (aFc (FactOk.bi rfl rfl rfl rfl rfl rfl (boolT (by omega))) (aFc (FactOk.strIx (l := s) (j := i) (show i < s.length by omega) rfl rfl rfl underStr rfl rfl rfl) (aFc (FactOk.bi rfl rfl rfl rfl rfl rfl (boolF (by omega))) (aFc (FactOk.bi rfl rfl rfl rfl rfl rfl (boolF (by omega))) aFn))))) aCn ?_ hh
            refine walk_leave (F := F9) (T := C9) (fuel := 1000) (d := 10) mixed aFn aCn ?_
            exact ostop_end e14 fun w2 hLow hIn => ⟨(by first | (rw [decide_eq_false (fun h : nameP s => by have := h.1; omega)]; rfl) | (rw [decide_eq_false (goodAt_bad (i := i) (by omega) (by unfold goodAt; omega))]; rfl) | (rw [decide_eq_true (goodAt_ok (by omega) (by omega) (fun j hj => hI.2 j (by omega)))]; rfl)), hLow⟩
      · refine walk_to (F := F16) (T := C16) (fuel := 1000) (d := 10) mixed (aFc (FactOk.strLen rfl rfl underStr rfl rfl) (aFc (FactOk.bi rfl rfl rfl rfl rfl rfl (boolF (by omega))) aFn)) aCn ?_ hh
        refine walk_leave (F := F9) (T := C9) (fuel := 1000) (d := 10) mixed aFn aCn ?_
        exact ostop_end e15 fun w2 hLow hIn => ⟨(by first | (rw [decide_eq_false (fun h : nameP s => by have := h.1; omega)]; rfl) | (rw [decide_eq_false (goodAt_bad (i := i) (by omega) (by unfold goodAt; omega))]; rfl) | (rw [decide_eq_true (goodAt_ok (by omega) (by omega) (fun j hj => hI.2 j (by omega)))]; rfl)), hLow⟩
end RNameG
end AE
end Go.Proofs.YtblhndlmgibljaaDoor

/- What the reference's isName answers, as a fact. -/
namespace Go.Proofs.YtblhndlmgibljaaDoor
open Go Go.Proofs Go.RowKit
namespace AE
variable [Sig]
theorem callRNameT {x : Value} {s : Bs} (hp : plainSL [x] = true) (ev : interpL [x] = [strV s]) (h : nameP s) : CallFactOk Tryd.prog (48, [x], .bool true) :=
  callAny (a := #[strV s]) hp rfl ev rfl fun w _ => (RNameG.any w s).mono fun e w' h' => by rw [decide_eq_true h] at h'; exact h'
theorem callRNameF {x : Value} {s : Bs} (hp : plainSL [x] = true) (ev : interpL [x] = [strV s]) (h : ¬ nameP s) : CallFactOk Tryd.prog (48, [x], .bool false) :=
  callAny (a := #[strV s]) hp rfl ev rfl fun w _ => (RNameG.any w s).mono fun e w' h' => by rw [decide_eq_false h] at h'; exact h'
end AE
end Go.Proofs.YtblhndlmgibljaaDoor

/- the walk of the reference's valid -/
namespace Go.Proofs.YtblhndlmgibljaaDoor
open Go Go.Proofs Go.RowKit
set_option maxRecDepth 100000
namespace AE
namespace RValMG
noncomputable def body : Code := (Tryd.f31.body).getD .skip
def N : Nat := 54
noncomputable abbrev at' (N : Nat) (F : List (FOp × Value)) (C : List (FuncId × List Value × Value)) (c : Code) (s : ASt) : Option Stop := evalTo Tryd.prog F C N 1000 10 c s
def s0 : ASt := { sl := slots [(0, .agg ⟨[symv 0, symv 1, symv 2, symv 3, symv 4, symv 5, symv 6, symv 7]⟩)], ms := [], A := start }
def F0 : List (FOp × Value) := [(.bin .lss 3 (symv 5) (.int .i64 0), .bool true)]
def C0 : List (FuncId × List Value × Value) := []
theorem e0 : endVal Tryd.prog Tryd.f31 (at' 54 F0 C0 body s0) = some (.bool false) := by kernel_rfl
def F1 : List (FOp × Value) := [(.bin .lss 3 (symv 5) (.int .i64 0), .bool false),
    (.bin .gtr 3 (symv 5) (.int .i64 15), .bool true)]
def C1 : List (FuncId × List Value × Value) := []
theorem e1 : endVal Tryd.prog Tryd.f31 (at' 54 F1 C1 body s0) = some (.bool false) := by kernel_rfl
def F2 : List (FOp × Value) := [(.bin .lss 3 (symv 5) (.int .i64 0), .bool false),
    (.bin .gtr 3 (symv 5) (.int .i64 15), .bool false),
    (.bin .lss 3 (symv 6) (.int .i64 0), .bool true)]
def C2 : List (FuncId × List Value × Value) := []
theorem e2 : endVal Tryd.prog Tryd.f31 (at' 54 F2 C2 body s0) = some (.bool false) := by kernel_rfl
def F3 : List (FOp × Value) := [(.bin .lss 3 (symv 5) (.int .i64 0), .bool false),
    (.bin .gtr 3 (symv 5) (.int .i64 15), .bool false),
    (.bin .lss 3 (symv 6) (.int .i64 0), .bool false),
    (.bin .gtr 3 (symv 6) (.int .i64 15), .bool true)]
def C3 : List (FuncId × List Value × Value) := []
theorem e3 : endVal Tryd.prog Tryd.f31 (at' 54 F3 C3 body s0) = some (.bool false) := by kernel_rfl
def F4 : List (FOp × Value) := [(.bin .lss 3 (symv 5) (.int .i64 0), .bool false),
    (.bin .gtr 3 (symv 5) (.int .i64 15), .bool false),
    (.bin .lss 3 (symv 6) (.int .i64 0), .bool false),
    (.bin .gtr 3 (symv 6) (.int .i64 15), .bool false),
    (.bin .lss 3 (symv 7) (.int .i64 0), .bool true)]
def C4 : List (FuncId × List Value × Value) := []
theorem e4 : endVal Tryd.prog Tryd.f31 (at' 54 F4 C4 body s0) = some (.bool false) := by kernel_rfl
def F5 : List (FOp × Value) := [(.bin .lss 3 (symv 5) (.int .i64 0), .bool false),
    (.bin .gtr 3 (symv 5) (.int .i64 15), .bool false),
    (.bin .lss 3 (symv 6) (.int .i64 0), .bool false),
    (.bin .gtr 3 (symv 6) (.int .i64 15), .bool false),
    (.bin .lss 3 (symv 7) (.int .i64 0), .bool false),
    (.bin .gtr 3 (symv 7) (.int .i64 15), .bool true)]
def C5 : List (FuncId × List Value × Value) := []
theorem e5 : endVal Tryd.prog Tryd.f31 (at' 54 F5 C5 body s0) = some (.bool false) := by kernel_rfl
def F6 : List (FOp × Value) := [(.bin .lss 3 (symv 5) (.int .i64 0), .bool false),
    (.bin .gtr 3 (symv 5) (.int .i64 15), .bool false),
    (.bin .lss 3 (symv 6) (.int .i64 0), .bool false),
    (.bin .gtr 3 (symv 6) (.int .i64 15), .bool false),
    (.bin .lss 3 (symv 7) (.int .i64 0), .bool false),
    (.bin .gtr 3 (symv 7) (.int .i64 15), .bool false),
    (.un .not (symv 1), .bool false),
    (.un .not (symv 2), .bool false)]
def C6 : List (FuncId × List Value × Value) := [(48, [symv 0], .bool true)]
theorem e6 : endVal Tryd.prog Tryd.f31 (at' 54 F6 C6 body s0) = some (.bool false) := by kernel_rfl
def F7 : List (FOp × Value) := [(.bin .lss 3 (symv 5) (.int .i64 0), .bool false),
    (.bin .gtr 3 (symv 5) (.int .i64 15), .bool false),
    (.bin .lss 3 (symv 6) (.int .i64 0), .bool false),
    (.bin .gtr 3 (symv 6) (.int .i64 15), .bool false),
    (.bin .lss 3 (symv 7) (.int .i64 0), .bool false),
    (.bin .gtr 3 (symv 7) (.int .i64 15), .bool false),
    (.un .not (symv 1), .bool false),
    (.un .not (symv 2), .bool true),
    (.un .not (symv 3), .bool false),
    (.tru (symv 1), .bool true),
    (.bin .geq 3 (symv 4) (.int .i64 1), .bool true),
    (.bin .leq 3 (symv 4) (.int .i64 16), .bool true)]
def C7 : List (FuncId × List Value × Value) := [(48, [symv 0], .bool true)]
theorem e7 : endVal Tryd.prog Tryd.f31 (at' 54 F7 C7 body s0) = some (.bool true) := by kernel_rfl
def F8 : List (FOp × Value) := [(.bin .lss 3 (symv 5) (.int .i64 0), .bool false),
    (.bin .gtr 3 (symv 5) (.int .i64 15), .bool false),
    (.bin .lss 3 (symv 6) (.int .i64 0), .bool false),
    (.bin .gtr 3 (symv 6) (.int .i64 15), .bool false),
    (.bin .lss 3 (symv 7) (.int .i64 0), .bool false),
    (.bin .gtr 3 (symv 7) (.int .i64 15), .bool false),
    (.un .not (symv 1), .bool false),
    (.un .not (symv 2), .bool true),
    (.un .not (symv 3), .bool false),
    (.tru (symv 1), .bool true),
    (.bin .geq 3 (symv 4) (.int .i64 1), .bool true),
    (.bin .leq 3 (symv 4) (.int .i64 16), .bool false)]
def C8 : List (FuncId × List Value × Value) := [(48, [symv 0], .bool true)]
theorem e8 : endVal Tryd.prog Tryd.f31 (at' 54 F8 C8 body s0) = some (.bool false) := by kernel_rfl
def F9 : List (FOp × Value) := [(.bin .lss 3 (symv 5) (.int .i64 0), .bool false),
    (.bin .gtr 3 (symv 5) (.int .i64 15), .bool false),
    (.bin .lss 3 (symv 6) (.int .i64 0), .bool false),
    (.bin .gtr 3 (symv 6) (.int .i64 15), .bool false),
    (.bin .lss 3 (symv 7) (.int .i64 0), .bool false),
    (.bin .gtr 3 (symv 7) (.int .i64 15), .bool false),
    (.un .not (symv 1), .bool false),
    (.un .not (symv 2), .bool true),
    (.un .not (symv 3), .bool false),
    (.tru (symv 1), .bool true),
    (.bin .geq 3 (symv 4) (.int .i64 1), .bool false)]
def C9 : List (FuncId × List Value × Value) := [(48, [symv 0], .bool true)]
theorem e9 : endVal Tryd.prog Tryd.f31 (at' 54 F9 C9 body s0) = some (.bool false) := by kernel_rfl
def F10 : List (FOp × Value) := [(.bin .lss 3 (symv 5) (.int .i64 0), .bool false),
    (.bin .gtr 3 (symv 5) (.int .i64 15), .bool false),
    (.bin .lss 3 (symv 6) (.int .i64 0), .bool false),
    (.bin .gtr 3 (symv 6) (.int .i64 15), .bool false),
    (.bin .lss 3 (symv 7) (.int .i64 0), .bool false),
    (.bin .gtr 3 (symv 7) (.int .i64 15), .bool false),
    (.un .not (symv 1), .bool false),
    (.un .not (symv 2), .bool true),
    (.un .not (symv 3), .bool true),
    (.bin .geq 3 (symv 4) (.int .i64 1), .bool true),
    (.bin .leq 3 (symv 4) (.int .i64 16), .bool true)]
def C10 : List (FuncId × List Value × Value) := [(48, [symv 0], .bool true)]
theorem e10 : endVal Tryd.prog Tryd.f31 (at' 54 F10 C10 body s0) = some (.bool true) := by kernel_rfl
def F11 : List (FOp × Value) := [(.bin .lss 3 (symv 5) (.int .i64 0), .bool false),
    (.bin .gtr 3 (symv 5) (.int .i64 15), .bool false),
    (.bin .lss 3 (symv 6) (.int .i64 0), .bool false),
    (.bin .gtr 3 (symv 6) (.int .i64 15), .bool false),
    (.bin .lss 3 (symv 7) (.int .i64 0), .bool false),
    (.bin .gtr 3 (symv 7) (.int .i64 15), .bool false),
    (.un .not (symv 1), .bool false),
    (.un .not (symv 2), .bool true),
    (.un .not (symv 3), .bool true),
    (.bin .geq 3 (symv 4) (.int .i64 1), .bool true),
    (.bin .leq 3 (symv 4) (.int .i64 16), .bool false)]
def C11 : List (FuncId × List Value × Value) := [(48, [symv 0], .bool true)]
theorem e11 : endVal Tryd.prog Tryd.f31 (at' 54 F11 C11 body s0) = some (.bool false) := by kernel_rfl
def F12 : List (FOp × Value) := [(.bin .lss 3 (symv 5) (.int .i64 0), .bool false),
    (.bin .gtr 3 (symv 5) (.int .i64 15), .bool false),
    (.bin .lss 3 (symv 6) (.int .i64 0), .bool false),
    (.bin .gtr 3 (symv 6) (.int .i64 15), .bool false),
    (.bin .lss 3 (symv 7) (.int .i64 0), .bool false),
    (.bin .gtr 3 (symv 7) (.int .i64 15), .bool false),
    (.un .not (symv 1), .bool false),
    (.un .not (symv 2), .bool true),
    (.un .not (symv 3), .bool true),
    (.bin .geq 3 (symv 4) (.int .i64 1), .bool false)]
def C12 : List (FuncId × List Value × Value) := [(48, [symv 0], .bool true)]
theorem e12 : endVal Tryd.prog Tryd.f31 (at' 54 F12 C12 body s0) = some (.bool false) := by kernel_rfl
def F13 : List (FOp × Value) := [(.bin .lss 3 (symv 5) (.int .i64 0), .bool false),
    (.bin .gtr 3 (symv 5) (.int .i64 15), .bool false),
    (.bin .lss 3 (symv 6) (.int .i64 0), .bool false),
    (.bin .gtr 3 (symv 6) (.int .i64 15), .bool false),
    (.bin .lss 3 (symv 7) (.int .i64 0), .bool false),
    (.bin .gtr 3 (symv 7) (.int .i64 15), .bool false),
    (.un .not (symv 1), .bool true),
    (.un .not (symv 3), .bool false),
    (.tru (symv 1), .bool false)]
def C13 : List (FuncId × List Value × Value) := [(48, [symv 0], .bool true)]
theorem e13 : endVal Tryd.prog Tryd.f31 (at' 54 F13 C13 body s0) = some (.bool false) := by kernel_rfl
def F14 : List (FOp × Value) := [(.bin .lss 3 (symv 5) (.int .i64 0), .bool false),
    (.bin .gtr 3 (symv 5) (.int .i64 15), .bool false),
    (.bin .lss 3 (symv 6) (.int .i64 0), .bool false),
    (.bin .gtr 3 (symv 6) (.int .i64 15), .bool false),
    (.bin .lss 3 (symv 7) (.int .i64 0), .bool false),
    (.bin .gtr 3 (symv 7) (.int .i64 15), .bool false),
    (.un .not (symv 1), .bool true),
    (.un .not (symv 3), .bool true),
    (.bin .geq 3 (symv 4) (.int .i64 1), .bool true),
    (.bin .leq 3 (symv 4) (.int .i64 16), .bool true)]
def C14 : List (FuncId × List Value × Value) := [(48, [symv 0], .bool true)]
theorem e14 : endVal Tryd.prog Tryd.f31 (at' 54 F14 C14 body s0) = some (.bool true) := by kernel_rfl
def F15 : List (FOp × Value) := [(.bin .lss 3 (symv 5) (.int .i64 0), .bool false),
    (.bin .gtr 3 (symv 5) (.int .i64 15), .bool false),
    (.bin .lss 3 (symv 6) (.int .i64 0), .bool false),
    (.bin .gtr 3 (symv 6) (.int .i64 15), .bool false),
    (.bin .lss 3 (symv 7) (.int .i64 0), .bool false),
    (.bin .gtr 3 (symv 7) (.int .i64 15), .bool false),
    (.un .not (symv 1), .bool true),
    (.un .not (symv 3), .bool true),
    (.bin .geq 3 (symv 4) (.int .i64 1), .bool true),
    (.bin .leq 3 (symv 4) (.int .i64 16), .bool false)]
def C15 : List (FuncId × List Value × Value) := [(48, [symv 0], .bool true)]
theorem e15 : endVal Tryd.prog Tryd.f31 (at' 54 F15 C15 body s0) = some (.bool false) := by kernel_rfl
def F16 : List (FOp × Value) := [(.bin .lss 3 (symv 5) (.int .i64 0), .bool false),
    (.bin .gtr 3 (symv 5) (.int .i64 15), .bool false),
    (.bin .lss 3 (symv 6) (.int .i64 0), .bool false),
    (.bin .gtr 3 (symv 6) (.int .i64 15), .bool false),
    (.bin .lss 3 (symv 7) (.int .i64 0), .bool false),
    (.bin .gtr 3 (symv 7) (.int .i64 15), .bool false),
    (.un .not (symv 1), .bool true),
    (.un .not (symv 3), .bool true),
    (.bin .geq 3 (symv 4) (.int .i64 1), .bool false)]
def C16 : List (FuncId × List Value × Value) := [(48, [symv 0], .bool true)]
theorem e16 : endVal Tryd.prog Tryd.f31 (at' 54 F16 C16 body s0) = some (.bool false) := by kernel_rfl
def F17 : List (FOp × Value) := [(.bin .lss 3 (symv 5) (.int .i64 0), .bool false),
    (.bin .gtr 3 (symv 5) (.int .i64 15), .bool false),
    (.bin .lss 3 (symv 6) (.int .i64 0), .bool false),
    (.bin .gtr 3 (symv 6) (.int .i64 15), .bool false),
    (.bin .lss 3 (symv 7) (.int .i64 0), .bool false),
    (.bin .gtr 3 (symv 7) (.int .i64 15), .bool false)]
def C17 : List (FuncId × List Value × Value) := [(48, [symv 0], .bool false)]
theorem e17 : endVal Tryd.prog Tryd.f31 (at' 54 F17 C17 body s0) = some (.bool false) := by kernel_rfl
@[reducible] noncomputable def vL (x : Mt) : List Value := [strV x.1, .bool x.2.1, .bool x.2.2.1, .bool x.2.2.2.1, .int .i64 x.2.2.2.2.1, .int .i64 x.2.2.2.2.2.1, .int .i64 x.2.2.2.2.2.2.1, .int .i64 x.2.2.2.2.2.2.2]
@[reducible] noncomputable def sg (M : Mem) (x : Mt) : Sig := sgL M (vL x)
set_option maxHeartbeats 4000000 in
theorem any (W : World) (x : Mt)  : Calls Tryd.prog 31 #[M.val x] W fun e w' => e = .returned (.bool (decide (validM x))) ∧ Low W.heap.size W w' := by
  refine @walk_enter (sg (heapOf W) x ) Tryd.prog 31 Tryd.f31 body [.agg ⟨[symv 0, symv 1, symv 2, symv 3, symv 4, symv 5, symv 6, symv 7]⟩] (slots [(0, .agg ⟨[symv 0, symv 1, symv 2, symv 3, symv 4, symv 5, symv 6, symv 7]⟩)]) N W _ Tryd.func31 (by kernel_rfl) (by kernel_rfl) (by kernel_rfl) (by kernel_rfl) (immW_sgL W _) fun a hh => ?_
  letI := (sg (heapOf W) x )
  by_cases h0 : x.2.2.2.2.2.1 < 0
  · refine walk_to (F := F0) (T := C0) (fuel := 1000) (d := 10) mixed (aFc (FactOk.bi rfl rfl rfl rfl rfl rfl (boolT (by omega))) aFn) aCn ?_ hh
    exact ostop_end e0 fun w2 hLow hIn => ⟨(by first | (rw [decide_eq_true (show validM x from ⟨by assumption, by first | exact kindM_yes1 (by assumption) (by assumption) | exact kindM_yes2 (by assumption) (by assumption), by omega, by omega, by omega, by omega, by omega, by omega, by omega, by omega⟩)]; rfl) | (rw [decide_eq_false (fun h : validM x => absurd h.1 (by assumption))]; rfl) | (rw [decide_eq_false (fun h : validM x => h.2.1 (by first | rw [kindM_no1 (by assumption) (by assumption)] | rw [kindM_no2 (by assumption) (by assumption)]))]; rfl) | (rw [decide_eq_false (fun h : validM x => by have := h.2.2; omega)]; rfl)), hLow⟩
  · by_cases h1 : 15 < x.2.2.2.2.2.1
    · refine walk_to (F := F1) (T := C1) (fuel := 1000) (d := 10) mixed (aFc (FactOk.bi rfl rfl rfl rfl rfl rfl (boolF (by omega))) (aFc (FactOk.bi rfl rfl rfl rfl rfl rfl (boolT (by omega))) aFn)) aCn ?_ hh
      exact ostop_end e1 fun w2 hLow hIn => ⟨(by first | (rw [decide_eq_true (show validM x from ⟨by assumption, by first | exact kindM_yes1 (by assumption) (by assumption) | exact kindM_yes2 (by assumption) (by assumption), by omega, by omega, by omega, by omega, by omega, by omega, by omega, by omega⟩)]; rfl) | (rw [decide_eq_false (fun h : validM x => absurd h.1 (by assumption))]; rfl) | (rw [decide_eq_false (fun h : validM x => h.2.1 (by first | rw [kindM_no1 (by assumption) (by assumption)] | rw [kindM_no2 (by assumption) (by assumption)]))]; rfl) | (rw [decide_eq_false (fun h : validM x => by have := h.2.2; omega)]; rfl)), hLow⟩
    · by_cases h2 : x.2.2.2.2.2.2.1 < 0
      · refine walk_to (F := F2) (T := C2) (fuel := 1000) (d := 10) mixed (aFc (FactOk.bi rfl rfl rfl rfl rfl rfl (boolF (by omega))) (aFc (FactOk.bi rfl rfl rfl rfl rfl rfl (boolF (by omega))) (aFc (FactOk.bi rfl rfl rfl rfl rfl rfl (boolT (by omega))) aFn))) aCn ?_ hh
        exact ostop_end e2 fun w2 hLow hIn => ⟨(by first | (rw [decide_eq_true (show validM x from ⟨by assumption, by first | exact kindM_yes1 (by assumption) (by assumption) | exact kindM_yes2 (by assumption) (by assumption), by omega, by omega, by omega, by omega, by omega, by omega, by omega, by omega⟩)]; rfl) | (rw [decide_eq_false (fun h : validM x => absurd h.1 (by assumption))]; rfl) | (rw [decide_eq_false (fun h : validM x => h.2.1 (by first | rw [kindM_no1 (by assumption) (by assumption)] | rw [kindM_no2 (by assumption) (by assumption)]))]; rfl) | (rw [decide_eq_false (fun h : validM x => by have := h.2.2; omega)]; rfl)), hLow⟩
      · by_cases h3 : 15 < x.2.2.2.2.2.2.1
        · refine walk_to (F := F3) (T := C3) (fuel := 1000) (d := 10) mixed (aFc (FactOk.bi rfl rfl rfl rfl rfl rfl (boolF (by omega))) (aFc (FactOk.bi rfl rfl rfl rfl rfl rfl (boolF (by omega))) (aFc (FactOk.bi rfl rfl rfl rfl rfl rfl (boolF (by omega))) (aFc (FactOk.bi rfl rfl rfl rfl rfl rfl (boolT (by omega))) aFn)))) aCn ?_ hh
          exact ostop_end e3 fun w2 hLow hIn => ⟨(by first | (rw [decide_eq_true (show validM x from ⟨by assumption, by first | exact kindM_yes1 (by assumption) (by assumption) | exact kindM_yes2 (by assumption) (by assumption), by omega, by omega, by omega, by omega, by omega, by omega, by omega, by omega⟩)]; rfl) | (rw [decide_eq_false (fun h : validM x => absurd h.1 (by assumption))]; rfl) | (rw [decide_eq_false (fun h : validM x => h.2.1 (by first | rw [kindM_no1 (by assumption) (by assumption)] | rw [kindM_no2 (by assumption) (by assumption)]))]; rfl) | (rw [decide_eq_false (fun h : validM x => by have := h.2.2; omega)]; rfl)), hLow⟩
        · by_cases h4 : x.2.2.2.2.2.2.2 < 0
          · refine walk_to (F := F4) (T := C4) (fuel := 1000) (d := 10) mixed (aFc (FactOk.bi rfl rfl rfl rfl rfl rfl (boolF (by omega))) (aFc (FactOk.bi rfl rfl rfl rfl rfl rfl (boolF (by omega))) (aFc (FactOk.bi rfl rfl rfl rfl rfl rfl (boolF (by omega))) (aFc (FactOk.bi rfl rfl rfl rfl rfl rfl (boolF (by omega))) (aFc (FactOk.bi rfl rfl rfl rfl rfl rfl (boolT (by omega))) aFn))))) aCn ?_ hh
            exact ostop_end e4 fun w2 hLow hIn => ⟨(by first | (rw [decide_eq_true (show validM x from ⟨by assumption, by first | exact kindM_yes1 (by assumption) (by assumption) | exact kindM_yes2 (by assumption) (by assumption), by omega, by omega, by omega, by omega, by omega, by omega, by omega, by omega⟩)]; rfl) | (rw [decide_eq_false (fun h : validM x => absurd h.1 (by assumption))]; rfl) | (rw [decide_eq_false (fun h : validM x => h.2.1 (by first | rw [kindM_no1 (by assumption) (by assumption)] | rw [kindM_no2 (by assumption) (by assumption)]))]; rfl) | (rw [decide_eq_false (fun h : validM x => by have := h.2.2; omega)]; rfl)), hLow⟩
          · by_cases h5 : 15 < x.2.2.2.2.2.2.2
            · refine walk_to (F := F5) (T := C5) (fuel := 1000) (d := 10) mixed (aFc (FactOk.bi rfl rfl rfl rfl rfl rfl (boolF (by omega))) (aFc (FactOk.bi rfl rfl rfl rfl rfl rfl (boolF (by omega))) (aFc (FactOk.bi rfl rfl rfl rfl rfl rfl (boolF (by omega))) (aFc (FactOk.bi rfl rfl rfl rfl rfl rfl (boolF (by omega))) (aFc (FactOk.bi rfl rfl rfl rfl rfl rfl (boolF (by omega))) (aFc (FactOk.bi rfl rfl rfl rfl rfl rfl (boolT (by omega))) aFn)))))) aCn ?_ hh
              exact ostop_end e5 fun w2 hLow hIn => ⟨(by first | (rw [decide_eq_true (show validM x from ⟨by assumption, by first | exact kindM_yes1 (by assumption) (by assumption) | exact kindM_yes2 (by assumption) (by assumption), by omega, by omega, by omega, by omega, by omega, by omega, by omega, by omega⟩)]; rfl) | (rw [decide_eq_false (fun h : validM x => absurd h.1 (by assumption))]; rfl) | (rw [decide_eq_false (fun h : validM x => h.2.1 (by first | rw [kindM_no1 (by assumption) (by assumption)] | rw [kindM_no2 (by assumption) (by assumption)]))]; rfl) | (rw [decide_eq_false (fun h : validM x => by have := h.2.2; omega)]; rfl)), hLow⟩
            · by_cases h6 : nameP x.1
              · by_cases h7 : x.2.1 = true
                · by_cases h8 : x.2.2.1 = true
                  · refine walk_to (F := F6) (T := C6) (fuel := 1000) (d := 10) mixed (aFc (FactOk.bi rfl rfl rfl rfl rfl rfl (boolF (by omega))) (aFc (FactOk.bi rfl rfl rfl rfl rfl rfl (boolF (by omega))) (aFc (FactOk.bi rfl rfl rfl rfl rfl rfl (boolF (by omega))) (aFc (FactOk.bi rfl rfl rfl rfl rfl rfl (boolF (by omega))) (aFc (FactOk.bi rfl rfl rfl rfl rfl rfl (boolF (by omega))) (aFc (FactOk.bi rfl rfl rfl rfl rfl rfl (boolF (by omega))) (aFc (notT rfl rfl h7) (aFc (notT rfl rfl h8) aFn)))))))) (aCc (callRNameT rfl rfl h6) aCn) ?_ hh
                    exact ostop_end e6 fun w2 hLow hIn => ⟨(by first | (rw [decide_eq_true (show validM x from ⟨by assumption, by first | exact kindM_yes1 (by assumption) (by assumption) | exact kindM_yes2 (by assumption) (by assumption), by omega, by omega, by omega, by omega, by omega, by omega, by omega, by omega⟩)]; rfl) | (rw [decide_eq_false (fun h : validM x => absurd h.1 (by assumption))]; rfl) | (rw [decide_eq_false (fun h : validM x => h.2.1 (by first | rw [kindM_no1 (by assumption) (by assumption)] | rw [kindM_no2 (by assumption) (by assumption)]))]; rfl) | (rw [decide_eq_false (fun h : validM x => by have := h.2.2; omega)]; rfl)), hLow⟩
                  · by_cases h9 : x.2.2.2.1 = true
                    · by_cases h10 : 1 ≤ x.2.2.2.2.1
                      · by_cases h11 : x.2.2.2.2.1 ≤ 16
                        · refine walk_to (F := F7) (T := C7) (fuel := 1000) (d := 10) mixed (aFc (FactOk.bi rfl rfl rfl rfl rfl rfl (boolF (by omega))) (aFc (FactOk.bi rfl rfl rfl rfl rfl rfl (boolF (by omega))) (aFc (FactOk.bi rfl rfl rfl rfl rfl rfl (boolF (by omega))) (aFc (FactOk.bi rfl rfl rfl rfl rfl rfl (boolF (by omega))) (aFc (FactOk.bi rfl rfl rfl rfl rfl rfl (boolF (by omega))) (aFc (FactOk.bi rfl rfl rfl rfl rfl rfl (boolF (by omega))) (aFc (notT rfl rfl h7) (aFc (notF rfl rfl h8) (aFc (notT rfl rfl h9) (aFc (truT rfl rfl h7) (aFc (FactOk.bi rfl rfl rfl rfl rfl rfl (boolT (by omega))) (aFc (FactOk.bi rfl rfl rfl rfl rfl rfl (boolT (by omega))) aFn)))))))))))) (aCc (callRNameT rfl rfl h6) aCn) ?_ hh
                          exact ostop_end e7 fun w2 hLow hIn => ⟨(by first | (rw [decide_eq_true (show validM x from ⟨by assumption, by first | exact kindM_yes1 (by assumption) (by assumption) | exact kindM_yes2 (by assumption) (by assumption), by omega, by omega, by omega, by omega, by omega, by omega, by omega, by omega⟩)]; rfl) | (rw [decide_eq_false (fun h : validM x => absurd h.1 (by assumption))]; rfl) | (rw [decide_eq_false (fun h : validM x => h.2.1 (by first | rw [kindM_no1 (by assumption) (by assumption)] | rw [kindM_no2 (by assumption) (by assumption)]))]; rfl) | (rw [decide_eq_false (fun h : validM x => by have := h.2.2; omega)]; rfl)), hLow⟩
                        · refine walk_to (F := F8) (T := C8) (fuel := 1000) (d := 10) mixed (aFc (FactOk.bi rfl rfl rfl rfl rfl rfl (boolF (by omega))) (aFc (FactOk.bi rfl rfl rfl rfl rfl rfl (boolF (by omega))) (aFc (FactOk.bi rfl rfl rfl rfl rfl rfl (boolF (by omega))) (aFc (FactOk.bi rfl rfl rfl rfl rfl rfl (boolF (by omega))) (aFc (FactOk.bi rfl rfl rfl rfl rfl rfl (boolF (by omega))) (aFc (FactOk.bi rfl rfl rfl rfl rfl rfl (boolF (by omega))) (aFc (notT rfl rfl h7) (aFc (notF rfl rfl h8) (aFc (notT rfl rfl h9) (aFc (truT rfl rfl h7) (aFc (FactOk.bi rfl rfl rfl rfl rfl rfl (boolT (by omega))) (aFc (FactOk.bi rfl rfl rfl rfl rfl rfl (boolF (by omega))) aFn)))))))))))) (aCc (callRNameT rfl rfl h6) aCn) ?_ hh
                          exact ostop_end e8 fun w2 hLow hIn => ⟨(by first | (rw [decide_eq_true (show validM x from ⟨by assumption, by first | exact kindM_yes1 (by assumption) (by assumption) | exact kindM_yes2 (by assumption) (by assumption), by omega, by omega, by omega, by omega, by omega, by omega, by omega, by omega⟩)]; rfl) | (rw [decide_eq_false (fun h : validM x => absurd h.1 (by assumption))]; rfl) | (rw [decide_eq_false (fun h : validM x => h.2.1 (by first | rw [kindM_no1 (by assumption) (by assumption)] | rw [kindM_no2 (by assumption) (by assumption)]))]; rfl) | (rw [decide_eq_false (fun h : validM x => by have := h.2.2; omega)]; rfl)), hLow⟩
                      · refine walk_to (F := F9) (T := C9) (fuel := 1000) (d := 10) mixed (aFc (FactOk.bi rfl rfl rfl rfl rfl rfl (boolF (by omega))) (aFc (FactOk.bi rfl rfl rfl rfl rfl rfl (boolF (by omega))) (aFc (FactOk.bi rfl rfl rfl rfl rfl rfl (boolF (by omega))) (aFc (FactOk.bi rfl rfl rfl rfl rfl rfl (boolF (by omega))) (aFc (FactOk.bi rfl rfl rfl rfl rfl rfl (boolF (by omega))) (aFc (FactOk.bi rfl rfl rfl rfl rfl rfl (boolF (by omega))) (aFc (notT rfl rfl h7) (aFc (notF rfl rfl h8) (aFc (notT rfl rfl h9) (aFc (truT rfl rfl h7) (aFc (FactOk.bi rfl rfl rfl rfl rfl rfl (boolF (by omega))) aFn))))))))))) (aCc (callRNameT rfl rfl h6) aCn) ?_ hh
                        exact ostop_end e9 fun w2 hLow hIn => ⟨(by first | (rw [decide_eq_true (show validM x from ⟨by assumption, by first | exact kindM_yes1 (by assumption) (by assumption) | exact kindM_yes2 (by assumption) (by assumption), by omega, by omega, by omega, by omega, by omega, by omega, by omega, by omega⟩)]; rfl) | (rw [decide_eq_false (fun h : validM x => absurd h.1 (by assumption))]; rfl) | (rw [decide_eq_false (fun h : validM x => h.2.1 (by first | rw [kindM_no1 (by assumption) (by assumption)] | rw [kindM_no2 (by assumption) (by assumption)]))]; rfl) | (rw [decide_eq_false (fun h : validM x => by have := h.2.2; omega)]; rfl)), hLow⟩
                    · by_cases h10 : 1 ≤ x.2.2.2.2.1
                      · by_cases h11 : x.2.2.2.2.1 ≤ 16
                        · refine walk_to (F := F10) (T := C10) (fuel := 1000) (d := 10) mixed (aFc (FactOk.bi rfl rfl rfl rfl rfl rfl (boolF (by omega))) (aFc (FactOk.bi rfl rfl rfl rfl rfl rfl (boolF (by omega))) (aFc (FactOk.bi rfl rfl rfl rfl rfl rfl (boolF (by omega))) (aFc (FactOk.bi rfl rfl rfl rfl rfl rfl (boolF (by omega))) (aFc (FactOk.bi rfl rfl rfl rfl rfl rfl (boolF (by omega))) (aFc (FactOk.bi rfl rfl rfl rfl rfl rfl (boolF (by omega))) (aFc (notT rfl rfl h7) (aFc (notF rfl rfl h8) (aFc (notF rfl rfl h9) (aFc (FactOk.bi rfl rfl rfl rfl rfl rfl (boolT (by omega))) (aFc (FactOk.bi rfl rfl rfl rfl rfl rfl (boolT (by omega))) aFn))))))))))) (aCc (callRNameT rfl rfl h6) aCn) ?_ hh
                          exact ostop_end e10 fun w2 hLow hIn => ⟨(by first | (rw [decide_eq_true (show validM x from ⟨by assumption, by first | exact kindM_yes1 (by assumption) (by assumption) | exact kindM_yes2 (by assumption) (by assumption), by omega, by omega, by omega, by omega, by omega, by omega, by omega, by omega⟩)]; rfl) | (rw [decide_eq_false (fun h : validM x => absurd h.1 (by assumption))]; rfl) | (rw [decide_eq_false (fun h : validM x => h.2.1 (by first | rw [kindM_no1 (by assumption) (by assumption)] | rw [kindM_no2 (by assumption) (by assumption)]))]; rfl) | (rw [decide_eq_false (fun h : validM x => by have := h.2.2; omega)]; rfl)), hLow⟩
                        · refine walk_to (F := F11) (T := C11) (fuel := 1000) (d := 10) mixed (aFc (FactOk.bi rfl rfl rfl rfl rfl rfl (boolF (by omega))) (aFc (FactOk.bi rfl rfl rfl rfl rfl rfl (boolF (by omega))) (aFc (FactOk.bi rfl rfl rfl rfl rfl rfl (boolF (by omega))) (aFc (FactOk.bi rfl rfl rfl rfl rfl rfl (boolF (by omega))) (aFc (FactOk.bi rfl rfl rfl rfl rfl rfl (boolF (by omega))) (aFc (FactOk.bi rfl rfl rfl rfl rfl rfl (boolF (by omega))) (aFc (notT rfl rfl h7) (aFc (notF rfl rfl h8) (aFc (notF rfl rfl h9) (aFc (FactOk.bi rfl rfl rfl rfl rfl rfl (boolT (by omega))) (aFc (FactOk.bi rfl rfl rfl rfl rfl rfl (boolF (by omega))) aFn))))))))))) (aCc (callRNameT rfl rfl h6) aCn) ?_ hh
                          exact ostop_end e11 fun w2 hLow hIn => ⟨(by first | (rw [decide_eq_true (show validM x from ⟨by assumption, by first | exact kindM_yes1 (by assumption) (by assumption) | exact kindM_yes2 (by assumption) (by assumption), by omega, by omega, by omega, by omega, by omega, by omega, by omega, by omega⟩)]; rfl) | (rw [decide_eq_false (fun h : validM x => absurd h.1 (by assumption))]; rfl) | (rw [decide_eq_false (fun h : validM x => h.2.1 (by first | rw [kindM_no1 (by assumption) (by assumption)] | rw [kindM_no2 (by assumption) (by assumption)]))]; rfl) | (rw [decide_eq_false (fun h : validM x => by have := h.2.2; omega)]; rfl)), hLow⟩
                      · refine walk_to (F := F12) (T := C12) (fuel := 1000) (d := 10) mixed (aFc (FactOk.bi rfl rfl rfl rfl rfl rfl (boolF (by omega))) (aFc (FactOk.bi rfl rfl rfl rfl rfl rfl (boolF (by omega))) (aFc (FactOk.bi rfl rfl rfl rfl rfl rfl (boolF (by omega))) (aFc (FactOk.bi rfl rfl rfl rfl rfl rfl (boolF (by omega))) (aFc (FactOk.bi rfl rfl rfl rfl rfl rfl (boolF (by omega))) (aFc (FactOk.bi rfl rfl rfl rfl rfl rfl (boolF (by omega))) (aFc (notT rfl rfl h7) (aFc (notF rfl rfl h8) (aFc (notF rfl rfl h9) (aFc (FactOk.bi rfl rfl rfl rfl rfl rfl (boolF (by omega))) aFn)))))))))) (aCc (callRNameT rfl rfl h6) aCn) ?_ hh
                        exact ostop_end e12 fun w2 hLow hIn => ⟨(by first | (rw [decide_eq_true (show validM x from ⟨by assumption, by first | exact kindM_yes1 (by assumption) (by assumption) | exact kindM_yes2 (by assumption) (by assumption), by omega, by omega, by omega, by omega, by omega, by omega, by omega, by omega⟩)]; rfl) | (rw [decide_eq_false (fun h : validM x => absurd h.1 (by assumption))]; rfl) | (rw [decide_eq_false (fun h : validM x => h.2.1 (by first | rw [kindM_no1 (by assumption) (by assumption)] | rw [kindM_no2 (by assumption) (by assumption)]))]; rfl) | (rw [decide_eq_false (fun h : validM x => by have := h.2.2; omega)]; rfl)), hLow⟩
                · by_cases h8 : x.2.2.2.1 = true
                  · refine walk_to (F := F13) (T := C13) (fuel := 1000) (d := 10) mixed (aFc (FactOk.bi rfl rfl rfl rfl rfl rfl (boolF (by omega))) (aFc (FactOk.bi rfl rfl rfl rfl rfl rfl (boolF (by omega))) (aFc (FactOk.bi rfl rfl rfl rfl rfl rfl (boolF (by omega))) (aFc (FactOk.bi rfl rfl rfl rfl rfl rfl (boolF (by omega))) (aFc (FactOk.bi rfl rfl rfl rfl rfl rfl (boolF (by omega))) (aFc (FactOk.bi rfl rfl rfl rfl rfl rfl (boolF (by omega))) (aFc (notF rfl rfl h7) (aFc (notT rfl rfl h8) (aFc (truF rfl rfl h7) aFn))))))))) (aCc (callRNameT rfl rfl h6) aCn) ?_ hh
                    exact ostop_end e13 fun w2 hLow hIn => ⟨(by first | (rw [decide_eq_true (show validM x from ⟨by assumption, by first | exact kindM_yes1 (by assumption) (by assumption) | exact kindM_yes2 (by assumption) (by assumption), by omega, by omega, by omega, by omega, by omega, by omega, by omega, by omega⟩)]; rfl) | (rw [decide_eq_false (fun h : validM x => absurd h.1 (by assumption))]; rfl) | (rw [decide_eq_false (fun h : validM x => h.2.1 (by first | rw [kindM_no1 (by assumption) (by assumption)] | rw [kindM_no2 (by assumption) (by assumption)]))]; rfl) | (rw [decide_eq_false (fun h : validM x => by have := h.2.2; omega)]; rfl)), hLow⟩
                  · by_cases h9 : 1 ≤ x.2.2.2.2.1
                    · by_cases h10 : x.2.2.2.2.1 ≤ 16
                      · refine walk_to (F := F14) (T := C14) (fuel := 1000) (d := 10) mixed (aFc (FactOk.bi rfl rfl rfl rfl rfl rfl (boolF (by omega))) (aFc (FactOk.bi rfl rfl rfl rfl rfl rfl (boolF (by omega))) (aFc (FactOk.bi rfl rfl rfl rfl rfl rfl (boolF (by omega))) (aFc (FactOk.bi rfl rfl rfl rfl rfl rfl (boolF (by omega))) (aFc (FactOk.bi rfl rfl rfl rfl rfl rfl (boolF (by omega))) (aFc (FactOk.bi rfl rfl rfl rfl rfl rfl (boolF (by omega))) (aFc (notF rfl rfl h7) (aFc (notF rfl rfl h8) (aFc (FactOk.bi rfl rfl rfl rfl rfl rfl (boolT (by omega))) (aFc (FactOk.bi rfl rfl rfl rfl rfl rfl (boolT (by omega))) aFn)))))))))) (aCc (callRNameT rfl rfl h6) aCn) ?_ hh
                        exact ostop_end e14 fun w2 hLow hIn => ⟨(by first | (rw [decide_eq_true (show validM x from ⟨by assumption, by first | exact kindM_yes1 (by assumption) (by assumption) | exact kindM_yes2 (by assumption) (by assumption), by omega, by omega, by omega, by omega, by omega, by omega, by omega, by omega⟩)]; rfl) | (rw [decide_eq_false (fun h : validM x => absurd h.1 (by assumption))]; rfl) | (rw [decide_eq_false (fun h : validM x => h.2.1 (by first | rw [kindM_no1 (by assumption) (by assumption)] | rw [kindM_no2 (by assumption) (by assumption)]))]; rfl) | (rw [decide_eq_false (fun h : validM x => by have := h.2.2; omega)]; rfl)), hLow⟩
                      · refine walk_to (F := F15) (T := C15) (fuel := 1000) (d := 10) mixed (aFc (FactOk.bi rfl rfl rfl rfl rfl rfl (boolF (by omega))) (aFc (FactOk.bi rfl rfl rfl rfl rfl rfl (boolF (by omega))) (aFc (FactOk.bi rfl rfl rfl rfl rfl rfl (boolF (by omega))) (aFc (FactOk.bi rfl rfl rfl rfl rfl rfl (boolF (by omega))) (aFc (FactOk.bi rfl rfl rfl rfl rfl rfl (boolF (by omega))) (aFc (FactOk.bi rfl rfl rfl rfl rfl rfl (boolF (by omega))) (aFc (notF rfl rfl h7) (aFc (notF rfl rfl h8) (aFc (FactOk.bi rfl rfl rfl rfl rfl rfl (boolT (by omega))) (aFc (FactOk.bi rfl rfl rfl rfl rfl rfl (boolF (by omega))) aFn)))))))))) (aCc (callRNameT rfl rfl h6) aCn) ?_ hh
                        exact ostop_end e15 fun w2 hLow hIn => ⟨(by first | (rw [decide_eq_true (show validM x from ⟨by assumption, by first | exact kindM_yes1 (by assumption) (by assumption) | exact kindM_yes2 (by assumption) (by assumption), by omega, by omega, by omega, by omega, by omega, by omega, by omega, by omega⟩)]; rfl) | (rw [decide_eq_false (fun h : validM x => absurd h.1 (by assumption))]; rfl) | (rw [decide_eq_false (fun h : validM x => h.2.1 (by first | rw [kindM_no1 (by assumption) (by assumption)] | rw [kindM_no2 (by assumption) (by assumption)]))]; rfl) | (rw [decide_eq_false (fun h : validM x => by have := h.2.2; omega)]; rfl)), hLow⟩
                    · refine walk_to (F := F16) (T := C16) (fuel := 1000) (d := 10) mixed (aFc (FactOk.bi rfl rfl rfl rfl rfl rfl (boolF (by omega))) (aFc (FactOk.bi rfl rfl rfl rfl rfl rfl (boolF (by omega))) (aFc (FactOk.bi rfl rfl rfl rfl rfl rfl (boolF (by omega))) (aFc (FactOk.bi rfl rfl rfl rfl rfl rfl (boolF (by omega))) (aFc (FactOk.bi rfl rfl rfl rfl rfl rfl (boolF (by omega))) (aFc (FactOk.bi rfl rfl rfl rfl rfl rfl (boolF (by omega))) (aFc (notF rfl rfl h7) (aFc (notF rfl rfl h8) (aFc (FactOk.bi rfl rfl rfl rfl rfl rfl (boolF (by omega))) aFn))))))))) (aCc (callRNameT rfl rfl h6) aCn) ?_ hh
                      exact ostop_end e16 fun w2 hLow hIn => ⟨(by first | (rw [decide_eq_true (show validM x from ⟨by assumption, by first | exact kindM_yes1 (by assumption) (by assumption) | exact kindM_yes2 (by assumption) (by assumption), by omega, by omega, by omega, by omega, by omega, by omega, by omega, by omega⟩)]; rfl) | (rw [decide_eq_false (fun h : validM x => absurd h.1 (by assumption))]; rfl) | (rw [decide_eq_false (fun h : validM x => h.2.1 (by first | rw [kindM_no1 (by assumption) (by assumption)] | rw [kindM_no2 (by assumption) (by assumption)]))]; rfl) | (rw [decide_eq_false (fun h : validM x => by have := h.2.2; omega)]; rfl)), hLow⟩
              · refine walk_to (F := F17) (T := C17) (fuel := 1000) (d := 10) mixed (aFc (FactOk.bi rfl rfl rfl rfl rfl rfl (boolF (by omega))) (aFc (FactOk.bi rfl rfl rfl rfl rfl rfl (boolF (by omega))) (aFc (FactOk.bi rfl rfl rfl rfl rfl rfl (boolF (by omega))) (aFc (FactOk.bi rfl rfl rfl rfl rfl rfl (boolF (by omega))) (aFc (FactOk.bi rfl rfl rfl rfl rfl rfl (boolF (by omega))) (aFc (FactOk.bi rfl rfl rfl rfl rfl rfl (boolF (by omega))) aFn)))))) (aCc (callRNameF rfl rfl h6) aCn) ?_ hh
                exact ostop_end e17 fun w2 hLow hIn => ⟨(by first | (rw [decide_eq_true (show validM x from ⟨by assumption, by first | exact kindM_yes1 (by assumption) (by assumption) | exact kindM_yes2 (by assumption) (by assumption), by omega, by omega, by omega, by omega, by omega, by omega, by omega, by omega⟩)]; rfl) | (rw [decide_eq_false (fun h : validM x => absurd h.1 (by assumption))]; rfl) | (rw [decide_eq_false (fun h : validM x => h.2.1 (by first | rw [kindM_no1 (by assumption) (by assumption)] | rw [kindM_no2 (by assumption) (by assumption)]))]; rfl) | (rw [decide_eq_false (fun h : validM x => by have := h.2.2; omega)]; rfl)), hLow⟩
end RValMG
end AE
end Go.Proofs.YtblhndlmgibljaaDoor

/- What the reference's valid answers, as a fact. -/
namespace Go.Proofs.YtblhndlmgibljaaDoor
open Go Go.Proofs Go.RowKit
namespace AE
variable [Sig]
theorem callRValT {x : Value} {m : Mt} (hp : plainSL [x] = true) (ev : interpL [x] = [M.val m]) (h : validM m) : CallFactOk Tryd.prog (31, [x], .bool true) :=
  callAny (a := #[M.val m]) hp rfl ev rfl fun w _ => (RValMG.any w m).mono fun e w' h' => by rw [decide_eq_true h] at h'; exact h'
theorem callRValF {x : Value} {m : Mt} (hp : plainSL [x] = true) (ev : interpL [x] = [M.val m]) (h : ¬ validM m) : CallFactOk Tryd.prog (31, [x], .bool false) :=
  callAny (a := #[M.val m]) hp rfl ev rfl fun w _ => (RValMG.any w m).mono fun e w' h' => by rw [decide_eq_false h] at h'; exact h'
end AE
end Go.Proofs.YtblhndlmgibljaaDoor

/- the walk of the reference's Check -/
namespace Go.Proofs.YtblhndlmgibljaaDoor
open Go Go.Proofs Go.RowKit
set_option maxRecDepth 100000
namespace AE
namespace RChkG
noncomputable def body : Code := (Tryd.f12.body).getD .skip
def N : Nat := 47
noncomputable abbrev at' (N : Nat) (F : List (FOp × Value)) (C : List (FuncId × List Value × Value)) (c : Code) (s : ASt) : Option Stop := evalTo Tryd.prog F C N 1000 10 c s
noncomputable abbrev leave' (N : Nat) (F : List (FOp × Value)) (C : List (FuncId × List Value × Value)) (ks : List KI) (o : Option Stop) : Option Stop := evalLeave Tryd.prog F C N 1000 10 ks o
def s0 : ASt := { sl := slots [(0, symv 0)], ms := [], A := start }
def F0 : List (FOp × Value) := [(.len #[22] 3 (symv 0), symv 1),
    (.bin .gtr 3 (symv 1) (.int .i64 256), .bool true)]
def C0 : List (FuncId × List Value × Value) := []
theorem e0 : endVal Tryd.prog Tryd.f12 (at' 47 F0 C0 body s0) = some (.tuple ⟨[.int .i64 (-1), .int .i64 2]⟩) := by kernel_rfl
def F1 : List (FOp × Value) := [(.len #[22] 3 (symv 0), symv 1),
    (.bin .gtr 3 (symv 1) (.int .i64 256), .bool false),
    (.bin .eql 3 (symv 1) (.int .i64 0), .bool true)]
def C1 : List (FuncId × List Value × Value) := []
theorem e1 : endVal Tryd.prog Tryd.f12 (at' 47 F1 C1 body s0) = some (.tuple ⟨[.int .i64 (-1), .int .i64 1]⟩) := by kernel_rfl
def F2 : List (FOp × Value) := [(.len #[22] 3 (symv 0), symv 1),
    (.bin .gtr 3 (symv 1) (.int .i64 256), .bool false),
    (.bin .eql 3 (symv 1) (.int .i64 0), .bool false),
    (.ixa 22 (symv 0) (.int .i64 0), symv 2),
    (.ld 35 (symv 2), .agg ⟨[symv 3, symv 4, symv 5, symv 6, symv 7, symv 8, symv 9, symv 10]⟩),
    (.bin .neq 35 (.agg ⟨[symv 3, symv 4, symv 5, symv 6, symv 7, symv 8, symv 9, symv 10]⟩) (.agg ⟨[strV [97, 105, 114], .bool false, .bool false, .bool false, .int .i64 1, .int .i64 0, .int .i64 0, .int .i64 0]⟩), .bool false)]
def C2 : List (FuncId × List Value × Value) := []
noncomputable def bks0 : List Bk := []
def head0 : Sl := slots [(4, symv 11), (0, symv 0)]
noncomputable abbrev at0 := at' 47 F2 C2 body s0
theorem e2 : headObs head0 bks0 at0 = some [(symv 0, symv 0), (.int .i64 0, symv 11)] := by kernel_rfl
def F3 : List (FOp × Value) := [(.len #[22] 3 (symv 0), symv 1),
    (.bin .lss 3 (symv 11) (symv 1), .bool true),
    (.ixa 22 (symv 0) (symv 11), symv 12),
    (.ld 35 (symv 12), .agg ⟨[symv 13, symv 14, symv 15, symv 16, symv 17, symv 18, symv 19, symv 20]⟩),
    (.fa 35 (symv 12) 0, symv 21),
    (.ld 9 (symv 21), symv 13),
    (.bin .lss 3 (symv 22) (symv 11), .bool true)]
def C3 : List (FuncId × List Value × Value) := [(31, [.agg ⟨[symv 13, symv 14, symv 15, symv 16, symv 17, symv 18, symv 19, symv 20]⟩], .bool true),
    (18, [symv 0, symv 13], .tuple ⟨[symv 22, symv 23]⟩)]
def F4 : List (FOp × Value) := []
def C4 : List (FuncId × List Value × Value) := []
theorem e3 : endVal Tryd.prog Tryd.f12 (leave' 47 F4 C4 (stopKs at0) (at' 47 F3 C3 (stopCode at0) (headSt head0 bks0))) = some (.tuple ⟨[symv 11, .int .i64 10]⟩) := by kernel_rfl
def F5 : List (FOp × Value) := [(.len #[22] 3 (symv 0), symv 1),
    (.bin .lss 3 (symv 11) (symv 1), .bool true),
    (.ixa 22 (symv 0) (symv 11), symv 12),
    (.ld 35 (symv 12), .agg ⟨[symv 13, symv 14, symv 15, symv 16, symv 17, symv 18, symv 19, symv 20]⟩),
    (.fa 35 (symv 12) 0, symv 21),
    (.ld 9 (symv 21), symv 13),
    (.bin .lss 3 (symv 22) (symv 11), .bool false),
    (.bin .add 3 (symv 11) (.int .i64 1), symv 24)]
def C5 : List (FuncId × List Value × Value) := [(31, [.agg ⟨[symv 13, symv 14, symv 15, symv 16, symv 17, symv 18, symv 19, symv 20]⟩], .bool true),
    (18, [symv 0, symv 13], .tuple ⟨[symv 22, symv 23]⟩)]
theorem e4 : backObs head0 bks0 (at' 47 F5 C5 (stopCode at0) (headSt head0 bks0)) = some [(symv 0, symv 0), (symv 24, symv 11)] := by kernel_rfl
def F6 : List (FOp × Value) := [(.len #[22] 3 (symv 0), symv 1),
    (.bin .lss 3 (symv 11) (symv 1), .bool true),
    (.ixa 22 (symv 0) (symv 11), symv 12),
    (.ld 35 (symv 12), .agg ⟨[symv 13, symv 14, symv 15, symv 16, symv 17, symv 18, symv 19, symv 20]⟩)]
def C6 : List (FuncId × List Value × Value) := [(31, [.agg ⟨[symv 13, symv 14, symv 15, symv 16, symv 17, symv 18, symv 19, symv 20]⟩], .bool false)]
theorem e5 : endVal Tryd.prog Tryd.f12 (leave' 47 F4 C4 (stopKs at0) (at' 47 F6 C6 (stopCode at0) (headSt head0 bks0))) = some (.tuple ⟨[symv 11, .int .i64 1]⟩) := by kernel_rfl
def F7 : List (FOp × Value) := [(.len #[22] 3 (symv 0), symv 1),
    (.bin .lss 3 (symv 11) (symv 1), .bool false)]
def C7 : List (FuncId × List Value × Value) := []
theorem e6 : endVal Tryd.prog Tryd.f12 (leave' 47 F4 C4 (stopKs at0) (at' 47 F7 C7 (stopCode at0) (headSt head0 bks0))) = some (.tuple ⟨[.int .i64 0, .int .i64 0]⟩) := by kernel_rfl
def F8 : List (FOp × Value) := [(.len #[22] 3 (symv 0), symv 1),
    (.bin .gtr 3 (symv 1) (.int .i64 256), .bool false),
    (.bin .eql 3 (symv 1) (.int .i64 0), .bool false),
    (.ixa 22 (symv 0) (.int .i64 0), symv 2),
    (.ld 35 (symv 2), .agg ⟨[symv 3, symv 4, symv 5, symv 6, symv 7, symv 8, symv 9, symv 10]⟩),
    (.bin .neq 35 (.agg ⟨[symv 3, symv 4, symv 5, symv 6, symv 7, symv 8, symv 9, symv 10]⟩) (.agg ⟨[strV [97, 105, 114], .bool false, .bool false, .bool false, .int .i64 1, .int .i64 0, .int .i64 0, .int .i64 0]⟩), .bool true)]
def C8 : List (FuncId × List Value × Value) := []
theorem e7 : endVal Tryd.prog Tryd.f12 (at' 47 F8 C8 body s0) = some (.tuple ⟨[.int .i64 0, .int .i64 1]⟩) := by kernel_rfl
@[reducible] noncomputable def vL (l : List Mt) (a_l : Option Addr) (c_l : Nat) (i : Nat) : List Value := [.slice a_l l.length c_l, .int .i64 ((l.length : Nat) : Int), cellPtr (.slice a_l l.length c_l) (0 * 8), strV (l.getD (0) default).1, .bool (l.getD (0) default).2.1, .bool (l.getD (0) default).2.2.1, .bool (l.getD (0) default).2.2.2.1, .int .i64 (l.getD (0) default).2.2.2.2.1, .int .i64 (l.getD (0) default).2.2.2.2.2.1, .int .i64 (l.getD (0) default).2.2.2.2.2.2.1, .int .i64 (l.getD (0) default).2.2.2.2.2.2.2, .int .i64 ((i : Nat) : Int), cellPtr (.slice a_l l.length c_l) (i * 8), strV (l.getD (i) default).1, .bool (l.getD (i) default).2.1, .bool (l.getD (i) default).2.2.1, .bool (l.getD (i) default).2.2.2.1, .int .i64 (l.getD (i) default).2.2.2.2.1, .int .i64 (l.getD (i) default).2.2.2.2.2.1, .int .i64 (l.getD (i) default).2.2.2.2.2.2.1, .int .i64 (l.getD (i) default).2.2.2.2.2.2.2, cellPtr (.slice a_l l.length c_l) (i * 8 + 0), .int .i64 (max 0 (idxN l (l.getD (i) default).1)), .bool (decide (0 ≤ idxN l (l.getD (i) default).1)), .int .i64 ((i + 1 : Nat) : Int)]
@[reducible] noncomputable def sg (M : Mem) (l : List Mt) (a_l : Option Addr) (c_l : Nat) (i : Nat) : Sig := sgL M (vL l a_l c_l i)
set_option maxHeartbeats 4000000 in
theorem any (W : World) {v_l : Value} {l : List Mt} (hl : Arr (heapOf W) 8 encM v_l l)  : Calls Tryd.prog 12 #[v_l] W fun e w' => e = .returned (.tuple #[.int .i64 (chkM l).1, .int .i64 (chkM l).2]) ∧ Low W.heap.size W w' := by
  obtain ⟨a_l, c_l, rfl⟩ := hl.slice
  refine @walk_enter (sg (heapOf W) l a_l c_l 0) Tryd.prog 12 Tryd.f12 body [symv 0] (slots [(0, symv 0)]) N W _ Tryd.func12 (by kernel_rfl) (by kernel_rfl) (by kernel_rfl) (by kernel_rfl) (immW_sgL W _) fun a hh => ?_
  letI := (sg (heapOf W) l a_l c_l 0)
  by_cases h0 : 256 < ((l.length : Nat) : Int)
  · refine walk_to (F := F0) (T := C0) (fuel := 1000) (d := 10) mixed (aFc (FactOk.arrLen hl rfl rfl underMl rfl rfl) (aFc (FactOk.bi rfl rfl rfl rfl rfl rfl (boolT (by omega))) aFn)) aCn ?_ hh
    exact ostop_end e0 fun w2 hLow hIn => ⟨(by refine congrArg Ending.returned ?_; first | (rw [chkM_long (by omega)]; rfl) | (rw [chkM_nil (by omega) (by omega)]; rfl) | (rw [chkM_air (by omega) (by omega) (by assumption)]; rfl) | (rw [chkM_bad (i := i) (by omega) (by omega) (by assumption) (by omega) hI.2 (by assumption)]; rfl) | (rw [chkM_two (i := i) (by omega) (by omega) (by assumption) (by omega) hI.2 (by assumption) ((idx_before (by omega)).1 (by omega))]; rfl) | (rw [chkM_ok (by omega) (by omega) (by assumption) (fun j hj => hI.2 j (by omega))]; rfl)), hLow⟩
  · by_cases h1 : ((l.length : Nat) : Int) = 0
    · refine walk_to (F := F1) (T := C1) (fuel := 1000) (d := 10) mixed (aFc (FactOk.arrLen hl rfl rfl underMl rfl rfl) (aFc (FactOk.bi rfl rfl rfl rfl rfl rfl (boolF (by omega))) (aFc (FactOk.bi rfl rfl rfl rfl rfl rfl (boolT (by omega))) aFn))) aCn ?_ hh
      exact ostop_end e1 fun w2 hLow hIn => ⟨(by refine congrArg Ending.returned ?_; first | (rw [chkM_long (by omega)]; rfl) | (rw [chkM_nil (by omega) (by omega)]; rfl) | (rw [chkM_air (by omega) (by omega) (by assumption)]; rfl) | (rw [chkM_bad (i := i) (by omega) (by omega) (by assumption) (by omega) hI.2 (by assumption)]; rfl) | (rw [chkM_two (i := i) (by omega) (by omega) (by assumption) (by omega) hI.2 (by assumption) ((idx_before (by omega)).1 (by omega))]; rfl) | (rw [chkM_ok (by omega) (by omega) (by assumption) (fun j hj => hI.2 j (by omega))]; rfl)), hLow⟩
    · by_cases h2 : (l.getD (0) default) = ((([97, 105, 114] : Bs), false, false, false, 1, 0, 0, 0) : Mt)
      · refine walk_to (F := F2) (T := C2) (fuel := 1000) (d := 10) mixed (aFc (FactOk.arrLen hl rfl rfl underMl rfl rfl) (aFc (FactOk.bi rfl rfl rfl rfl rfl rfl (boolF (by omega))) (aFc (FactOk.bi rfl rfl rfl rfl rfl rfl (boolF (by omega))) (aFc (FactOk.arrIxa hl (show 0 < l.length by omega) rfl rfl rfl underMl sizeM rfl rfl rfl) (aFc (FactOk.arrLd hl (getSome (show 0 < l.length by omega)) rfl rfl aggM sizeM rfl rfl rfl) (aFc (neM rfl rfl rfl rfl (by rw [decide_eq_true h2]; rfl)) aFn)))))) aCn ?_ hh
        refine ostop_loop (sg := (fun i => sg (heapOf W) l a_l c_l i)) (fun i => i ≤ l.length ∧ ∀ j, j < i → ¬ badAt l j) (fun i => l.length - i) 0 e2 (meet_cons (by first | exact meetV (.slice a_l l.length c_l) rfl rfl | exact meetI rfl rfl (by omega)) (meet_cons (by first | rfl | exact meetInt (by omega)) meet_nil)) (fun _ _ h => h) (by exact ⟨Nat.zero_le _, fun j h => absurd h (Nat.not_lt_zero _)⟩) ?_
        intro i hI aC w hh
        letI := (sg (heapOf W) l a_l c_l i)
        by_cases p0 : ((i : Nat) : Int) < ((l.length : Nat) : Int)
        · by_cases p1 : validM (l.getD (i) default)
          · by_cases p2 : (max 0 (idxN l (l.getD (i) default).1)) < ((i : Nat) : Int)
            · refine walk_to (F := F3) (T := C3) (fuel := 1000) (d := 10) mixed (aFc (FactOk.arrLen hl rfl rfl underMl rfl rfl) (aFc (FactOk.bi rfl rfl rfl rfl rfl rfl (boolT (by omega))) (aFc (FactOk.arrIxa hl (show i < l.length by omega) rfl rfl rfl underMl sizeM rfl rfl rfl) (aFc (FactOk.arrLd hl (getSome (show i < l.length by omega)) rfl rfl aggM sizeM rfl rfl rfl) (aFc (arrFaM0 hl (show i < l.length by omega) rfl rfl rfl rfl) (aFc (FactOk.arrLd1 (j := 0) hl (getSome (show i < l.length by omega)) rfl rfl aggStr rfl rfl rfl rfl) (aFc (FactOk.bi rfl rfl rfl rfl rfl rfl (boolT (by omega))) aFn))))))) (aCc (callRValT rfl rfl p1) (aCc (callRFind rfl rfl rfl rfl hl (by omega)) aCn)) ?_ hh
              refine walk_leave (F := F4) (T := C4) (fuel := 1000) (d := 10) mixed aFn aCn ?_
              exact ostop_end e3 fun w2 hLow hIn => ⟨(by refine congrArg Ending.returned ?_; first | (rw [chkM_long (by omega)]; rfl) | (rw [chkM_nil (by omega) (by omega)]; rfl) | (rw [chkM_air (by omega) (by omega) (by assumption)]; rfl) | (rw [chkM_bad (i := i) (by omega) (by omega) (by assumption) (by omega) hI.2 (by assumption)]; rfl) | (rw [chkM_two (i := i) (by omega) (by omega) (by assumption) (by omega) hI.2 (by assumption) ((idx_before (by omega)).1 (by omega))]; rfl) | (rw [chkM_ok (by omega) (by omega) (by assumption) (fun j hj => hI.2 j (by omega))]; rfl)), hLow⟩
            · refine walk_to (F := F5) (T := C5) (fuel := 1000) (d := 10) mixed (aFc (FactOk.arrLen hl rfl rfl underMl rfl rfl) (aFc (FactOk.bi rfl rfl rfl rfl rfl rfl (boolT (by omega))) (aFc (FactOk.arrIxa hl (show i < l.length by omega) rfl rfl rfl underMl sizeM rfl rfl rfl) (aFc (FactOk.arrLd hl (getSome (show i < l.length by omega)) rfl rfl aggM sizeM rfl rfl rfl) (aFc (arrFaM0 hl (show i < l.length by omega) rfl rfl rfl rfl) (aFc (FactOk.arrLd1 (j := 0) hl (getSome (show i < l.length by omega)) rfl rfl aggStr rfl rfl rfl rfl) (aFc (FactOk.bi rfl rfl rfl rfl rfl rfl (boolF (by omega))) (aFc (FactOk.bi rfl rfl rfl rfl rfl rfl (intI (by omega) (by omega) (by omega))) aFn)))))))) (aCc (callRValT rfl rfl p1) (aCc (callRFind rfl rfl rfl rfl hl (by omega)) aCn)) ?_ hh
              exact ostop_backM (s1 := (sg (heapOf W) l a_l c_l i)) (sg := (fun i => sg (heapOf W) l a_l c_l i)) (I := fun i => i ≤ l.length ∧ ∀ j, j < i → ¬ badAt l j) (μ := fun i => l.length - i) (x := i) (i + 1) e4 (meet_cons (by first | exact meetV (.slice a_l l.length c_l) rfl rfl | exact meetI rfl rfl (by omega)) (meet_cons (by first | exact meetV (.int .i64 ((i + 1 : Nat) : Int)) rfl rfl | exact meetI rfl rfl (by omega)) meet_nil)) (fun _ _ h => h) (by exact ⟨by omega, fun j hj => by rcases Nat.lt_succ_iff_lt_or_eq.1 hj with h | rfl; exact hI.2 j h; exact badAt_no (by assumption) (fun h => absurd ((idx_before (by omega)).2 h) (by omega))⟩) (by (try dsimp only); omega)
          · refine walk_to (F := F6) (T := C6) (fuel := 1000) (d := 10) mixed (aFc (FactOk.arrLen hl rfl rfl underMl rfl rfl) (aFc (FactOk.bi rfl rfl rfl rfl rfl rfl (boolT (by omega))) (aFc (FactOk.arrIxa hl (show i < l.length by omega) rfl rfl rfl underMl sizeM rfl rfl rfl) (aFc (FactOk.arrLd hl (getSome (show i < l.length by omega)) rfl rfl aggM sizeM rfl rfl rfl) aFn)))) (aCc (callRValF rfl rfl p1) aCn) ?_ hh
            refine walk_leave (F := F4) (T := C4) (fuel := 1000) (d := 10) mixed aFn aCn ?_
            exact ostop_end e5 fun w2 hLow hIn => ⟨(by refine congrArg Ending.returned ?_; first | (rw [chkM_long (by omega)]; rfl) | (rw [chkM_nil (by omega) (by omega)]; rfl) | (rw [chkM_air (by omega) (by omega) (by assumption)]; rfl) | (rw [chkM_bad (i := i) (by omega) (by omega) (by assumption) (by omega) hI.2 (by assumption)]; rfl) | (rw [chkM_two (i := i) (by omega) (by omega) (by assumption) (by omega) hI.2 (by assumption) ((idx_before (by omega)).1 (by omega))]; rfl) | (rw [chkM_ok (by omega) (by omega) (by assumption) (fun j hj => hI.2 j (by omega))]; rfl)), hLow⟩
        · refine walk_to (F := F7) (T := C7) (fuel := 1000) (d := 10) mixed (aFc (FactOk.arrLen hl rfl rfl underMl rfl rfl) (aFc (FactOk.bi rfl rfl rfl rfl rfl rfl (boolF (by omega))) aFn)) aCn ?_ hh
          refine walk_leave (F := F4) (T := C4) (fuel := 1000) (d := 10) mixed aFn aCn ?_
          exact ostop_end e6 fun w2 hLow hIn => ⟨(by refine congrArg Ending.returned ?_; first | (rw [chkM_long (by omega)]; rfl) | (rw [chkM_nil (by omega) (by omega)]; rfl) | (rw [chkM_air (by omega) (by omega) (by assumption)]; rfl) | (rw [chkM_bad (i := i) (by omega) (by omega) (by assumption) (by omega) hI.2 (by assumption)]; rfl) | (rw [chkM_two (i := i) (by omega) (by omega) (by assumption) (by omega) hI.2 (by assumption) ((idx_before (by omega)).1 (by omega))]; rfl) | (rw [chkM_ok (by omega) (by omega) (by assumption) (fun j hj => hI.2 j (by omega))]; rfl)), hLow⟩
      · refine walk_to (F := F8) (T := C8) (fuel := 1000) (d := 10) mixed (aFc (FactOk.arrLen hl rfl rfl underMl rfl rfl) (aFc (FactOk.bi rfl rfl rfl rfl rfl rfl (boolF (by omega))) (aFc (FactOk.bi rfl rfl rfl rfl rfl rfl (boolF (by omega))) (aFc (FactOk.arrIxa hl (show 0 < l.length by omega) rfl rfl rfl underMl sizeM rfl rfl rfl) (aFc (FactOk.arrLd hl (getSome (show 0 < l.length by omega)) rfl rfl aggM sizeM rfl rfl rfl) (aFc (neM rfl rfl rfl rfl (by rw [decide_eq_false h2]; rfl)) aFn)))))) aCn ?_ hh
        exact ostop_end e7 fun w2 hLow hIn => ⟨(by refine congrArg Ending.returned ?_; first | (rw [chkM_long (by omega)]; rfl) | (rw [chkM_nil (by omega) (by omega)]; rfl) | (rw [chkM_air (by omega) (by omega) (by assumption)]; rfl) | (rw [chkM_bad (i := i) (by omega) (by omega) (by assumption) (by omega) hI.2 (by assumption)]; rfl) | (rw [chkM_two (i := i) (by omega) (by omega) (by assumption) (by omega) hI.2 (by assumption) ((idx_before (by omega)).1 (by omega))]; rfl) | (rw [chkM_ok (by omega) (by omega) (by assumption) (fun j hj => hI.2 j (by omega))]; rfl)), hLow⟩
end RChkG
end AE
end Go.Proofs.YtblhndlmgibljaaDoor

/- The reference's kind and Check, as facts. -/
namespace Go.Proofs.YtblhndlmgibljaaDoor
open Go Go.Proofs Go.RowKit
namespace AE
theorem callRChk [Sig] {x r : Value} {u : Value} {l : List Mt} (hp : plainSL [x] = true) (hr : plainS r = true) (ev : interpL [x] = [u]) (er : interp r = .tuple #[.int .i64 (chkM l).1, .int .i64 (chkM l).2]) (hl : Arr Sig.imm 8 encM u l) : CallFactOk Tryd.prog (12, [x], r) :=
  callAny (a := #[u]) hp hr ev er fun w hw => RChkG.any w (hl.mono hw)
end AE
end Go.Proofs.YtblhndlmgibljaaDoor

/- the walks of Same -/
namespace Go.Proofs.YtblhndlmgibljaaDoor
open Go Go.Proofs Go.RowKit
set_option maxRecDepth 100000
namespace AE
namespace RSameG
noncomputable def body : Code := (Tryd.f16.body).getD .skip
def N : Nat := 26
noncomputable abbrev at' (N : Nat) (F : List (FOp × Value)) (C : List (FuncId × List Value × Value)) (c : Code) (s : ASt) : Option Stop := evalTo Tryd.prog F C N 1000 10 c s
noncomputable abbrev leave' (N : Nat) (F : List (FOp × Value)) (C : List (FuncId × List Value × Value)) (ks : List KI) (o : Option Stop) : Option Stop := evalLeave Tryd.prog F C N 1000 10 ks o
def s0 : ASt := { sl := slots [(1, symv 1), (0, symv 0)], ms := [], A := start }
def F0 : List (FOp × Value) := [(.len #[22] 3 (symv 0), symv 2),
    (.len #[22] 3 (symv 1), symv 3),
    (.bin .neq 3 (symv 2) (symv 3), .bool false)]
def C0 : List (FuncId × List Value × Value) := []
noncomputable def bks0 : List Bk := []
def head0 : Sl := slots [(5, symv 4), (1, symv 1), (0, symv 0)]
noncomputable abbrev at0 := at' 26 F0 C0 body s0
theorem e0 : headObs head0 bks0 at0 = some [(symv 0, symv 0), (symv 1, symv 1), (.int .i64 0, symv 4)] := by kernel_rfl
def F1 : List (FOp × Value) := [(.len #[22] 3 (symv 0), symv 2),
    (.bin .lss 3 (symv 4) (symv 2), .bool true),
    (.ixa 22 (symv 0) (symv 4), symv 5),
    (.ld 35 (symv 5), .agg ⟨[symv 6, symv 7, symv 8, symv 9, symv 10, symv 11, symv 12, symv 13]⟩),
    (.ixa 22 (symv 1) (symv 4), symv 14),
    (.ld 35 (symv 14), .agg ⟨[symv 15, symv 16, symv 17, symv 18, symv 19, symv 20, symv 21, symv 22]⟩),
    (.bin .neq 35 (.agg ⟨[symv 6, symv 7, symv 8, symv 9, symv 10, symv 11, symv 12, symv 13]⟩) (.agg ⟨[symv 15, symv 16, symv 17, symv 18, symv 19, symv 20, symv 21, symv 22]⟩), .bool false),
    (.bin .add 3 (symv 4) (.int .i64 1), symv 23)]
def C1 : List (FuncId × List Value × Value) := []
theorem e1 : backObs head0 bks0 (at' 26 F1 C1 (stopCode at0) (headSt head0 bks0)) = some [(symv 0, symv 0), (symv 1, symv 1), (symv 23, symv 4)] := by kernel_rfl
def F2 : List (FOp × Value) := [(.len #[22] 3 (symv 0), symv 2),
    (.bin .lss 3 (symv 4) (symv 2), .bool true),
    (.ixa 22 (symv 0) (symv 4), symv 5),
    (.ld 35 (symv 5), .agg ⟨[symv 6, symv 7, symv 8, symv 9, symv 10, symv 11, symv 12, symv 13]⟩),
    (.ixa 22 (symv 1) (symv 4), symv 14),
    (.ld 35 (symv 14), .agg ⟨[symv 15, symv 16, symv 17, symv 18, symv 19, symv 20, symv 21, symv 22]⟩),
    (.bin .neq 35 (.agg ⟨[symv 6, symv 7, symv 8, symv 9, symv 10, symv 11, symv 12, symv 13]⟩) (.agg ⟨[symv 15, symv 16, symv 17, symv 18, symv 19, symv 20, symv 21, symv 22]⟩), .bool true)]
def C2 : List (FuncId × List Value × Value) := []
def F3 : List (FOp × Value) := []
def C3 : List (FuncId × List Value × Value) := []
theorem e2 : endVal Tryd.prog Tryd.f16 (leave' 26 F3 C3 (stopKs at0) (at' 26 F2 C2 (stopCode at0) (headSt head0 bks0))) = some (.bool false) := by kernel_rfl
def F4 : List (FOp × Value) := [(.len #[22] 3 (symv 0), symv 2),
    (.bin .lss 3 (symv 4) (symv 2), .bool false)]
def C4 : List (FuncId × List Value × Value) := []
theorem e3 : endVal Tryd.prog Tryd.f16 (leave' 26 F3 C3 (stopKs at0) (at' 26 F4 C4 (stopCode at0) (headSt head0 bks0))) = some (.bool true) := by kernel_rfl
def F5 : List (FOp × Value) := [(.len #[22] 3 (symv 0), symv 2),
    (.len #[22] 3 (symv 1), symv 3),
    (.bin .neq 3 (symv 2) (symv 3), .bool true)]
def C5 : List (FuncId × List Value × Value) := []
theorem e4 : endVal Tryd.prog Tryd.f16 (at' 26 F5 C5 body s0) = some (.bool false) := by kernel_rfl
@[reducible] noncomputable def vL (l : List Mt) (a_l : Option Addr) (c_l : Nat) (k : List Mt) (a_k : Option Addr) (c_k : Nat) (i : Nat) : List Value := [.slice a_l l.length c_l, .slice a_k k.length c_k, .int .i64 ((l.length : Nat) : Int), .int .i64 ((k.length : Nat) : Int), .int .i64 ((i : Nat) : Int), cellPtr (.slice a_l l.length c_l) (i * 8), strV (l.getD (i) default).1, .bool (l.getD (i) default).2.1, .bool (l.getD (i) default).2.2.1, .bool (l.getD (i) default).2.2.2.1, .int .i64 (l.getD (i) default).2.2.2.2.1, .int .i64 (l.getD (i) default).2.2.2.2.2.1, .int .i64 (l.getD (i) default).2.2.2.2.2.2.1, .int .i64 (l.getD (i) default).2.2.2.2.2.2.2, cellPtr (.slice a_k k.length c_k) (i * 8), strV (k.getD (i) default).1, .bool (k.getD (i) default).2.1, .bool (k.getD (i) default).2.2.1, .bool (k.getD (i) default).2.2.2.1, .int .i64 (k.getD (i) default).2.2.2.2.1, .int .i64 (k.getD (i) default).2.2.2.2.2.1, .int .i64 (k.getD (i) default).2.2.2.2.2.2.1, .int .i64 (k.getD (i) default).2.2.2.2.2.2.2, .int .i64 ((i + 1 : Nat) : Int)]
@[reducible] noncomputable def sg (M : Mem) (l : List Mt) (a_l : Option Addr) (c_l : Nat) (k : List Mt) (a_k : Option Addr) (c_k : Nat) (i : Nat) : Sig := sgL M (vL l a_l c_l k a_k c_k i)
set_option maxHeartbeats 4000000 in
theorem any (W : World) {v_l : Value} {l : List Mt} (hl : Arr (heapOf W) 8 encM v_l l) {v_k : Value} {k : List Mt} (hk : Arr (heapOf W) 8 encM v_k k) (hn : l.length ≤ 1000000) : Calls Tryd.prog 16 #[v_l, v_k] W fun e w' => e = .returned (.bool (decide (l = k))) ∧ Low W.heap.size W w' := by
  obtain ⟨a_l, c_l, rfl⟩ := hl.slice
  obtain ⟨a_k, c_k, rfl⟩ := hk.slice
  refine @walk_enter (sg (heapOf W) l a_l c_l k a_k c_k 0) Tryd.prog 16 Tryd.f16 body [symv 0, symv 1] (slots [(1, symv 1), (0, symv 0)]) N W _ Tryd.func16 (by kernel_rfl) (by kernel_rfl) (by kernel_rfl) (by kernel_rfl) (immW_sgL W _) fun a hh => ?_
  letI := (sg (heapOf W) l a_l c_l k a_k c_k 0)
  by_cases h0 : ((l.length : Nat) : Int) = ((k.length : Nat) : Int)
  · refine walk_to (F := F0) (T := C0) (fuel := 1000) (d := 10) mixed (aFc (FactOk.arrLen hl rfl rfl underMl rfl rfl) (aFc (FactOk.arrLen hk rfl rfl underMl rfl rfl) (aFc (FactOk.bi rfl rfl rfl rfl rfl rfl (nboolF (by omega))) aFn))) aCn ?_ hh
    refine ostop_loop (sg := (fun i => sg (heapOf W) l a_l c_l k a_k c_k i)) (fun i => i ≤ l.length ∧ ∀ j, j < i → l.getD j default = k.getD j default) (fun i => l.length - i) 0 e0 (meet_cons (by first | exact meetV (.slice a_l l.length c_l) rfl rfl | exact meetI rfl rfl (by omega)) (meet_cons (by first | exact meetV (.slice a_k k.length c_k) rfl rfl | exact meetI rfl rfl (by omega)) (meet_cons (by first | rfl | exact meetInt (by omega)) meet_nil))) (fun _ _ h => h) (by exact ⟨Nat.zero_le _, fun j h => absurd h (Nat.not_lt_zero _)⟩) ?_
    intro i hI aC w hh
    letI := (sg (heapOf W) l a_l c_l k a_k c_k i)
    by_cases p0 : ((i : Nat) : Int) < ((l.length : Nat) : Int)
    · by_cases p1 : (l.getD (i) default) = (k.getD (i) default)
      · refine walk_to (F := F1) (T := C1) (fuel := 1000) (d := 10) mixed (aFc (FactOk.arrLen hl rfl rfl underMl rfl rfl) (aFc (FactOk.bi rfl rfl rfl rfl rfl rfl (boolT (by omega))) (aFc (FactOk.arrIxa hl (show i < l.length by omega) rfl rfl rfl underMl sizeM rfl rfl rfl) (aFc (FactOk.arrLd hl (getSome (show i < l.length by omega)) rfl rfl aggM sizeM rfl rfl rfl) (aFc (FactOk.arrIxa hk (show i < k.length by omega) rfl rfl rfl underMl sizeM rfl rfl rfl) (aFc (FactOk.arrLd hk (getSome (show i < k.length by omega)) rfl rfl aggM sizeM rfl rfl rfl) (aFc (neM rfl rfl rfl rfl (by rw [decide_eq_true p1]; rfl)) (aFc (FactOk.bi rfl rfl rfl rfl rfl rfl (intI (by omega) (by omega) (by omega))) aFn)))))))) aCn ?_ hh
        exact ostop_backM (s1 := (sg (heapOf W) l a_l c_l k a_k c_k i)) (sg := (fun i => sg (heapOf W) l a_l c_l k a_k c_k i)) (I := fun i => i ≤ l.length ∧ ∀ j, j < i → l.getD j default = k.getD j default) (μ := fun i => l.length - i) (x := i) (i + 1) e1 (meet_cons (by first | exact meetV (.slice a_l l.length c_l) rfl rfl | exact meetI rfl rfl (by omega)) (meet_cons (by first | exact meetV (.slice a_k k.length c_k) rfl rfl | exact meetI rfl rfl (by omega)) (meet_cons (by first | exact meetV (.int .i64 ((i + 1 : Nat) : Int)) rfl rfl | exact meetI rfl rfl (by omega)) meet_nil))) (fun _ _ h => h) (by exact ⟨by omega, fun j h => by rcases Nat.lt_or_ge j i with h1 | h1; exact hI.2 j h1; obtain rfl : j = i := (by omega); assumption⟩) (by (try dsimp only); omega)
      · refine walk_to (F := F2) (T := C2) (fuel := 1000) (d := 10) mixed (aFc (FactOk.arrLen hl rfl rfl underMl rfl rfl) (aFc (FactOk.bi rfl rfl rfl rfl rfl rfl (boolT (by omega))) (aFc (FactOk.arrIxa hl (show i < l.length by omega) rfl rfl rfl underMl sizeM rfl rfl rfl) (aFc (FactOk.arrLd hl (getSome (show i < l.length by omega)) rfl rfl aggM sizeM rfl rfl rfl) (aFc (FactOk.arrIxa hk (show i < k.length by omega) rfl rfl rfl underMl sizeM rfl rfl rfl) (aFc (FactOk.arrLd hk (getSome (show i < k.length by omega)) rfl rfl aggM sizeM rfl rfl rfl) (aFc (neM rfl rfl rfl rfl (by rw [decide_eq_false p1]; rfl)) aFn))))))) aCn ?_ hh
        refine walk_leave (F := F3) (T := C3) (fuel := 1000) (d := 10) mixed aFn aCn ?_
        exact ostop_end e2 fun w2 hLow hIn => ⟨(by first | (rw [decide_eq_false (fun h : l = k => by subst h; omega)]; rfl) | (rw [decide_eq_false (fun h : l = k => by subst h; exact absurd rfl (by assumption))]; rfl) | (rw [decide_eq_true (eqM_all (by omega) (fun j hj => hI.2 j (by omega)))]; rfl)), hLow⟩
    · refine walk_to (F := F4) (T := C4) (fuel := 1000) (d := 10) mixed (aFc (FactOk.arrLen hl rfl rfl underMl rfl rfl) (aFc (FactOk.bi rfl rfl rfl rfl rfl rfl (boolF (by omega))) aFn)) aCn ?_ hh
      refine walk_leave (F := F3) (T := C3) (fuel := 1000) (d := 10) mixed aFn aCn ?_
      exact ostop_end e3 fun w2 hLow hIn => ⟨(by first | (rw [decide_eq_false (fun h : l = k => by subst h; omega)]; rfl) | (rw [decide_eq_false (fun h : l = k => by subst h; exact absurd rfl (by assumption))]; rfl) | (rw [decide_eq_true (eqM_all (by omega) (fun j hj => hI.2 j (by omega)))]; rfl)), hLow⟩
  · refine walk_to (F := F5) (T := C5) (fuel := 1000) (d := 10) mixed (aFc (FactOk.arrLen hl rfl rfl underMl rfl rfl) (aFc (FactOk.arrLen hk rfl rfl underMl rfl rfl) (aFc (FactOk.bi rfl rfl rfl rfl rfl rfl (nboolT (by omega))) aFn))) aCn ?_ hh
    exact ostop_end e4 fun w2 hLow hIn => ⟨(by first | (rw [decide_eq_false (fun h : l = k => by subst h; omega)]; rfl) | (rw [decide_eq_false (fun h : l = k => by subst h; exact absurd rfl (by assumption))]; rfl) | (rw [decide_eq_true (eqM_all (by omega) (fun j hj => hI.2 j (by omega)))]; rfl)), hLow⟩
end RSameG
end AE
end Go.Proofs.YtblhndlmgibljaaDoor

/- Print and equality, of the program and of the reference, as facts. -/
namespace Go.Proofs.YtblhndlmgibljaaDoor
open Go Go.Proofs Go.RowKit
namespace AE
variable [Sig]
theorem callRSameT {x y : Value} {u v : Value} {l k : List Mt} (hp : plainSL [x, y] = true) (ev : interpL [x, y] = [u, v]) (hl : Arr Sig.imm 8 encM u l) (hk : Arr Sig.imm 8 encM v k) (hn : l.length ≤ 1000000) (h : l = k) : CallFactOk Tryd.prog (16, [x, y], .bool true) :=
  callAny (a := #[u, v]) hp rfl ev rfl fun w hw => (RSameG.any w (hl.mono hw) (hk.mono hw) hn).mono fun e w' h' => by rw [decide_eq_true h] at h'; exact h'
theorem callRSameF {x y : Value} {u v : Value} {l k : List Mt} (hp : plainSL [x, y] = true) (ev : interpL [x, y] = [u, v]) (hl : Arr Sig.imm 8 encM u l) (hk : Arr Sig.imm 8 encM v k) (hn : l.length ≤ 1000000) (h : ¬ l = k) : CallFactOk Tryd.prog (16, [x, y], .bool false) :=
  callAny (a := #[u, v]) hp rfl ev rfl fun w hw => (RSameG.any w (hl.mono hw) (hk.mono hw) hn).mono fun e w' h' => by rw [decide_eq_false h] at h'; exact h'
end AE
end Go.Proofs.YtblhndlmgibljaaDoor

/- What the reference reads of numbers. -/
namespace Go.Proofs.YtblhndlmgibljaaDoor
open Go Go.Proofs Go.RowKit
set_option maxRecDepth 100000
namespace AE
def rnumF (s : Bs) : Int := if numBad s then -1 else (atoiR s).1
def dv (s : Bs) (k : Nat) : Int := (((s.getD k 0).toNat : Nat) : Int) - 48
def dg (s : Bs) (k : Nat) : Prop := 0 ≤ dv s k ∧ dv s k ≤ 9
instance (s : Bs) (k : Nat) : Decidable (dg s k) := inferInstanceAs (Decidable (_ ∧ _))
def numTo (s : Bs) (i : Nat) (n : Int) : Prop := (i = 0 ∧ n = 0) ∨ (i = 1 ∧ dg s 0 ∧ n = dv s 0) ∨ (i = 2 ∧ dg s 0 ∧ dg s 1 ∧ n = 10 * dv s 0 + dv s 1) ∨ (i = 3 ∧ dg s 0 ∧ dg s 1 ∧ dg s 2 ∧ n = 10 * (10 * dv s 0 + dv s 1) + dv s 2)
theorem numTo_bound {s : Bs} {i : Nat} {n : Int} (h : numTo s i n) : 0 ≤ n ∧ n ≤ 999 := by
  unfold numTo dg at h
  omega
theorem numTo_succ {s : Bs} {i : Nat} {n : Int} (h : numTo s i n) (hi : i < 3) (h1 : 48 ≤ (((s.getD i 0).toNat : Nat) : Int)) (h2 : (((s.getD i 0).toNat : Nat) : Int) ≤ 57) : numTo s (i + 1) (10 * n + (((s.getD i 0).toNat : Nat) : Int) - 48) := by
  have hd : dg s i := by unfold dg dv; omega
  have he : (((s.getD i 0).toNat : Nat) : Int) = dv s i + 48 := by unfold dv; omega
  rw [he]
  rcases h with ⟨rfl, rfl⟩ | ⟨rfl, h3, rfl⟩ | ⟨rfl, h3, h4, rfl⟩ | ⟨rfl, _⟩
  · exact .inr (.inl ⟨rfl, hd, by omega⟩)
  · exact .inr (.inr (.inl ⟨rfl, h3, hd, by omega⟩))
  · exact .inr (.inr (.inr ⟨rfl, h3, h4, hd, by omega⟩))
  · omega
def dig3 (n : Nat) : Bs := if n < 10 then [UInt8.ofNat (48 + n)] else if n < 100 then [UInt8.ofNat (48 + n / 10), UInt8.ofNat (48 + n % 10)] else [UInt8.ofNat (48 + n / 100), UInt8.ofNat (48 + n / 10 % 10), UInt8.ofNat (48 + n % 10)]
theorem dec_dig3 {n : Nat} (h : n < 1000) : Go.Lib.decDigits n = dig3 n := by
  rw [Go.Lib.decDigits]
  unfold dig3
  split
  · rfl
  · rw [Go.Lib.decDigits]
    split
    · rename_i h1 h2
      rw [if_pos (by omega)]
      rfl
    · rename_i h1 h2
      rw [if_neg (by omega), Go.Lib.decDigits, dif_pos (by omega)]
      show _ ++ _ ++ _ = _
      rw [show n / 10 / 10 = n / 100 by omega]
      rfl
theorem dec_len (n : Nat) : 0 < (Go.Lib.decDigits n).length := by
  rw [Go.Lib.decDigits]
  split <;> simp
theorem dec_long {n : Nat} (h : 1000 ≤ n) : 3 < (Go.Lib.decDigits n).length := by
  have := dec_len (n / 10 / 10 / 10)
  rw [Go.Lib.decDigits, dif_neg (by omega), Go.Lib.decDigits, dif_neg (by omega), Go.Lib.decDigits, dif_neg (by omega)]
  simp only [List.length_append, List.length_cons, List.length_nil]
  omega
def dig3Ok (n : Nat) : Bool := decide (atoiR (dig3 n) = ((n : Int), false)) && decide (1 ≤ (dig3 n).length) && decide ((dig3 n).length ≤ 3) && decide (∀ i, i < (dig3 n).length → dg (dig3 n) i) && decide (1 < (dig3 n).length → ¬ (dig3 n).getD 0 0 = 48)
theorem dig3_all : ∀ n, n < 1000 → dig3Ok n = true := by
  have h : (List.range 1000).all dig3Ok = true := by kernel_rfl
  intro n hn
  exact List.all_eq_true.1 h n (by simpa using hn)
theorem itoaB_dig3 {n : Nat} (h : n < 1000) : itoaB (n : Int) = dig3 n := by rw [itoaB_nat, dec_dig3 h]
theorem dig3_num {n : Nat} (h : n < 1000) : rnumF (dig3 n) = (n : Int) := by
  have h1 := dig3_all n h
  unfold dig3Ok at h1
  simp only [Bool.and_eq_true, decide_eq_true_eq] at h1
  have h2 : numBad (dig3 n) = false := by
    unfold numBad
    rw [h1.1.1.1.1]
    simp only [Bool.false_or]
    rw [decide_eq_false (by omega), decide_eq_false (by omega), itoaB_dig3 h]
    simp
  unfold rnumF
  rw [h2, h1.1.1.1.1]
  rfl
theorem rnum_is {s : Bs} (h : numBad s = false) : 1 ≤ s.length ∧ s.length ≤ 3 ∧ (∀ i, i < s.length → dg s i) ∧ (1 < s.length → ¬ s.getD 0 0 = 48) := by
  unfold numBad at h
  simp only [Bool.or_eq_false_iff, decide_eq_false_iff_not, Bool.not_eq_false', decide_eq_true_eq] at h
  obtain ⟨⟨⟨_, h1⟩, h2⟩, h3⟩ := h
  obtain ⟨k, hk⟩ := Int.eq_ofNat_of_zero_le (show 0 ≤ (atoiR s).1 by omega)
  rw [hk, itoaB_nat] at h3
  have hlt : k < 1000 := by
    rcases Nat.lt_or_ge k 1000 with h | h
    · exact h
    · have := dec_long h
      rw [h3] at this
      omega
  rw [dec_dig3 hlt] at h3
  have h4 := dig3_all k hlt
  unfold dig3Ok at h4
  simp only [Bool.and_eq_true, decide_eq_true_eq] at h4
  rw [h3] at h4
  exact ⟨h4.1.1.1.2, h4.1.1.2, h4.1.2, h4.2⟩
theorem rnum_no {s : Bs} (h : ¬ (1 ≤ s.length ∧ s.length ≤ 3 ∧ (∀ i, i < s.length → dg s i) ∧ (1 < s.length → ¬ s.getD 0 0 = 48))) : rnumF s = -1 := by
  unfold rnumF
  rw [if_pos]
  cases hb : numBad s with
  | true => rfl
  | false => exact absurd (rnum_is hb) h
theorem byteEq {x : UInt8} {n : Nat} (h : x.toNat = n) : x = UInt8.ofNat n := by
  rw [← h]
  simp
theorem rnum_yes {s : Bs} {n : Int} (h : numTo s s.length n) (h0 : 1 ≤ s.length) (h2 : 1 < s.length → ¬ (((s.getD 0 0).toNat : Nat) : Int) = 48) : rnumF s = n := by
  obtain ⟨k, rfl⟩ := Int.eq_ofNat_of_zero_le (numTo_bound h).1
  have hk : k < 1000 := by have := (numTo_bound h).2; omega
  have hs : s = dig3 k := by
    unfold numTo dg dv at h
    match s, h0, h, h2 with
    | [a], _, h, _ =>
      simp only [List.length_cons, List.length_nil, List.getD_cons_zero] at h
      have ha : a.toNat = 48 + k := by omega
      unfold dig3
      rw [if_pos (by omega), ← byteEq ha]
    | [a, b], _, h, h2 =>
      simp only [List.length_cons, List.length_nil, List.getD_cons_zero, List.getD_cons_succ] at h h2
      have ha : a.toNat = 48 + k / 10 := by omega
      have hb : b.toNat = 48 + k % 10 := by omega
      unfold dig3
      rw [if_neg (by omega), if_pos (by omega), ← byteEq ha, ← byteEq hb]
    | [a, b, c], _, h, h2 =>
      simp only [List.length_cons, List.length_nil, List.getD_cons_zero, List.getD_cons_succ] at h h2
      have ha : a.toNat = 48 + k / 100 := by omega
      have hb : b.toNat = 48 + k / 10 % 10 := by omega
      have hc : c.toNat = 48 + k % 10 := by omega
      unfold dig3
      rw [if_neg (by omega), if_neg (by omega), ← byteEq ha, ← byteEq hb, ← byteEq hc]
    | a :: b :: c :: d :: r, _, h, _ =>
      simp only [List.length_cons] at h
      omega
  rw [hs, dig3_num hk]
end AE
end Go.Proofs.YtblhndlmgibljaaDoor

/- Words and lines, as a walk over bytes finds them. -/
namespace Go.Proofs.YtblhndlmgibljaaDoor
open Go Go.Proofs Go.RowKit
set_option maxRecDepth 100000
namespace AE
def splTo (c : UInt8) (t : Bs) (k f i : Nat) : Prop := k ≤ f ∧ f ≤ i ∧ i ≤ t.length ∧ (splL c t).drop k = splL c (t.drop f) ∧ ∀ j, f ≤ j → j < i → ¬ (((t.getD j 0).toNat : Nat) : Int) = ((c.toNat : Nat) : Int)
theorem b32 : ((((32 : UInt8).toNat : Nat)) : Int) = 32 := rfl
theorem splTo_zero (c : UInt8) (t : Bs) : splTo c t 0 0 0 := ⟨Nat.le_refl _, Nat.le_refl _, Nat.zero_le _, rfl, fun j _ h => absurd h (Nat.not_lt_zero _)⟩
section
variable {c : UInt8} {t : Bs} {k f i : Nat}
theorem getQ {j : Nat} (h : j < t.length) : t[j]? = some (t.getD j 0) := by rw [List.getD_eq_getElem?_getD, List.getElem?_eq_getElem h]; rfl
theorem splTo.clean (h : splTo c t k f i) : ∀ j, f ≤ j → j < i → t[j]? ≠ some c := fun j h1 h2 e => by
  have hj : j < t.length := by have := h.2.2.1; omega
  rw [getQ hj] at e
  have e' : t.getD j 0 = c := by simpa using e
  exact h.2.2.2.2 j h1 h2 (by rw [e'])
theorem splTo.miss (h : splTo c t k f i) (hi : i < t.length) (hc : ¬ (((t.getD i 0).toNat : Nat) : Int) = ((c.toNat : Nat) : Int)) : splTo c t k f (i + 1) :=
  ⟨h.1, by have := h.2.1; omega, hi, h.2.2.2.1, fun j h1 h2 => by
    rcases Nat.lt_succ_iff_lt_or_eq.1 h2 with h3 | rfl
    · exact h.2.2.2.2 j h1 h3
    · exact hc⟩
theorem splTo.part (h : splTo c t k f i) (hi : i < t.length) (hc : (((t.getD i 0).toNat : Nat) : Int) = ((c.toNat : Nat) : Int)) : (splL c t).drop k = (t.drop f).take (i - f) :: splL c (t.drop (i + 1)) := by
  have hf := h.2.1
  have h1 : (t.drop f)[i - f]? = some c := by
    rw [List.getElem?_drop, show f + (i - f) = i by omega, getQ hi]
    exact congrArg some (UInt8.toNat_inj.1 (by omega))
  rw [h.2.2.2.1, splL_hit h1 fun j hj => by rw [List.getElem?_drop]; exact h.clean (f + j) (by omega) (by omega), List.drop_drop]
  rw [show f + (i - f + 1) = i + 1 by omega]
theorem splTo.hit (h : splTo c t k f i) (hi : i < t.length) (hc : (((t.getD i 0).toNat : Nat) : Int) = ((c.toNat : Nat) : Int)) : splTo c t (k + 1) (i + 1) (i + 1) := by
  have hp := h.part hi hc
  refine ⟨by have := h.1; have := h.2.1; omega, Nat.le_refl _, hi, ?_, fun j h1 h2 => absurd h2 (by omega)⟩
  rw [← List.drop_drop, hp]
  rfl
theorem drop_at {α : Type} {l r : List α} {x : α} {k : Nat} (h : l.drop k = x :: r) : l[k]? = some x ∧ k < l.length ∧ l.length = k + 1 + r.length := by
  have h0 : (l.drop k)[0]? = some x := by rw [h]; rfl
  rw [List.getElem?_drop, Nat.add_zero] at h0
  have h1 : k < l.length := (List.getElem?_eq_some_iff.1 h0).1
  have h2 := congrArg List.length h
  rw [List.length_drop, List.length_cons] at h2
  exact ⟨h0, h1, by omega⟩
theorem splTo.at (h : splTo c t k f i) (hi : i < t.length) (hc : (((t.getD i 0).toNat : Nat) : Int) = ((c.toNat : Nat) : Int)) : (splL c t).getD k default = (t.drop f).take (i - f) ∧ k + 1 < (splL c t).length := by
  obtain ⟨h1, h2, h3⟩ := drop_at (h.part hi hc)
  refine ⟨by rw [List.getD_eq_getElem?_getD, h1]; rfl, ?_⟩
  have := List.length_pos_iff.2 (splL_ne c (t.drop (i + 1)))
  omega
theorem splTo.last (h : splTo c t k f i) (hi : i = t.length) : (splL c t).drop k = [t.drop f] := by
  rw [h.2.2.2.1]
  refine splL_miss fun j e => ?_
  rw [List.getElem?_drop] at e
  have hj : f + j < t.length := (List.getElem?_eq_some_iff.1 e).1
  exact h.clean (f + j) (by omega) (by omega) e
theorem splTo.count (h : splTo c t k f i) (hi : i = t.length) : (splL c t).length = k + 1 ∧ (splL c t).getD k default = t.drop f := by
  obtain ⟨h1, h2, h3⟩ := drop_at (h.last hi)
  exact ⟨by simpa using h3, by rw [List.getD_eq_getElem?_getD, h1]; rfl⟩
def wordsTo (c : UInt8) (t : Bs) (b : List Bs) (f i : Nat) : Prop := (b = (splL c t).take b.length ∧ splTo c t b.length f i) ∨ (i = t.length + 1 ∧ f = i ∧ b.length ≤ f ∧ b = splL c t)
theorem wordsTo_zero (c : UInt8) (t : Bs) : wordsTo c t [] 0 0 := .inl ⟨rfl, splTo_zero c t⟩
variable {b : List Bs}
theorem wordsTo.bounds (h : wordsTo c t b f i) : b.length ≤ f ∧ f ≤ i ∧ i ≤ t.length + 1 := by
  rcases h with ⟨_, h⟩ | ⟨rfl, rfl, h, _⟩
  · exact ⟨h.1, h.2.1, Nat.le_succ_of_le h.2.2.1⟩
  · exact ⟨h, Nat.le_refl _, Nat.le_refl _⟩
theorem wordsTo.fst (h : wordsTo c t b f i) (hi : i ≤ t.length) : b = (splL c t).take b.length ∧ splTo c t b.length f i := by
  rcases h with h | h
  · exact h
  · omega
theorem wordsTo.miss (h : wordsTo c t b f i) (hi : i < t.length) (hc : ¬ (((t.getD i 0).toNat : Nat) : Int) = ((c.toNat : Nat) : Int)) : wordsTo c t b f (i + 1) := by
  obtain ⟨h1, h2⟩ := h.fst (by omega)
  exact .inl ⟨h1, h2.miss hi hc⟩
theorem take_more {α : Type} {l b r : List α} {x : α} (h1 : b = l.take b.length) (h2 : l.drop b.length = x :: r) : b ++ [x] = l.take (b.length + 1) := by
  obtain ⟨h3, h4, _⟩ := drop_at h2
  rw [List.take_add_one, h3, ← h1]
  rfl
theorem wordsTo.hit {b' : List Bs} (h : wordsTo c t b f i) (hi : i < t.length) (hc : (((t.getD i 0).toNat : Nat) : Int) = ((c.toNat : Nat) : Int)) (hb : b' = b ++ [(t.drop f).take (i - f)]) : wordsTo c t b' (i + 1) (i + 1) := by
  obtain ⟨h1, h2⟩ := h.fst (by omega)
  have hn : b'.length = b.length + 1 := by rw [hb]; simp
  refine .inl ⟨?_, ?_⟩
  · rw [hn, hb]
    exact take_more h1 (h2.part hi hc)
  · rw [hn]
    exact h2.hit hi hc
theorem wordsTo.fin {b' : List Bs} (h : wordsTo c t b f i) (hi : i = t.length) (hb : b' = b ++ [(t.drop f).take (i - f)]) : wordsTo c t b' (i + 1) (i + 1) := by
  obtain ⟨h1, h2⟩ := h.fst (by omega)
  have hn : b'.length = b.length + 1 := by rw [hb]; simp
  have hl := h2.last hi
  have hd : (t.drop f).take (i - f) = t.drop f := List.take_of_length_le (by rw [List.length_drop]; omega)
  refine .inr ⟨by omega, rfl, by have := h2.1; have := h2.2.1; omega, ?_⟩
  rw [hb, hd]
  have := take_more h1 hl
  rw [this]
  exact List.take_of_length_le (by have := (h2.count hi).1; omega)
theorem wordsTo.done (h : wordsTo c t b f i) (hi : t.length < i) : b = splL c t := by
  rcases h with ⟨_, h⟩ | h
  · have := h.2.2.1
    omega
  · exact h.2.2.2
end
end AE
end Go.Proofs.YtblhndlmgibljaaDoor

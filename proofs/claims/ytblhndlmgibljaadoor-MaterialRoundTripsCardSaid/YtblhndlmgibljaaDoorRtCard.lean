/- Proved: the tied card of MaterialRoundTrips: for every table of materials the law returns true, and its argument reads as it did. No condition beyond the own cells of the row. -/
import Derived.Test.YtblhndlmgibljaaDoorRtCard5
import Derived.Test.YtblhndlmgibljaaDoorTie
import Derived.Test.YtblhndlmgibljaaDoorCards

/- The walk of the reference's Line. -/
namespace Go.Proofs.YtblhndlmgibljaaDoor
open Go Go.Proofs Go.RowKit
set_option maxRecDepth 100000
namespace AE
namespace RLineG
noncomputable def body : Code := (Tryd.f37.body).getD .skip
def N : Nat := 39
noncomputable abbrev at' (N : Nat) (F : List (FOp × Value)) (C : List (FuncId × List Value × Value)) (c : Code) (s : ASt) : Option Stop := evalTo Tryd.prog F C N 1000 10 c s
noncomputable abbrev leave' (N : Nat) (F : List (FOp × Value)) (C : List (FuncId × List Value × Value)) (ks : List KI) (o : Option Stop) : Option Stop := evalLeave Tryd.prog F C N 1000 10 ks o
noncomputable abbrev unr' (N : Nat) (F : List (FOp × Value)) (C : List (FuncId × List Value × Value)) (m : Nat) (o : Option Stop) : Option Stop := evalUnroll Tryd.prog F C N 1000 10 m o
noncomputable abbrev res' (N : Nat) (F : List (FOp × Value)) (C : List (FuncId × List Value × Value)) (ks : List KI) (x : AX) (s : ASt) : Option Stop := evalRes Tryd.prog F C N 1000 10 ks x s
noncomputable abbrev ops' (N : Nat) (F : List (FOp × Value)) (C : List (FuncId × List Value × Value)) (r : List Oper) (ops : Array Oper) (ks : List KI) (s : ASt) : Option Stop := evalOps Tryd.prog F C N 1000 10 r ops ks s
def s0 : ASt := { sl := slots [(0, .agg ⟨[symv 0, symv 1, symv 2, symv 3, symv 4, symv 5, symv 6, symv 7]⟩)], ms := [], A := start }
def F0 : List (FOp × Value) := [(.bin .add 9 (symv 0) (strV [32]), symv 8),
    (.bin .add 9 (symv 8) (symv 9), symv 10),
    (.bin .add 9 (symv 10) (strV [32, 102, 97, 100, 101, 32]), symv 11),
    (.bin .add 9 (symv 11) (symv 12), symv 13),
    (.bin .neq 33 (.agg ⟨[symv 5, symv 6, symv 7]⟩) (.agg ⟨[.int .i64 0, .int .i64 0, .int .i64 0]⟩), .bool false)]
def C0 : List (FuncId × List Value × Value) := [(51, [.agg ⟨[symv 0, symv 1, symv 2, symv 3, symv 4, symv 5, symv 6, symv 7]⟩], symv 9),
    (34, [symv 4], symv 12)]
theorem e0 : endVal Tryd.prog Tryd.f37 (at' 39 F0 C0 body s0) = some (symv 13) := by kernel_rfl
def F1 : List (FOp × Value) := [(.bin .add 9 (symv 0) (strV [32]), symv 8),
    (.bin .add 9 (symv 8) (symv 9), symv 10),
    (.bin .add 9 (symv 10) (strV [32, 102, 97, 100, 101, 32]), symv 11),
    (.bin .add 9 (symv 11) (symv 12), symv 13),
    (.bin .neq 33 (.agg ⟨[symv 5, symv 6, symv 7]⟩) (.agg ⟨[.int .i64 0, .int .i64 0, .int .i64 0]⟩), .bool true),
    (.bin .add 9 (symv 13) (strV [32, 101, 109, 105, 116, 32]), symv 14),
    (.bin .add 9 (symv 14) (symv 15), symv 16),
    (.bin .add 9 (symv 16) (strV [32]), symv 17),
    (.bin .add 9 (symv 17) (symv 18), symv 19),
    (.bin .add 9 (symv 19) (strV [32]), symv 20),
    (.bin .add 9 (symv 20) (symv 21), symv 22)]
def C1 : List (FuncId × List Value × Value) := [(51, [.agg ⟨[symv 0, symv 1, symv 2, symv 3, symv 4, symv 5, symv 6, symv 7]⟩], symv 9),
    (34, [symv 4], symv 12),
    (34, [symv 5], symv 15),
    (34, [symv 6], symv 18),
    (34, [symv 7], symv 21)]
theorem e1 : endVal Tryd.prog Tryd.f37 (at' 39 F1 C1 body s0) = some (symv 22) := by kernel_rfl
@[reducible] noncomputable def vL (x : Mt) : List Value := [strV x.1, .bool x.2.1, .bool x.2.2.1, .bool x.2.2.2.1, .int .i64 x.2.2.2.2.1, .int .i64 x.2.2.2.2.2.1, .int .i64 x.2.2.2.2.2.2.1, .int .i64 x.2.2.2.2.2.2.2, strV (x.1 ++ ([32] : Bs)), strV (kindW x), strV ((x.1 ++ ([32] : Bs)) ++ (kindW x)), strV (((x.1 ++ ([32] : Bs)) ++ (kindW x)) ++ ([32, 102, 97, 100, 101, 32] : Bs)), strV (itoaB x.2.2.2.2.1), strV ((((x.1 ++ ([32] : Bs)) ++ (kindW x)) ++ ([32, 102, 97, 100, 101, 32] : Bs)) ++ (itoaB x.2.2.2.2.1)), strV (((((x.1 ++ ([32] : Bs)) ++ (kindW x)) ++ ([32, 102, 97, 100, 101, 32] : Bs)) ++ (itoaB x.2.2.2.2.1)) ++ ([32, 101, 109, 105, 116, 32] : Bs)), strV (itoaB x.2.2.2.2.2.1), strV ((((((x.1 ++ ([32] : Bs)) ++ (kindW x)) ++ ([32, 102, 97, 100, 101, 32] : Bs)) ++ (itoaB x.2.2.2.2.1)) ++ ([32, 101, 109, 105, 116, 32] : Bs)) ++ (itoaB x.2.2.2.2.2.1)), strV (((((((x.1 ++ ([32] : Bs)) ++ (kindW x)) ++ ([32, 102, 97, 100, 101, 32] : Bs)) ++ (itoaB x.2.2.2.2.1)) ++ ([32, 101, 109, 105, 116, 32] : Bs)) ++ (itoaB x.2.2.2.2.2.1)) ++ ([32] : Bs)), strV (itoaB x.2.2.2.2.2.2.1), strV ((((((((x.1 ++ ([32] : Bs)) ++ (kindW x)) ++ ([32, 102, 97, 100, 101, 32] : Bs)) ++ (itoaB x.2.2.2.2.1)) ++ ([32, 101, 109, 105, 116, 32] : Bs)) ++ (itoaB x.2.2.2.2.2.1)) ++ ([32] : Bs)) ++ (itoaB x.2.2.2.2.2.2.1)), strV (((((((((x.1 ++ ([32] : Bs)) ++ (kindW x)) ++ ([32, 102, 97, 100, 101, 32] : Bs)) ++ (itoaB x.2.2.2.2.1)) ++ ([32, 101, 109, 105, 116, 32] : Bs)) ++ (itoaB x.2.2.2.2.2.1)) ++ ([32] : Bs)) ++ (itoaB x.2.2.2.2.2.2.1)) ++ ([32] : Bs)), strV (itoaB x.2.2.2.2.2.2.2), strV ((((((((((x.1 ++ ([32] : Bs)) ++ (kindW x)) ++ ([32, 102, 97, 100, 101, 32] : Bs)) ++ (itoaB x.2.2.2.2.1)) ++ ([32, 101, 109, 105, 116, 32] : Bs)) ++ (itoaB x.2.2.2.2.2.1)) ++ ([32] : Bs)) ++ (itoaB x.2.2.2.2.2.2.1)) ++ ([32] : Bs)) ++ (itoaB x.2.2.2.2.2.2.2))]
@[reducible] noncomputable def sg (M : Mem) (x : Mt) : Sig := sgL M (vL x)
set_option maxHeartbeats 4000000 in
theorem any (W : World) (x : Mt) (hv : validM x) : Calls Tryd.prog 37 #[M.val x] W fun e w' => e = .returned (strV (lineM x)) ∧ Low W.heap.size W w' := by
  refine @walk_enter (sg (heapOf W) x ) Tryd.prog 37 Tryd.f37 body [.agg ⟨[symv 0, symv 1, symv 2, symv 3, symv 4, symv 5, symv 6, symv 7]⟩] (slots [(0, .agg ⟨[symv 0, symv 1, symv 2, symv 3, symv 4, symv 5, symv 6, symv 7]⟩)]) N W _ Tryd.func37 (by kernel_rfl) (by kernel_rfl) (by kernel_rfl) (by kernel_rfl) (immW_sgL W _) fun a hh => ?_
  letI := (sg (heapOf W) x )
  by_cases h0 : ((x.2.2.2.2.2.1, x.2.2.2.2.2.2.1, x.2.2.2.2.2.2.2) : E3) = ((0, 0, 0) : E3)
  · refine walk_to (F := F0) (T := C0) (fuel := 1000) (d := 10) mixed (allF_cons (FactOk.strAdd (l := x.1) (m := ([32] : Bs)) rfl rfl rfl (by have hq := rowLens hv; have hq2 := kindW_len x; simp only [List.length_append, List.length_cons, List.length_nil]; omega) rfl rfl rfl) (allF_cons (FactOk.strAdd (l := (x.1 ++ ([32] : Bs))) (m := (kindW x)) rfl rfl rfl (by have hq := rowLens hv; have hq2 := kindW_len x; simp only [List.length_append, List.length_cons, List.length_nil]; omega) rfl rfl rfl) (allF_cons (FactOk.strAdd (l := ((x.1 ++ ([32] : Bs)) ++ (kindW x))) (m := ([32, 102, 97, 100, 101, 32] : Bs)) rfl rfl rfl (by have hq := rowLens hv; have hq2 := kindW_len x; simp only [List.length_append, List.length_cons, List.length_nil]; omega) rfl rfl rfl) (allF_cons (FactOk.strAdd (l := (((x.1 ++ ([32] : Bs)) ++ (kindW x)) ++ ([32, 102, 97, 100, 101, 32] : Bs))) (m := (itoaB x.2.2.2.2.1)) rfl rfl rfl (by have hq := rowLens hv; have hq2 := kindW_len x; simp only [List.length_append, List.length_cons, List.length_nil]; omega) rfl rfl rfl) (allF_cons (neE rfl rfl rfl rfl (by rw [decide_eq_true h0]; rfl)) allF_nil))))) (allC_cons (callRKind rfl rfl rfl rfl) (allC_cons (callItoa rfl rfl rfl rfl (by have hq2 := hv.2.2; omega)) allC_nil)) ?_ hh
    exact ostop_end e0 fun w2 hLow hIn => ⟨(by refine congrArg Ending.returned ?_; unfold lineM; first | (rw [if_pos (by assumption)]; rfl) | (rw [if_neg (by assumption)]; rfl)), hLow⟩   -- returns symv 13
  · refine walk_to (F := F1) (T := C1) (fuel := 1000) (d := 10) mixed (allF_cons (FactOk.strAdd (l := x.1) (m := ([32] : Bs)) rfl rfl rfl (by have hq := rowLens hv; have hq2 := kindW_len x; simp only [List.length_append, List.length_cons, List.length_nil]; omega) rfl rfl rfl) (allF_cons (FactOk.strAdd (l := (x.1 ++ ([32] : Bs))) (m := (kindW x)) rfl rfl rfl (by have hq := rowLens hv; have hq2 := kindW_len x; simp only [List.length_append, List.length_cons, List.length_nil]; omega) rfl rfl rfl) (allF_cons (FactOk.strAdd (l := ((x.1 ++ ([32] : Bs)) ++ (kindW x))) (m := ([32, 102, 97, 100, 101, 32] : Bs)) rfl rfl rfl (by have hq := rowLens hv; have hq2 := kindW_len x; simp only [List.length_append, List.length_cons, List.length_nil]; omega) rfl rfl rfl) (allF_cons (FactOk.strAdd (l := (((x.1 ++ ([32] : Bs)) ++ (kindW x)) ++ ([32, 102, 97, 100, 101, 32] : Bs))) (m := (itoaB x.2.2.2.2.1)) rfl rfl rfl (by have hq := rowLens hv; have hq2 := kindW_len x; simp only [List.length_append, List.length_cons, List.length_nil]; omega) rfl rfl rfl) (allF_cons (neE rfl rfl rfl rfl (by rw [decide_eq_false h0]; rfl)) (allF_cons (FactOk.strAdd (l := ((((x.1 ++ ([32] : Bs)) ++ (kindW x)) ++ ([32, 102, 97, 100, 101, 32] : Bs)) ++ (itoaB x.2.2.2.2.1))) (m := ([32, 101, 109, 105, 116, 32] : Bs)) rfl rfl rfl (by have hq := rowLens hv; have hq2 := kindW_len x; simp only [List.length_append, List.length_cons, List.length_nil]; omega) rfl rfl rfl) (allF_cons (FactOk.strAdd (l := (((((x.1 ++ ([32] : Bs)) ++ (kindW x)) ++ ([32, 102, 97, 100, 101, 32] : Bs)) ++ (itoaB x.2.2.2.2.1)) ++ ([32, 101, 109, 105, 116, 32] : Bs))) (m := (itoaB x.2.2.2.2.2.1)) rfl rfl rfl (by have hq := rowLens hv; have hq2 := kindW_len x; simp only [List.length_append, List.length_cons, List.length_nil]; omega) rfl rfl rfl) (allF_cons (FactOk.strAdd (l := ((((((x.1 ++ ([32] : Bs)) ++ (kindW x)) ++ ([32, 102, 97, 100, 101, 32] : Bs)) ++ (itoaB x.2.2.2.2.1)) ++ ([32, 101, 109, 105, 116, 32] : Bs)) ++ (itoaB x.2.2.2.2.2.1))) (m := ([32] : Bs)) rfl rfl rfl (by have hq := rowLens hv; have hq2 := kindW_len x; simp only [List.length_append, List.length_cons, List.length_nil]; omega) rfl rfl rfl) (allF_cons (FactOk.strAdd (l := (((((((x.1 ++ ([32] : Bs)) ++ (kindW x)) ++ ([32, 102, 97, 100, 101, 32] : Bs)) ++ (itoaB x.2.2.2.2.1)) ++ ([32, 101, 109, 105, 116, 32] : Bs)) ++ (itoaB x.2.2.2.2.2.1)) ++ ([32] : Bs))) (m := (itoaB x.2.2.2.2.2.2.1)) rfl rfl rfl (by have hq := rowLens hv; have hq2 := kindW_len x; simp only [List.length_append, List.length_cons, List.length_nil]; omega) rfl rfl rfl) (allF_cons (FactOk.strAdd (l := ((((((((x.1 ++ ([32] : Bs)) ++ (kindW x)) ++ ([32, 102, 97, 100, 101, 32] : Bs)) ++ (itoaB x.2.2.2.2.1)) ++ ([32, 101, 109, 105, 116, 32] : Bs)) ++ (itoaB x.2.2.2.2.2.1)) ++ ([32] : Bs)) ++ (itoaB x.2.2.2.2.2.2.1))) (m := ([32] : Bs)) rfl rfl rfl (by have hq := rowLens hv; have hq2 := kindW_len x; simp only [List.length_append, List.length_cons, List.length_nil]; omega) rfl rfl rfl) (allF_cons (FactOk.strAdd (l := (((((((((x.1 ++ ([32] : Bs)) ++ (kindW x)) ++ ([32, 102, 97, 100, 101, 32] : Bs)) ++ (itoaB x.2.2.2.2.1)) ++ ([32, 101, 109, 105, 116, 32] : Bs)) ++ (itoaB x.2.2.2.2.2.1)) ++ ([32] : Bs)) ++ (itoaB x.2.2.2.2.2.2.1)) ++ ([32] : Bs))) (m := (itoaB x.2.2.2.2.2.2.2)) rfl rfl rfl (by have hq := rowLens hv; have hq2 := kindW_len x; simp only [List.length_append, List.length_cons, List.length_nil]; omega) rfl rfl rfl) allF_nil))))))))))) (allC_cons (callRKind rfl rfl rfl rfl) (allC_cons (callItoa rfl rfl rfl rfl (by have hq2 := hv.2.2; omega)) (allC_cons (callItoa rfl rfl rfl rfl (by have hq2 := hv.2.2; omega)) (allC_cons (callItoa rfl rfl rfl rfl (by have hq2 := hv.2.2; omega)) (allC_cons (callItoa rfl rfl rfl rfl (by have hq2 := hv.2.2; omega)) allC_nil))))) ?_ hh
    exact ostop_end e1 fun w2 hLow hIn => ⟨(by refine congrArg Ending.returned ?_; unfold lineM; first | (rw [if_pos (by assumption)]; rfl) | (rw [if_neg (by assumption)]; rfl)), hLow⟩   -- returns symv 22
end RLineG
end AE
end Go.Proofs.YtblhndlmgibljaaDoor

/- The reference's Line, as a fact. -/
namespace Go.Proofs.YtblhndlmgibljaaDoor
open Go Go.Proofs Go.RowKit
namespace AE
theorem callRLine [Sig] {x r : Value} {m : Mt} (hp : plainSL [x] = true) (hr : plainS r = true) (ev : interpL [x] = [M.val m]) (er : interp r = strV (lineM m)) (hv : validM m) : CallFactOk Tryd.prog (37, [x], r) :=
  callAny (a := #[M.val m]) hp hr ev er fun w hw => RLineG.any w m hv
end AE
end Go.Proofs.YtblhndlmgibljaaDoor

/- The walk of the reference's Print. -/
namespace Go.Proofs.YtblhndlmgibljaaDoor
open Go Go.Proofs Go.RowKit
set_option maxRecDepth 100000
namespace AE
namespace RPrtG
noncomputable def body : Code := (Tryd.f14.body).getD .skip
def N : Nat := 31
noncomputable abbrev at' (N : Nat) (F : List (FOp × Value)) (C : List (FuncId × List Value × Value)) (c : Code) (s : ASt) : Option Stop := evalTo Tryd.prog F C N 1000 10 c s
noncomputable abbrev leave' (N : Nat) (F : List (FOp × Value)) (C : List (FuncId × List Value × Value)) (ks : List KI) (o : Option Stop) : Option Stop := evalLeave Tryd.prog F C N 1000 10 ks o
noncomputable abbrev unr' (N : Nat) (F : List (FOp × Value)) (C : List (FuncId × List Value × Value)) (m : Nat) (o : Option Stop) : Option Stop := evalUnroll Tryd.prog F C N 1000 10 m o
noncomputable abbrev res' (N : Nat) (F : List (FOp × Value)) (C : List (FuncId × List Value × Value)) (ks : List KI) (x : AX) (s : ASt) : Option Stop := evalRes Tryd.prog F C N 1000 10 ks x s
noncomputable abbrev ops' (N : Nat) (F : List (FOp × Value)) (C : List (FuncId × List Value × Value)) (r : List Oper) (ops : Array Oper) (ks : List KI) (s : ASt) : Option Stop := evalOps Tryd.prog F C N 1000 10 r ops ks s
def s0 : ASt := { sl := slots [(0, symv 0)], ms := [], A := start }
def F0 : List (FOp × Value) := [(.bin .neq 25 (symv 2) (.int .i64 0), .bool false)]
def C0 : List (FuncId × List Value × Value) := [(12, [symv 0], .tuple ⟨[symv 1, symv 2]⟩)]
noncomputable def bks0 : List Bk := []
def head0 : Sl := slots [(7, symv 4), (6, symv 3), (3, .int .i64 0), (2, strV []), (0, symv 0)]
noncomputable abbrev at0 := at' 31 F0 C0 body s0
theorem e0 : headObs head0 bks0 at0 = some [(symv 0, symv 0), (.int .i64 0, symv 4), (strV [], symv 3)] := by kernel_rfl
def F1 : List (FOp × Value) := [(.len #[22] 3 (symv 0), symv 5),
    (.bin .lss 3 (symv 4) (symv 5), .bool true),
    (.ixa 22 (symv 0) (symv 4), symv 6),
    (.ld 35 (symv 6), .agg ⟨[symv 7, symv 8, symv 9, symv 10, symv 11, symv 12, symv 13, symv 14]⟩),
    (.bin .add 9 (symv 3) (symv 15), symv 16),
    (.bin .add 9 (symv 16) (strV [10]), symv 17),
    (.bin .add 3 (symv 4) (.int .i64 1), symv 18)]
def C1 : List (FuncId × List Value × Value) := [(37, [.agg ⟨[symv 7, symv 8, symv 9, symv 10, symv 11, symv 12, symv 13, symv 14]⟩], symv 15)]
theorem e1 : backObs head0 bks0 (at' 31 F1 C1 (stopCode at0) (headSt head0 bks0)) = some [(symv 0, symv 0), (symv 18, symv 4), (symv 17, symv 3)] := by kernel_rfl
def F2 : List (FOp × Value) := [(.len #[22] 3 (symv 0), symv 5),
    (.bin .lss 3 (symv 4) (symv 5), .bool false)]
def C2 : List (FuncId × List Value × Value) := []
def F3 : List (FOp × Value) := []
def C3 : List (FuncId × List Value × Value) := []
theorem e2 : endVal Tryd.prog Tryd.f14 (leave' 31 F3 C3 (stopKs at0) (at' 31 F2 C2 (stopCode at0) (headSt head0 bks0))) = some (.tuple ⟨[symv 3, .int .i64 0]⟩) := by kernel_rfl
def F4 : List (FOp × Value) := [(.bin .neq 25 (symv 2) (.int .i64 0), .bool true)]
def C4 : List (FuncId × List Value × Value) := [(12, [symv 0], .tuple ⟨[symv 1, symv 2]⟩)]
theorem e3 : endVal Tryd.prog Tryd.f14 (at' 31 F4 C4 body s0) = some (.tuple ⟨[strV [], symv 2]⟩) := by kernel_rfl
@[reducible] noncomputable def vL (l : List Mt) (a_l : Option Addr) (c_l : Nat) (s : Bs) (i : Nat) : List Value := [.slice a_l l.length c_l, .int .i64 (chkM l).1, .int .i64 (chkM l).2, strV s, .int .i64 ((i : Nat) : Int), .int .i64 ((l.length : Nat) : Int), cellPtr (.slice a_l l.length c_l) (i * 8), strV (l.getD (i) default).1, .bool (l.getD (i) default).2.1, .bool (l.getD (i) default).2.2.1, .bool (l.getD (i) default).2.2.2.1, .int .i64 (l.getD (i) default).2.2.2.2.1, .int .i64 (l.getD (i) default).2.2.2.2.2.1, .int .i64 (l.getD (i) default).2.2.2.2.2.2.1, .int .i64 (l.getD (i) default).2.2.2.2.2.2.2, strV (lineM (l.getD (i) default)), strV (s ++ (lineM (l.getD (i) default))), strV ((s ++ (lineM (l.getD (i) default))) ++ ([10] : Bs)), .int .i64 ((i + 1 : Nat) : Int)]
@[reducible] noncomputable def sg (M : Mem) (l : List Mt) (a_l : Option Addr) (c_l : Nat) (s : Bs) (i : Nat) : Sig := sgL M (vL l a_l c_l s i)
set_option maxHeartbeats 4000000 in
theorem any (W : World) {v_l : Value} {l : List Mt} (hl : Arr (heapOf W) 8 encM v_l l)  : Calls Tryd.prog 14 #[v_l] W fun e w' => e = .returned (.tuple #[strV (prtM l).1, .int .i64 (prtM l).2]) ∧ Low W.heap.size W w' := by
  obtain ⟨a_l, c_l, rfl⟩ := hl.slice
  refine @walk_enter (sg (heapOf W) l a_l c_l [] 0) Tryd.prog 14 Tryd.f14 body [symv 0] (slots [(0, symv 0)]) N W _ Tryd.func14 (by kernel_rfl) (by kernel_rfl) (by kernel_rfl) (by kernel_rfl) (immW_sgL W _) fun a hh => ?_
  letI := (sg (heapOf W) l a_l c_l [] 0)
  by_cases h0 : (chkM l).2 = 0
  · refine walk_to (F := F0) (T := C0) (fuel := 1000) (d := 10) mixed (allF_cons (FactOk.bi rfl rfl rfl rfl rfl rfl (nboolF (by omega))) allF_nil) (allC_cons (callRChk rfl rfl rfl rfl hl) allC_nil) ?_ hh
    refine ostop_loop (sg := (fun (⟨s, i⟩ : Bs × Nat) => sg (heapOf W) l a_l c_l s i)) (fun (⟨s, i⟩ : Bs × Nat) => s = txtTo l i ∧ i ≤ l.length) (fun (⟨s, i⟩ : Bs × Nat) => l.length - i) ⟨[], 0⟩ e0 (meet_cons (by first | exact meetV (.slice a_l l.length c_l) rfl rfl | exact meetI rfl rfl (by omega)) (meet_cons (by first | rfl | exact meetInt (by omega)) (meet_cons (by first | rfl | exact meetInt (by omega)) meet_nil))) (fun _ _ h => h) (by exact ⟨rfl, Nat.zero_le _⟩) ?_
    intro ⟨s, i⟩ hI aC w hh
    letI := (sg (heapOf W) l a_l c_l s i)
    have hbl : s.length ≤ 100 * i := by rw [hI.1]; exact txtTo_len h0 hI.2
    have hl256 := (chkM_zero h0).1
    by_cases p0 : ((i : Nat) : Int) < ((l.length : Nat) : Int)
    · refine walk_to (F := F1) (T := C1) (fuel := 1000) (d := 10) mixed (allF_cons (FactOk.arrLen hl rfl rfl underMl rfl rfl) (allF_cons (FactOk.bi rfl rfl rfl rfl rfl rfl (boolT (by omega))) (allF_cons (FactOk.arrIxa hl (show i < l.length by omega) rfl rfl rfl underMl sizeM rfl rfl rfl) (allF_cons (FactOk.arrLd hl (getSome (show i < l.length by omega)) rfl rfl aggM sizeM rfl rfl rfl) (allF_cons (FactOk.strAdd (l := s) (m := (lineM (l.getD (i) default))) rfl rfl rfl (by have hq := lineM_len (okV h0 (i := i) (by omega)); (try simp only [List.length_append, List.length_cons, List.length_nil]); omega) rfl rfl rfl) (allF_cons (FactOk.strAdd (l := (s ++ (lineM (l.getD (i) default)))) (m := ([10] : Bs)) rfl rfl rfl (by have hq := lineM_len (okV h0 (i := i) (by omega)); (try simp only [List.length_append, List.length_cons, List.length_nil]); omega) rfl rfl rfl) (allF_cons (FactOk.bi rfl rfl rfl rfl rfl rfl (intI (by omega) (by omega) (by omega))) allF_nil))))))) (allC_cons (callRLine rfl rfl rfl rfl (okV h0 (i := i) (by omega))) allC_nil) ?_ hh
      exact ostop_backM (s1 := (sg (heapOf W) l a_l c_l s i)) (sg := (fun (⟨s, i⟩ : Bs × Nat) => sg (heapOf W) l a_l c_l s i)) (I := fun (⟨s, i⟩ : Bs × Nat) => s = txtTo l i ∧ i ≤ l.length) (μ := fun (⟨s, i⟩ : Bs × Nat) => l.length - i) (x := ⟨s, i⟩) ⟨((s ++ (lineM (l.getD (i) default))) ++ ([10] : Bs)), i + 1⟩ e1 (meet_cons (by first | exact meetV (.slice a_l l.length c_l) rfl rfl | exact meetI rfl rfl (by omega)) (meet_cons (by first | exact meetV (.int .i64 ((i + 1 : Nat) : Int)) rfl rfl | exact meetI rfl rfl (by omega)) (meet_cons (by first | exact meetV (strV ((s ++ (lineM (l.getD (i) default))) ++ ([10] : Bs))) rfl rfl | exact meetI rfl rfl (by omega)) meet_nil))) (fun _ _ h => h) (by exact ⟨by rw [txtTo_succ (by omega), ← hI.1, ← lineM_row (okV h0 (i := i) (by omega)), List.append_assoc], by omega⟩) (by (try dsimp only); omega)
    · refine walk_to (F := F2) (T := C2) (fuel := 1000) (d := 10) mixed (allF_cons (FactOk.arrLen hl rfl rfl underMl rfl rfl) (allF_cons (FactOk.bi rfl rfl rfl rfl rfl rfl (boolF (by omega))) allF_nil)) allC_nil ?_ hh
      refine walk_leave (F := F3) (T := C3) (fuel := 1000) (d := 10) mixed allF_nil allC_nil ?_
      exact ostop_end e2 fun w2 hLow hIn => ⟨(by refine congrArg Ending.returned ?_; first | (rw [show prtM l = (txtTo l l.length, 0) from if_pos h0, ← show i = l.length by omega, ← hI.1]; rfl) | (rw [show prtM l = ([], (chkM l).2) from if_neg h0]; rfl)), hLow⟩   -- returns .tuple ⟨[symv 3, .int .i64 0]⟩
  · refine walk_to (F := F4) (T := C4) (fuel := 1000) (d := 10) mixed (allF_cons (FactOk.bi rfl rfl rfl rfl rfl rfl (nboolT (by omega))) allF_nil) (allC_cons (callRChk rfl rfl rfl rfl hl) allC_nil) ?_ hh
    exact ostop_end e3 fun w2 hLow hIn => ⟨(by refine congrArg Ending.returned ?_; first | (rw [show prtM l = (txtTo l l.length, 0) from if_pos h0, ← show i = l.length by omega, ← hI.1]; rfl) | (rw [show prtM l = ([], (chkM l).2) from if_neg h0]; rfl)), hLow⟩   -- returns .tuple ⟨[strV [], symv 2]⟩
end RPrtG
end AE
end Go.Proofs.YtblhndlmgibljaaDoor

/- The walk of Print. -/
namespace Go.Proofs.YtblhndlmgibljaaDoor
open Go Go.Proofs Go.RowKit
set_option maxRecDepth 100000
namespace AE
namespace PrtG
noncomputable def body : Code := (Tryd.f13.body).getD .skip
def N : Nat := 56
noncomputable abbrev at' (N : Nat) (F : List (FOp × Value)) (C : List (FuncId × List Value × Value)) (c : Code) (s : ASt) : Option Stop := evalTo Tryd.prog F C N 1000 10 c s
noncomputable abbrev leave' (N : Nat) (F : List (FOp × Value)) (C : List (FuncId × List Value × Value)) (ks : List KI) (o : Option Stop) : Option Stop := evalLeave Tryd.prog F C N 1000 10 ks o
noncomputable abbrev unr' (N : Nat) (F : List (FOp × Value)) (C : List (FuncId × List Value × Value)) (m : Nat) (o : Option Stop) : Option Stop := evalUnroll Tryd.prog F C N 1000 10 m o
noncomputable abbrev res' (N : Nat) (F : List (FOp × Value)) (C : List (FuncId × List Value × Value)) (ks : List KI) (x : AX) (s : ASt) : Option Stop := evalRes Tryd.prog F C N 1000 10 ks x s
noncomputable abbrev ops' (N : Nat) (F : List (FOp × Value)) (C : List (FuncId × List Value × Value)) (r : List Oper) (ops : Array Oper) (ks : List KI) (s : ASt) : Option Stop := evalOps Tryd.prog F C N 1000 10 r ops ks s
def s0 : ASt := { sl := slots [(0, symv 0)], ms := [], A := start }
def F0 : List (FOp × Value) := [(.tru (.int .i64 55), .int .i64 55),
    (.bin .neq 25 (symv 2) (.int .i64 0), .bool false)]
def C0 : List (FuncId × List Value × Value) := [(11, [symv 0], .tuple ⟨[symv 1, symv 2]⟩)]
theorem e0 : allOf (at' 56 F0 C0 body s0) = some 55 := by kernel_rfl
noncomputable abbrev so0 := at' 56 F0 C0 body s0
noncomputable def bk0 : List Bk := []
def hd0 : Sl := slots [(3, .int .i64 0), (2, strV []), (0, symv 0)]
def hp0 : Sl := match aput 56 hd0 (some 6) (symv 3) with | some s => s | none => .nil
theorem e1 : trAll (stopSt so0) hd0 bk0 = some [(symv 0, symv 0)] := by kernel_rfl
theorem e2 : aput 56 hd0 (stopDst so0) (symv 3) = some hp0 := by kernel_rfl
def F1 : List (FOp × Value) := [(.tru (.int .i64 55), .int .i64 55),
    (.len #[22] 3 (symv 0), symv 4)]
def C1 : List (FuncId × List Value × Value) := []
noncomputable def bks0 : List Bk := []
def head0 : Sl := slots [(21, symv 5), (20, symv 4), (19, symv 0), (6, symv 3), (3, .int .i64 0), (2, strV [])]
noncomputable abbrev at0 := ops' 56 F1 C1 (stopRest so0) (stopOps so0) (stopKs so0) { sl := hp0, ms := [], A := mkAS bk0 }
theorem e3 : headObs head0 bks0 at0 = some [(symv 0, symv 0), (.int .i64 0, symv 5), (symv 4, symv 4), (symv 3, symv 3)] := by kernel_rfl
def F2 : List (FOp × Value) := [(.tru (.int .i64 55), .int .i64 55),
    (.bin .lss 3 (symv 5) (symv 4), .bool true),
    (.ixa 22 (symv 0) (symv 5), symv 6),
    (.ld 35 (symv 6), .agg ⟨[symv 7, symv 8, symv 9, symv 10, symv 11, symv 12, symv 13, symv 14]⟩),
    (.bin .add 9 (symv 7) (strV [32]), symv 15),
    (.bin .add 9 (symv 15) (symv 16), symv 20),
    (.bin .add 9 (symv 20) (strV [32, 102, 97, 100, 101, 32]), symv 21),
    (.bin .add 9 (symv 21) (symv 22), symv 23)]
def C2 : List (FuncId × List Value × Value) := [(33, [.agg ⟨[symv 7, symv 8, symv 9, symv 10, symv 11, symv 12, symv 13, symv 14]⟩], .agg ⟨[symv 16, symv 17, symv 18, symv 19]⟩),
    (34, [symv 11], symv 22)]
theorem e4 : (enterAt Tryd.prog (at' 56 F2 C2 (stopCode at0) (headSt head0 bks0))).isSome = true := by kernel_rfl
theorem e5 : (enterD Tryd.prog (at' 56 F2 C2 (stopCode at0) (headSt head0 bks0))).1 = 32 := by kernel_rfl
theorem e6 : (enterD Tryd.prog (at' 56 F2 C2 (stopCode at0) (headSt head0 bks0))).2.1 = [symv 3, symv 23] := by kernel_rfl
noncomputable abbrev so1 := at' 56 F2 C2 (stopCode at0) (headSt head0 bks0)
noncomputable def bk1 : List Bk := [⟨.cells [symv 7, symv 8, symv 9, symv 10, symv 11, symv 12, symv 13, symv 14], 35, 0⟩]
def hd1 : Sl := slots [(21, symv 5), (20, symv 4), (19, symv 0), (8, .pointer (some ⟨0, 0, none⟩)), (6, symv 3), (3, .int .i64 0), (2, strV [])]
def hp1 : Sl := match aput 56 hd1 (some 37) (.tuple ⟨[symv 24, .nilIface]⟩) with | some s => s | none => .nil
theorem e7 : trAll (entSt Tryd.prog so1) hd1 bk1 = some [(symv 0, symv 0), (symv 5, symv 5), (symv 4, symv 4), (symv 3, symv 3), (symv 7, symv 7), (symv 8, symv 8), (symv 9, symv 9), (symv 10, symv 10), (symv 11, symv 11), (symv 12, symv 12), (symv 13, symv 13), (symv 14, symv 14)] := by kernel_rfl
theorem e8 : aput 56 hd1 (stopDst so1) (.tuple ⟨[symv 24, .nilIface]⟩) = some hp1 := by kernel_rfl
def F3 : List (FOp × Value) := [(.tru (.int .i64 55), .int .i64 55),
    (.bin .neq 33 (.agg ⟨[symv 12, symv 13, symv 14]⟩) (.agg ⟨[.int .i64 0, .int .i64 0, .int .i64 0]⟩), .bool false)]
def C3 : List (FuncId × List Value × Value) := []
theorem e9 : (enterAt Tryd.prog (ops' 56 F3 C3 (stopRest so1) (stopOps so1) (stopKs so1) { sl := hp1, ms := [], A := mkAS bk1 })).isSome = true := by kernel_rfl
theorem e10 : (enterD Tryd.prog (ops' 56 F3 C3 (stopRest so1) (stopOps so1) (stopKs so1) { sl := hp1, ms := [], A := mkAS bk1 })).1 = 35 := by kernel_rfl
theorem e11 : (enterD Tryd.prog (ops' 56 F3 C3 (stopRest so1) (stopOps so1) (stopKs so1) { sl := hp1, ms := [], A := mkAS bk1 })).2.1 = [symv 3, .int .u8 10] := by kernel_rfl
noncomputable abbrev so2 := ops' 56 F3 C3 (stopRest so1) (stopOps so1) (stopKs so1) { sl := hp1, ms := [], A := mkAS bk1 }
noncomputable def bk2 : List Bk := []
def hd2 : Sl := slots [(21, symv 5), (20, symv 4), (19, symv 0), (6, symv 3), (3, .int .i64 0), (2, strV [])]
def hp2 : Sl := match aput 56 hd2 (some 53) .nilIface with | some s => s | none => .nil
theorem e12 : trAll (entSt Tryd.prog so2) hd2 bk2 = some [(symv 0, symv 0), (symv 5, symv 5), (symv 4, symv 4), (symv 3, symv 3)] := by kernel_rfl
theorem e13 : aput 56 hd2 (stopDst so2) .nilIface = some hp2 := by kernel_rfl
def F4 : List (FOp × Value) := [(.tru (.int .i64 55), .int .i64 55),
    (.bin .add 3 (symv 5) (.int .i64 1), symv 25)]
def C4 : List (FuncId × List Value × Value) := []
theorem e14 : backObs head0 bks0 (ops' 56 F4 C4 (stopRest so2) (stopOps so2) (stopKs so2) { sl := hp2, ms := [], A := mkAS bk2 }) = some [(symv 0, symv 0), (symv 25, symv 5), (symv 4, symv 4), (symv 3, symv 3)] := by kernel_rfl
def F5 : List (FOp × Value) := [(.tru (.int .i64 55), .int .i64 55),
    (.bin .neq 33 (.agg ⟨[symv 12, symv 13, symv 14]⟩) (.agg ⟨[.int .i64 0, .int .i64 0, .int .i64 0]⟩), .bool true)]
def C5 : List (FuncId × List Value × Value) := []
theorem e15 : (enterAt Tryd.prog (ops' 56 F5 C5 (stopRest so1) (stopOps so1) (stopKs so1) { sl := hp1, ms := [], A := mkAS bk1 })).isSome = true := by kernel_rfl
theorem e16 : (enterD Tryd.prog (ops' 56 F5 C5 (stopRest so1) (stopOps so1) (stopKs so1) { sl := hp1, ms := [], A := mkAS bk1 })).1 = 32 := by kernel_rfl
theorem e17 : (enterD Tryd.prog (ops' 56 F5 C5 (stopRest so1) (stopOps so1) (stopKs so1) { sl := hp1, ms := [], A := mkAS bk1 })).2.1 = [symv 3, strV [32, 101, 109, 105, 116]] := by kernel_rfl
noncomputable abbrev so3 := ops' 56 F5 C5 (stopRest so1) (stopOps so1) (stopKs so1) { sl := hp1, ms := [], A := mkAS bk1 }
noncomputable def bk3 : List Bk := [⟨.cells [symv 7, symv 8, symv 9, symv 10, symv 11, symv 12, symv 13, symv 14], 35, 0⟩]
def hd3 : Sl := slots [(21, symv 5), (20, symv 4), (19, symv 0), (8, .pointer (some ⟨0, 0, none⟩)), (6, symv 3), (3, .int .i64 0), (2, strV [])]
def hp3 : Sl := match aput 56 hd3 (some 42) (.tuple ⟨[symv 26, .nilIface]⟩) with | some s => s | none => .nil
theorem e18 : trAll (entSt Tryd.prog so3) hd3 bk3 = some [(symv 0, symv 0), (symv 5, symv 5), (symv 4, symv 4), (symv 3, symv 3), (symv 7, symv 7), (symv 8, symv 8), (symv 9, symv 9), (symv 10, symv 10), (symv 11, symv 11), (symv 12, symv 12), (symv 13, symv 13), (symv 14, symv 14)] := by kernel_rfl
theorem e19 : aput 56 hd3 (stopDst so3) (.tuple ⟨[symv 26, .nilIface]⟩) = some hp3 := by kernel_rfl
def F6 : List (FOp × Value) := [(.tru (.int .i64 55), .int .i64 55)]
def C6 : List (FuncId × List Value × Value) := []
def F7 : List (FOp × Value) := [(.tru (.int .i64 55), .int .i64 55),
    (.bin .add 9 (strV [32]) (symv 27), symv 28)]
def C7 : List (FuncId × List Value × Value) := [(34, [symv 12], symv 27)]
theorem e20 : (enterAt Tryd.prog (unr' 56 F7 C7 4 (ops' 56 F6 C6 (stopRest so3) (stopOps so3) (stopKs so3) { sl := hp3, ms := [], A := mkAS bk3 }))).isSome = true := by kernel_rfl
theorem e21 : (enterD Tryd.prog (unr' 56 F7 C7 4 (ops' 56 F6 C6 (stopRest so3) (stopOps so3) (stopKs so3) { sl := hp3, ms := [], A := mkAS bk3 }))).1 = 32 := by kernel_rfl
theorem e22 : (enterD Tryd.prog (unr' 56 F7 C7 4 (ops' 56 F6 C6 (stopRest so3) (stopOps so3) (stopKs so3) { sl := hp3, ms := [], A := mkAS bk3 }))).2.1 = [symv 3, symv 28] := by kernel_rfl
noncomputable abbrev so4 := unr' 56 F7 C7 4 (ops' 56 F6 C6 (stopRest so3) (stopOps so3) (stopKs so3) { sl := hp3, ms := [], A := mkAS bk3 })
noncomputable def bk4 : List Bk := []
def hd4 : Sl := slots [(50, symv 28), (49, symv 27), (48, symv 12), (47, symv 12), (46, .bool true), (45, .int .i64 0), (44, .agg ⟨[symv 12, symv 13, symv 14]⟩), (21, symv 5), (20, symv 4), (19, symv 0), (10, symv 12), (6, symv 3), (3, .int .i64 0), (2, strV [])]
def hp4 : Sl := match aput 56 hd4 (some 51) (.tuple ⟨[symv 29, .nilIface]⟩) with | some s => s | none => .nil
theorem e23 : trAll (entSt Tryd.prog so4) hd4 bk4 = some [(symv 12, symv 12), (symv 0, symv 0), (symv 27, symv 27), (symv 5, symv 5), (symv 12, symv 12), (symv 4, symv 4), (symv 12, symv 12), (symv 13, symv 13), (symv 14, symv 14), (symv 3, symv 3), (symv 12, symv 12), (symv 28, symv 28)] := by kernel_rfl
theorem e24 : aput 56 hd4 (stopDst so4) (.tuple ⟨[symv 29, .nilIface]⟩) = some hp4 := by kernel_rfl
def F8 : List (FOp × Value) := [(.tru (.int .i64 55), .int .i64 55),
    (.bin .add 9 (strV [32]) (symv 30), symv 31)]
def C8 : List (FuncId × List Value × Value) := [(34, [symv 13], symv 30)]
theorem e25 : (enterAt Tryd.prog (ops' 56 F8 C8 (stopRest so4) (stopOps so4) (stopKs so4) { sl := hp4, ms := [], A := mkAS bk4 })).isSome = true := by kernel_rfl
theorem e26 : (enterD Tryd.prog (ops' 56 F8 C8 (stopRest so4) (stopOps so4) (stopKs so4) { sl := hp4, ms := [], A := mkAS bk4 })).1 = 32 := by kernel_rfl
theorem e27 : (enterD Tryd.prog (ops' 56 F8 C8 (stopRest so4) (stopOps so4) (stopKs so4) { sl := hp4, ms := [], A := mkAS bk4 })).2.1 = [symv 3, symv 31] := by kernel_rfl
noncomputable abbrev so5 := ops' 56 F8 C8 (stopRest so4) (stopOps so4) (stopKs so4) { sl := hp4, ms := [], A := mkAS bk4 }
noncomputable def bk5 : List Bk := []
def hd5 : Sl := slots [(52, .int .i64 1), (50, symv 31), (49, symv 30), (48, symv 13), (47, symv 13), (46, .bool true), (45, .int .i64 1), (44, .agg ⟨[symv 12, symv 13, symv 14]⟩), (21, symv 5), (20, symv 4), (19, symv 0), (10, symv 13), (6, symv 3), (3, .int .i64 0), (2, strV [])]
def hp5 : Sl := match aput 56 hd5 (some 51) (.tuple ⟨[symv 32, .nilIface]⟩) with | some s => s | none => .nil
theorem e28 : trAll (entSt Tryd.prog so5) hd5 bk5 = some [(symv 13, symv 13), (symv 0, symv 0), (symv 30, symv 30), (symv 5, symv 5), (symv 13, symv 13), (symv 4, symv 4), (symv 12, symv 12), (symv 13, symv 13), (symv 14, symv 14), (symv 3, symv 3), (symv 13, symv 13), (symv 31, symv 31)] := by kernel_rfl
theorem e29 : aput 56 hd5 (stopDst so5) (.tuple ⟨[symv 32, .nilIface]⟩) = some hp5 := by kernel_rfl
def F9 : List (FOp × Value) := [(.tru (.int .i64 55), .int .i64 55),
    (.bin .add 9 (strV [32]) (symv 33), symv 34)]
def C9 : List (FuncId × List Value × Value) := [(34, [symv 14], symv 33)]
theorem e30 : (enterAt Tryd.prog (ops' 56 F9 C9 (stopRest so5) (stopOps so5) (stopKs so5) { sl := hp5, ms := [], A := mkAS bk5 })).isSome = true := by kernel_rfl
theorem e31 : (enterD Tryd.prog (ops' 56 F9 C9 (stopRest so5) (stopOps so5) (stopKs so5) { sl := hp5, ms := [], A := mkAS bk5 })).1 = 32 := by kernel_rfl
theorem e32 : (enterD Tryd.prog (ops' 56 F9 C9 (stopRest so5) (stopOps so5) (stopKs so5) { sl := hp5, ms := [], A := mkAS bk5 })).2.1 = [symv 3, symv 34] := by kernel_rfl
noncomputable abbrev so6 := ops' 56 F9 C9 (stopRest so5) (stopOps so5) (stopKs so5) { sl := hp5, ms := [], A := mkAS bk5 }
noncomputable def bk6 : List Bk := []
def hd6 : Sl := slots [(52, .int .i64 2), (50, symv 34), (49, symv 33), (48, symv 14), (47, symv 14), (46, .bool true), (45, .int .i64 2), (44, .agg ⟨[symv 12, symv 13, symv 14]⟩), (21, symv 5), (20, symv 4), (19, symv 0), (10, symv 14), (6, symv 3), (3, .int .i64 0), (2, strV [])]
def hp6 : Sl := match aput 56 hd6 (some 51) (.tuple ⟨[symv 35, .nilIface]⟩) with | some s => s | none => .nil
theorem e33 : trAll (entSt Tryd.prog so6) hd6 bk6 = some [(symv 14, symv 14), (symv 0, symv 0), (symv 33, symv 33), (symv 5, symv 5), (symv 14, symv 14), (symv 4, symv 4), (symv 12, symv 12), (symv 13, symv 13), (symv 14, symv 14), (symv 3, symv 3), (symv 14, symv 14), (symv 34, symv 34)] := by kernel_rfl
theorem e34 : aput 56 hd6 (stopDst so6) (.tuple ⟨[symv 35, .nilIface]⟩) = some hp6 := by kernel_rfl
theorem e35 : (enterAt Tryd.prog (ops' 56 F6 C6 (stopRest so6) (stopOps so6) (stopKs so6) { sl := hp6, ms := [], A := mkAS bk6 })).isSome = true := by kernel_rfl
theorem e36 : (enterD Tryd.prog (ops' 56 F6 C6 (stopRest so6) (stopOps so6) (stopKs so6) { sl := hp6, ms := [], A := mkAS bk6 })).1 = 35 := by kernel_rfl
theorem e37 : (enterD Tryd.prog (ops' 56 F6 C6 (stopRest so6) (stopOps so6) (stopKs so6) { sl := hp6, ms := [], A := mkAS bk6 })).2.1 = [symv 3, .int .u8 10] := by kernel_rfl
noncomputable abbrev so7 := ops' 56 F6 C6 (stopRest so6) (stopOps so6) (stopKs so6) { sl := hp6, ms := [], A := mkAS bk6 }
noncomputable def bk7 : List Bk := []
def hd7 : Sl := slots [(21, symv 5), (20, symv 4), (19, symv 0), (6, symv 3), (3, .int .i64 0), (2, strV [])]
def hp7 : Sl := match aput 56 hd7 (some 53) .nilIface with | some s => s | none => .nil
theorem e38 : trAll (entSt Tryd.prog so7) hd7 bk7 = some [(symv 0, symv 0), (symv 5, symv 5), (symv 4, symv 4), (symv 3, symv 3)] := by kernel_rfl
theorem e39 : aput 56 hd7 (stopDst so7) .nilIface = some hp7 := by kernel_rfl
theorem e40 : backObs head0 bks0 (ops' 56 F4 C4 (stopRest so7) (stopOps so7) (stopKs so7) { sl := hp7, ms := [], A := mkAS bk7 }) = some [(symv 0, symv 0), (symv 25, symv 5), (symv 4, symv 4), (symv 3, symv 3)] := by kernel_rfl
def F10 : List (FOp × Value) := [(.tru (.int .i64 55), .int .i64 55),
    (.bin .lss 3 (symv 5) (symv 4), .bool false)]
def C10 : List (FuncId × List Value × Value) := []
theorem e41 : (enterAt Tryd.prog (leave' 56 F6 C6 (stopKs at0) (at' 56 F10 C10 (stopCode at0) (headSt head0 bks0)))).isSome = true := by kernel_rfl
theorem e42 : (enterD Tryd.prog (leave' 56 F6 C6 (stopKs at0) (at' 56 F10 C10 (stopCode at0) (headSt head0 bks0)))).1 = 36 := by kernel_rfl
theorem e43 : (enterD Tryd.prog (leave' 56 F6 C6 (stopKs at0) (at' 56 F10 C10 (stopCode at0) (headSt head0 bks0)))).2.1 = [symv 3] := by kernel_rfl
noncomputable abbrev so8 := leave' 56 F6 C6 (stopKs at0) (at' 56 F10 C10 (stopCode at0) (headSt head0 bks0))
noncomputable def bk8 : List Bk := []
def hd8 : Sl := slots [(3, .int .i64 0), (2, strV [])]
def hp8 : Sl := match aput 56 hd8 (some 55) (symv 36) with | some s => s | none => .nil
theorem e44 : trAll (entSt Tryd.prog so8) hd8 bk8 = some [] := by kernel_rfl
theorem e45 : aput 56 hd8 (stopDst so8) (symv 36) = some hp8 := by kernel_rfl
theorem e46 : endVal Tryd.prog Tryd.f13 (ops' 56 F6 C6 (stopRest so8) (stopOps so8) (stopKs so8) { sl := hp8, ms := [], A := mkAS bk8 }) = some (.tuple ⟨[symv 36, .int .i64 0]⟩) := by kernel_rfl
def F11 : List (FOp × Value) := [(.tru (.int .i64 55), .int .i64 55),
    (.bin .neq 25 (symv 2) (.int .i64 0), .bool true)]
def C11 : List (FuncId × List Value × Value) := [(11, [symv 0], .tuple ⟨[symv 1, symv 2]⟩)]
theorem e47 : endVal Tryd.prog Tryd.f13 (at' 56 F11 C11 body s0) = some (.tuple ⟨[strV [], symv 2]⟩) := by kernel_rfl
@[reducible] noncomputable def vL (l : List Mt) (a_l : Option Addr) (c_l : Nat) (b : Bs) (i : Nat) (b0 : Bs) (g0 : Nat) (b1 : Bs) (b2 : Bs) (b3 : Bs) (b4 : Bs) (b5 : Bs) (b6 : Bs) : List Value := [.slice a_l l.length c_l, .int .i64 (chkM l).1, .int .i64 (chkM l).2, .pointer (some ⟨g0, 0, none⟩), .int .i64 ((l.length : Nat) : Int), .int .i64 ((i : Nat) : Int), cellPtr (.slice a_l l.length c_l) (i * 8), strV (l.getD (i) default).1, .bool (l.getD (i) default).2.1, .bool (l.getD (i) default).2.2.1, .bool (l.getD (i) default).2.2.2.1, .int .i64 (l.getD (i) default).2.2.2.2.1, .int .i64 (l.getD (i) default).2.2.2.2.2.1, .int .i64 (l.getD (i) default).2.2.2.2.2.2.1, .int .i64 (l.getD (i) default).2.2.2.2.2.2.2, strV ((l.getD (i) default).1 ++ ([32] : Bs)), strV (kindM (l.getD (i) default)).1, .bool (kindM (l.getD (i) default)).2.1, .bool (kindM (l.getD (i) default)).2.2.1, .bool (kindM (l.getD (i) default)).2.2.2, strV (((l.getD (i) default).1 ++ ([32] : Bs)) ++ (kindM (l.getD (i) default)).1), strV ((((l.getD (i) default).1 ++ ([32] : Bs)) ++ (kindM (l.getD (i) default)).1) ++ ([32, 102, 97, 100, 101, 32] : Bs)), strV (itoaB (l.getD (i) default).2.2.2.2.1), strV (((((l.getD (i) default).1 ++ ([32] : Bs)) ++ (kindM (l.getD (i) default)).1) ++ ([32, 102, 97, 100, 101, 32] : Bs)) ++ (itoaB (l.getD (i) default).2.2.2.2.1)), .int .i64 (((((((l.getD (i) default).1 ++ ([32] : Bs)) ++ (kindM (l.getD (i) default)).1) ++ ([32, 102, 97, 100, 101, 32] : Bs)) ++ (itoaB (l.getD (i) default).2.2.2.2.1)).length : Nat) : Int), .int .i64 ((i + 1 : Nat) : Int), .int .i64 ((([32, 101, 109, 105, 116] : Bs).length : Nat) : Int), strV (itoaB (l.getD (i) default).2.2.2.2.2.1), strV (([32] : Bs) ++ (itoaB (l.getD (i) default).2.2.2.2.2.1)), .int .i64 (((([32] : Bs) ++ (itoaB (l.getD (i) default).2.2.2.2.2.1)).length : Nat) : Int), strV (itoaB (l.getD (i) default).2.2.2.2.2.2.1), strV (([32] : Bs) ++ (itoaB (l.getD (i) default).2.2.2.2.2.2.1)), .int .i64 (((([32] : Bs) ++ (itoaB (l.getD (i) default).2.2.2.2.2.2.1)).length : Nat) : Int), strV (itoaB (l.getD (i) default).2.2.2.2.2.2.2), strV (([32] : Bs) ++ (itoaB (l.getD (i) default).2.2.2.2.2.2.2)), .int .i64 (((([32] : Bs) ++ (itoaB (l.getD (i) default).2.2.2.2.2.2.2)).length : Nat) : Int), strV b]
@[reducible] noncomputable def sg (M : Mem) (l : List Mt) (a_l : Option Addr) (c_l : Nat) (b : Bs) (i : Nat) (b0 : Bs) (g0 : Nat) (b1 : Bs) (b2 : Bs) (b3 : Bs) (b4 : Bs) (b5 : Bs) (b6 : Bs) : Sig := sgL M (vL l a_l c_l b i b0 g0 b1 b2 b3 b4 b5 b6)
set_option maxHeartbeats 4000000 in
theorem any (W : World) {v_l : Value} {l : List Mt} (hl : Arr (heapOf W) 8 encM v_l l) (hK : KindsM (heapOf W)) : Calls Tryd.prog 13 #[v_l] W fun e w' => e = .returned (.tuple #[strV (prtM l).1, .int .i64 (prtM l).2]) ∧ Low W.heap.size W w' := by
  obtain ⟨a_l, c_l, rfl⟩ := hl.slice
  refine @walk_enter (sg (heapOf W) l a_l c_l [] 0 [] 0 [] [] [] [] [] []) Tryd.prog 13 Tryd.f13 body [symv 0] (slots [(0, symv 0)]) N W _ Tryd.func13 (by kernel_rfl) (by kernel_rfl) (by kernel_rfl) (by kernel_rfl) (immW_sgL W _) fun a hh => ?_
  letI := (sg (heapOf W) l a_l c_l [] 0 [] 0 [] [] [] [] [] [])
  by_cases h0 : (chkM l).2 = 0
  · refine walk_to (F := F0) (T := C0) (fuel := 1000) (d := 10) mixed (allF_cons (truI _) (allF_cons (FactOk.bi rfl rfl rfl rfl rfl rfl (nboolF (by omega))) allF_nil)) (allC_cons (callChkP rfl rfl rfl rfl hl hK) allC_nil) ?_ hh
    obtain ⟨b0, hb0⟩ : ∃ b0 : Bs, b0 = [] := ⟨_, rfl⟩
    refine ostop_alloc (vals2 := fun gV => (vL l a_l c_l [] 0 b0 gV [] [] [] [] [] [])) e0 zBd e1 e2 rfl (fun _ gV => (meet_cons (by first | exact meetV (.slice a_l l.length c_l) rfl rfl | exact meetI rfl rfl (by omega)) meet_nil)) (fun _ _ => rfl) ?_
    intro M0 g0 hg0 hn0 hA0 hK0 aC w hh
    have hO0 : OBld W.heap.size M0 (.pointer (some ⟨g0, 0, none⟩)) b0 := by rw [hb0]; exact OBld.fresh hg0 hA0
    have hM0 := hK0.up (fun i h => by cases h) (Nat.le_refl _) (fun _ _ h => h)
    letI := (sg M0 l a_l c_l [] 0 b0 g0 [] [] [] [] [] [])
    refine walk_ops (F := F1) (T := C1) (fuel := 1000) (d := 10) mixed (allF_cons (truI _) (allF_cons (FactOk.arrLen (hl.mono hM0) rfl rfl underMl rfl rfl) allF_nil)) allC_nil ?_ hh
    refine ostop_loop (sg := (fun (⟨M, b, i⟩ : Mem × Bs × Nat) => sg M l a_l c_l b i b0 g0 [] [] [] [] [] [])) (fun (⟨M, b, i⟩ : Mem × Bs × Nat) => OBld W.heap.size M (.pointer (some ⟨g0, 0, none⟩)) b ∧ (∀ i o, heapOf W i = some o → M i = some o) ∧ b = txtTo l i ∧ i ≤ l.length) (fun (⟨M, b, i⟩ : Mem × Bs × Nat) => l.length - i) ⟨M0, b0, 0⟩ e3 (meet_cons (by first | exact meetV (.slice a_l l.length c_l) rfl rfl | exact meetI rfl rfl (by omega)) (meet_cons (by first | rfl | exact meetInt (by omega)) (meet_cons (by first | exact meetV (.int .i64 ((l.length : Nat) : Int)) rfl rfl | exact meetI rfl rfl (by omega)) (meet_cons (by first | exact meetV (.pointer (some ⟨g0, 0, none⟩)) rfl rfl | exact meetI rfl rfl (by omega)) meet_nil)))) (fun _ _ h => h) (by exact ⟨hO0, hM0, hb0, Nat.zero_le _⟩) ?_
    intro ⟨M, b, i⟩ hI aC w hh
    letI := (sg M l a_l c_l b i b0 g0 [] [] [] [] [] [])
    have hO := hI.1
    have hM := hI.2.1
    have hbl : b.length ≤ 100 * i := by rw [hI.2.2.1]; exact txtTo_len h0 hI.2.2.2
    have hl256 := (chkM_zero h0).1
    by_cases q0 : ((i : Nat) : Int) < ((l.length : Nat) : Int)
    · refine walk_to (F := F2) (T := C2) (fuel := 1000) (d := 10) mixed (allF_cons (truI _) (allF_cons (FactOk.bi rfl rfl rfl rfl rfl rfl (boolT (by omega))) (allF_cons (FactOk.arrIxa (hl.mono hM) (show i < l.length by omega) rfl rfl rfl underMl sizeM rfl rfl rfl) (allF_cons (FactOk.arrLd (hl.mono hM) (getSome (show i < l.length by omega)) rfl rfl aggM sizeM rfl rfl rfl) (allF_cons (FactOk.strAdd (l := (l.getD (i) default).1) (m := ([32] : Bs)) rfl rfl rfl (by have hq := rowLens (okV h0 (i := i) (by omega)); simp only [List.length_append, List.length_cons, List.length_nil]; omega) rfl rfl rfl) (allF_cons (FactOk.strAdd (l := ((l.getD (i) default).1 ++ ([32] : Bs))) (m := (kindM (l.getD (i) default)).1) rfl rfl rfl (by have hq := rowLens (okV h0 (i := i) (by omega)); simp only [List.length_append, List.length_cons, List.length_nil]; omega) rfl rfl rfl) (allF_cons (FactOk.strAdd (l := (((l.getD (i) default).1 ++ ([32] : Bs)) ++ (kindM (l.getD (i) default)).1)) (m := ([32, 102, 97, 100, 101, 32] : Bs)) rfl rfl rfl (by have hq := rowLens (okV h0 (i := i) (by omega)); simp only [List.length_append, List.length_cons, List.length_nil]; omega) rfl rfl rfl) (allF_cons (FactOk.strAdd (l := ((((l.getD (i) default).1 ++ ([32] : Bs)) ++ (kindM (l.getD (i) default)).1) ++ ([32, 102, 97, 100, 101, 32] : Bs))) (m := (itoaB (l.getD (i) default).2.2.2.2.1)) rfl rfl rfl (by have hq := rowLens (okV h0 (i := i) (by omega)); simp only [List.length_append, List.length_cons, List.length_nil]; omega) rfl rfl rfl) allF_nil)))))))) (allC_cons (callOf rfl rfl rfl rfl (by first | exact hK | exact hK.mono (by assumption))) (allC_cons (callItoa rfl rfl rfl rfl (by have hq := okV h0 (i := i) (by omega); have hq2 := hq.2.2; omega)) allC_nil)) ?_ hh
      obtain ⟨b1, hb1⟩ : ∃ b1 : Bs, b1 = b ++ (((((l.getD (i) default).1 ++ ([32] : Bs)) ++ (kindM (l.getD (i) default)).1) ++ ([32, 102, 97, 100, 101, 32] : Bs)) ++ (itoaB (l.getD (i) default).2.2.2.2.1)) := ⟨_, rfl⟩
      have hn1 : b1.length ≤ b.length + 60 := by rw [hb1]; first | done | exact (by have hq := rowLens (okV h0 (i := i) (by omega)); simp only [List.length_append, List.length_cons, List.length_nil]; omega)
      refine ostop_callS (Y := Unit) (vals2 := fun _ => (vL l a_l c_l b i b0 g0 b1 [] [] [] [] [])) (S := bset M (.pointer (some ⟨g0, 0, none⟩))) (R := fun _ M' => OBld W.heap.size M' (.pointer (some ⟨g0, 0, none⟩)) b1 ∧ KeepsS M M' (bset M (.pointer (some ⟨g0, 0, none⟩)))) e4 e5 e6 rfl e7 e8 rfl (fun w hw hB => bldOf (fun M' => rfl) (con_writeString hO hw hB hb1 (by have hq := rowLens (okV h0 (i := i) (by omega)); simp only [List.length_append, List.length_cons, List.length_nil]; omega))) (fun _ _ _ => (meet_cons (by first | exact meetV (.slice a_l l.length c_l) rfl rfl | exact meetI rfl rfl (by omega)) (meet_cons (by first | exact meetV (.int .i64 ((i : Nat) : Int)) rfl rfl | exact meetI rfl rfl (by omega)) (meet_cons (by first | exact meetV (.int .i64 ((l.length : Nat) : Int)) rfl rfl | exact meetI rfl rfl (by omega)) (meet_cons (by first | exact meetV (.pointer (some ⟨g0, 0, none⟩)) rfl rfl | exact meetI rfl rfl (by omega)) (meet_cons (by first | exact meetV (strV (l.getD (i) default).1) rfl rfl | exact meetI rfl rfl (by omega)) (meet_cons (by first | exact meetV (.bool (l.getD (i) default).2.1) rfl rfl | exact meetI rfl rfl (by omega)) (meet_cons (by first | exact meetV (.bool (l.getD (i) default).2.2.1) rfl rfl | exact meetI rfl rfl (by omega)) (meet_cons (by first | exact meetV (.bool (l.getD (i) default).2.2.2.1) rfl rfl | exact meetI rfl rfl (by omega)) (meet_cons (by first | exact meetV (.int .i64 (l.getD (i) default).2.2.2.2.1) rfl rfl | exact meetI rfl rfl (by omega)) (meet_cons (by first | exact meetV (.int .i64 (l.getD (i) default).2.2.2.2.2.1) rfl rfl | exact meetI rfl rfl (by omega)) (meet_cons (by first | exact meetV (.int .i64 (l.getD (i) default).2.2.2.2.2.2.1) rfl rfl | exact meetI rfl rfl (by omega)) (meet_cons (by first | exact meetV (.int .i64 (l.getD (i) default).2.2.2.2.2.2.2) rfl rfl | exact meetI rfl rfl (by omega)) meet_nil))))))))))))) ?_
      intro M1 _ hR1 aC w hh
      obtain ⟨hO1, hK1⟩ := hR1
      have hM1 := hK1.up (fun i h => (hO.known i h).2) (Nat.le_refl _) hM
      letI := (sg M1 l a_l c_l b i b0 g0 b1 [] [] [] [] [])
      by_cases r0 : (((l.getD (i) default).2.2.2.2.2.1, (l.getD (i) default).2.2.2.2.2.2.1, (l.getD (i) default).2.2.2.2.2.2.2) : E3) = ((0, 0, 0) : E3)
      · refine walk_ops (F := F3) (T := C3) (fuel := 1000) (d := 10) mixed (allF_cons (truI _) (allF_cons (neE rfl rfl rfl rfl (by rw [decide_eq_true r0]; rfl)) allF_nil)) allC_nil ?_ hh
        obtain ⟨b2, hb2⟩ : ∃ b2 : Bs, b2 = b1 ++ [10] := ⟨_, rfl⟩
        refine ostop_callS (Y := Unit) (vals2 := fun _ => (vL l a_l c_l b i b0 g0 b1 b2 [] [] [] [])) (S := bset M1 (.pointer (some ⟨g0, 0, none⟩))) (R := fun _ M' => OBld W.heap.size M' (.pointer (some ⟨g0, 0, none⟩)) b2 ∧ KeepsS M1 M' (bset M1 (.pointer (some ⟨g0, 0, none⟩)))) e9 e10 e11 rfl e12 e13 rfl (fun w hw hB => bldOf (fun M' => rfl) (con_writeByte 10 hO1 hw hB hb2 (by omega))) (fun _ _ _ => (meet_cons (by first | exact meetV (.slice a_l l.length c_l) rfl rfl | exact meetI rfl rfl (by omega)) (meet_cons (by first | exact meetV (.int .i64 ((i : Nat) : Int)) rfl rfl | exact meetI rfl rfl (by omega)) (meet_cons (by first | exact meetV (.int .i64 ((l.length : Nat) : Int)) rfl rfl | exact meetI rfl rfl (by omega)) (meet_cons (by first | exact meetV (.pointer (some ⟨g0, 0, none⟩)) rfl rfl | exact meetI rfl rfl (by omega)) meet_nil))))) ?_
        intro M2 _ hR2 aC w hh
        obtain ⟨hO2, hK2⟩ := hR2
        have hM2 := hK2.up (fun i h => (hO1.known i h).2) (Nat.le_refl _) hM1
        letI := (sg M2 l a_l c_l b i b0 g0 b1 b2 [] [] [] [])
        refine walk_ops (F := F4) (T := C4) (fuel := 1000) (d := 10) mixed (allF_cons (truI _) (allF_cons (FactOk.bi rfl rfl rfl rfl rfl rfl (intI (by omega) (by omega) (by omega))) allF_nil)) allC_nil ?_ hh
        exact ostop_backM (s1 := (sg M2 l a_l c_l b i b0 g0 b1 b2 [] [] [] [])) (sg := (fun (⟨M, b, i⟩ : Mem × Bs × Nat) => sg M l a_l c_l b i b0 g0 [] [] [] [] [] [])) (I := fun (⟨M, b, i⟩ : Mem × Bs × Nat) => OBld W.heap.size M (.pointer (some ⟨g0, 0, none⟩)) b ∧ (∀ i o, heapOf W i = some o → M i = some o) ∧ b = txtTo l i ∧ i ≤ l.length) (μ := fun (⟨M, b, i⟩ : Mem × Bs × Nat) => l.length - i) (x := ⟨M, b, i⟩) ⟨M2, b2, i + 1⟩ e14 (meet_cons (by first | exact meetV (.slice a_l l.length c_l) rfl rfl | exact meetI rfl rfl (by omega)) (meet_cons (by first | exact meetV (.int .i64 ((i + 1 : Nat) : Int)) rfl rfl | exact meetI rfl rfl (by omega)) (meet_cons (by first | exact meetV (.int .i64 ((l.length : Nat) : Int)) rfl rfl | exact meetI rfl rfl (by omega)) (meet_cons (by first | exact meetV (.pointer (some ⟨g0, 0, none⟩)) rfl rfl | exact meetI rfl rfl (by omega)) meet_nil)))) (fun _ _ h => h) (by exact ⟨by assumption, by assumption, by subst_vars; rw [txtTo_succ (by omega), ← hI.2.2.1]; unfold rowT; first | (rw [if_pos (by assumption)]; simp only [List.append_assoc, List.append_nil, List.nil_append]; done) | (rw [if_neg (by assumption)]; simp only [List.append_assoc]; done), by omega⟩) (by (try dsimp only); omega)
      · refine walk_ops (F := F5) (T := C5) (fuel := 1000) (d := 10) mixed (allF_cons (truI _) (allF_cons (neE rfl rfl rfl rfl (by rw [decide_eq_false r0]; rfl)) allF_nil)) allC_nil ?_ hh
        obtain ⟨b2, hb2⟩ : ∃ b2 : Bs, b2 = b1 ++ ([32, 101, 109, 105, 116] : Bs) := ⟨_, rfl⟩
        have hn2 : b2.length ≤ b1.length + 60 := by rw [hb2]; first | done | exact (by have hq := rowLens (okV h0 (i := i) (by omega)); simp only [List.length_append, List.length_cons, List.length_nil]; omega)
        refine ostop_callS (Y := Unit) (vals2 := fun _ => (vL l a_l c_l b i b0 g0 b1 b2 [] [] [] [])) (S := bset M1 (.pointer (some ⟨g0, 0, none⟩))) (R := fun _ M' => OBld W.heap.size M' (.pointer (some ⟨g0, 0, none⟩)) b2 ∧ KeepsS M1 M' (bset M1 (.pointer (some ⟨g0, 0, none⟩)))) e15 e16 e17 rfl e18 e19 rfl (fun w hw hB => bldOf (fun M' => rfl) (con_writeString hO1 hw hB hb2 (by have hq := rowLens (okV h0 (i := i) (by omega)); simp only [List.length_append, List.length_cons, List.length_nil]; omega))) (fun _ _ _ => (meet_cons (by first | exact meetV (.slice a_l l.length c_l) rfl rfl | exact meetI rfl rfl (by omega)) (meet_cons (by first | exact meetV (.int .i64 ((i : Nat) : Int)) rfl rfl | exact meetI rfl rfl (by omega)) (meet_cons (by first | exact meetV (.int .i64 ((l.length : Nat) : Int)) rfl rfl | exact meetI rfl rfl (by omega)) (meet_cons (by first | exact meetV (.pointer (some ⟨g0, 0, none⟩)) rfl rfl | exact meetI rfl rfl (by omega)) (meet_cons (by first | exact meetV (strV (l.getD (i) default).1) rfl rfl | exact meetI rfl rfl (by omega)) (meet_cons (by first | exact meetV (.bool (l.getD (i) default).2.1) rfl rfl | exact meetI rfl rfl (by omega)) (meet_cons (by first | exact meetV (.bool (l.getD (i) default).2.2.1) rfl rfl | exact meetI rfl rfl (by omega)) (meet_cons (by first | exact meetV (.bool (l.getD (i) default).2.2.2.1) rfl rfl | exact meetI rfl rfl (by omega)) (meet_cons (by first | exact meetV (.int .i64 (l.getD (i) default).2.2.2.2.1) rfl rfl | exact meetI rfl rfl (by omega)) (meet_cons (by first | exact meetV (.int .i64 (l.getD (i) default).2.2.2.2.2.1) rfl rfl | exact meetI rfl rfl (by omega)) (meet_cons (by first | exact meetV (.int .i64 (l.getD (i) default).2.2.2.2.2.2.1) rfl rfl | exact meetI rfl rfl (by omega)) (meet_cons (by first | exact meetV (.int .i64 (l.getD (i) default).2.2.2.2.2.2.2) rfl rfl | exact meetI rfl rfl (by omega)) meet_nil))))))))))))) ?_
        intro M2 _ hR2 aC w hh
        obtain ⟨hO2, hK2⟩ := hR2
        have hM2 := hK2.up (fun i h => (hO1.known i h).2) (Nat.le_refl _) hM1
        letI := (sg M2 l a_l c_l b i b0 g0 b1 b2 [] [] [] [])
        refine walk_ops (F := F6) (T := C6) (fuel := 1000) (d := 10) mixed (allF_cons (truI _) allF_nil) allC_nil ?_ hh
        refine walk_unroll (m := 4) (F := F7) (T := C7) (fuel := 1000) (d := 10) mixed (allF_cons (truI _) (allF_cons (FactOk.strAdd (l := ([32] : Bs)) (m := (itoaB (l.getD (i) default).2.2.2.2.2.1)) rfl rfl rfl (by have hq := rowLens (okV h0 (i := i) (by omega)); simp only [List.length_append, List.length_cons, List.length_nil]; omega) rfl rfl rfl) allF_nil)) (allC_cons (callItoa rfl rfl rfl rfl (by have hq := okV h0 (i := i) (by omega); have hq2 := hq.2.2; omega)) allC_nil) ?_
        obtain ⟨b3, hb3⟩ : ∃ b3 : Bs, b3 = b2 ++ (([32] : Bs) ++ (itoaB (l.getD (i) default).2.2.2.2.2.1)) := ⟨_, rfl⟩
        have hn3 : b3.length ≤ b2.length + 60 := by rw [hb3]; first | done | exact (by have hq := rowLens (okV h0 (i := i) (by omega)); simp only [List.length_append, List.length_cons, List.length_nil]; omega)
        refine ostop_callS (Y := Unit) (vals2 := fun _ => (vL l a_l c_l b i b0 g0 b1 b2 b3 [] [] [])) (S := bset M2 (.pointer (some ⟨g0, 0, none⟩))) (R := fun _ M' => OBld W.heap.size M' (.pointer (some ⟨g0, 0, none⟩)) b3 ∧ KeepsS M2 M' (bset M2 (.pointer (some ⟨g0, 0, none⟩)))) e20 e21 e22 rfl e23 e24 rfl (fun w hw hB => bldOf (fun M' => rfl) (con_writeString hO2 hw hB hb3 (by have hq := rowLens (okV h0 (i := i) (by omega)); simp only [List.length_append, List.length_cons, List.length_nil]; omega))) (fun _ _ _ => (meet_cons (by first | exact meetV (.int .i64 (l.getD (i) default).2.2.2.2.2.1) rfl rfl | exact meetI rfl rfl (by omega)) (meet_cons (by first | exact meetV (.slice a_l l.length c_l) rfl rfl | exact meetI rfl rfl (by omega)) (meet_cons (by first | exact meetV (strV (itoaB (l.getD (i) default).2.2.2.2.2.1)) rfl rfl | exact meetI rfl rfl (by omega)) (meet_cons (by first | exact meetV (.int .i64 ((i : Nat) : Int)) rfl rfl | exact meetI rfl rfl (by omega)) (meet_cons (by first | exact meetV (.int .i64 (l.getD (i) default).2.2.2.2.2.1) rfl rfl | exact meetI rfl rfl (by omega)) (meet_cons (by first | exact meetV (.int .i64 ((l.length : Nat) : Int)) rfl rfl | exact meetI rfl rfl (by omega)) (meet_cons (by first | exact meetV (.int .i64 (l.getD (i) default).2.2.2.2.2.1) rfl rfl | exact meetI rfl rfl (by omega)) (meet_cons (by first | exact meetV (.int .i64 (l.getD (i) default).2.2.2.2.2.2.1) rfl rfl | exact meetI rfl rfl (by omega)) (meet_cons (by first | exact meetV (.int .i64 (l.getD (i) default).2.2.2.2.2.2.2) rfl rfl | exact meetI rfl rfl (by omega)) (meet_cons (by first | exact meetV (.pointer (some ⟨g0, 0, none⟩)) rfl rfl | exact meetI rfl rfl (by omega)) (meet_cons (by first | exact meetV (.int .i64 (l.getD (i) default).2.2.2.2.2.1) rfl rfl | exact meetI rfl rfl (by omega)) (meet_cons (by first | exact meetV (strV (([32] : Bs) ++ (itoaB (l.getD (i) default).2.2.2.2.2.1))) rfl rfl | exact meetI rfl rfl (by omega)) meet_nil))))))))))))) ?_
        intro M3 _ hR3 aC w hh
        obtain ⟨hO3, hK3⟩ := hR3
        have hM3 := hK3.up (fun i h => (hO2.known i h).2) (Nat.le_refl _) hM2
        letI := (sg M3 l a_l c_l b i b0 g0 b1 b2 b3 [] [] [])
        refine walk_ops (F := F8) (T := C8) (fuel := 1000) (d := 10) mixed (allF_cons (truI _) (allF_cons (FactOk.strAdd (l := ([32] : Bs)) (m := (itoaB (l.getD (i) default).2.2.2.2.2.2.1)) rfl rfl rfl (by have hq := rowLens (okV h0 (i := i) (by omega)); simp only [List.length_append, List.length_cons, List.length_nil]; omega) rfl rfl rfl) allF_nil)) (allC_cons (callItoa rfl rfl rfl rfl (by have hq := okV h0 (i := i) (by omega); have hq2 := hq.2.2; omega)) allC_nil) ?_ hh
        obtain ⟨b4, hb4⟩ : ∃ b4 : Bs, b4 = b3 ++ (([32] : Bs) ++ (itoaB (l.getD (i) default).2.2.2.2.2.2.1)) := ⟨_, rfl⟩
        have hn4 : b4.length ≤ b3.length + 60 := by rw [hb4]; first | done | exact (by have hq := rowLens (okV h0 (i := i) (by omega)); simp only [List.length_append, List.length_cons, List.length_nil]; omega)
        refine ostop_callS (Y := Unit) (vals2 := fun _ => (vL l a_l c_l b i b0 g0 b1 b2 b3 b4 [] [])) (S := bset M3 (.pointer (some ⟨g0, 0, none⟩))) (R := fun _ M' => OBld W.heap.size M' (.pointer (some ⟨g0, 0, none⟩)) b4 ∧ KeepsS M3 M' (bset M3 (.pointer (some ⟨g0, 0, none⟩)))) e25 e26 e27 rfl e28 e29 rfl (fun w hw hB => bldOf (fun M' => rfl) (con_writeString hO3 hw hB hb4 (by have hq := rowLens (okV h0 (i := i) (by omega)); simp only [List.length_append, List.length_cons, List.length_nil]; omega))) (fun _ _ _ => (meet_cons (by first | exact meetV (.int .i64 (l.getD (i) default).2.2.2.2.2.2.1) rfl rfl | exact meetI rfl rfl (by omega)) (meet_cons (by first | exact meetV (.slice a_l l.length c_l) rfl rfl | exact meetI rfl rfl (by omega)) (meet_cons (by first | exact meetV (strV (itoaB (l.getD (i) default).2.2.2.2.2.2.1)) rfl rfl | exact meetI rfl rfl (by omega)) (meet_cons (by first | exact meetV (.int .i64 ((i : Nat) : Int)) rfl rfl | exact meetI rfl rfl (by omega)) (meet_cons (by first | exact meetV (.int .i64 (l.getD (i) default).2.2.2.2.2.2.1) rfl rfl | exact meetI rfl rfl (by omega)) (meet_cons (by first | exact meetV (.int .i64 ((l.length : Nat) : Int)) rfl rfl | exact meetI rfl rfl (by omega)) (meet_cons (by first | exact meetV (.int .i64 (l.getD (i) default).2.2.2.2.2.1) rfl rfl | exact meetI rfl rfl (by omega)) (meet_cons (by first | exact meetV (.int .i64 (l.getD (i) default).2.2.2.2.2.2.1) rfl rfl | exact meetI rfl rfl (by omega)) (meet_cons (by first | exact meetV (.int .i64 (l.getD (i) default).2.2.2.2.2.2.2) rfl rfl | exact meetI rfl rfl (by omega)) (meet_cons (by first | exact meetV (.pointer (some ⟨g0, 0, none⟩)) rfl rfl | exact meetI rfl rfl (by omega)) (meet_cons (by first | exact meetV (.int .i64 (l.getD (i) default).2.2.2.2.2.2.1) rfl rfl | exact meetI rfl rfl (by omega)) (meet_cons (by first | exact meetV (strV (([32] : Bs) ++ (itoaB (l.getD (i) default).2.2.2.2.2.2.1))) rfl rfl | exact meetI rfl rfl (by omega)) meet_nil))))))))))))) ?_
        intro M4 _ hR4 aC w hh
        obtain ⟨hO4, hK4⟩ := hR4
        have hM4 := hK4.up (fun i h => (hO3.known i h).2) (Nat.le_refl _) hM3
        letI := (sg M4 l a_l c_l b i b0 g0 b1 b2 b3 b4 [] [])
        refine walk_ops (F := F9) (T := C9) (fuel := 1000) (d := 10) mixed (allF_cons (truI _) (allF_cons (FactOk.strAdd (l := ([32] : Bs)) (m := (itoaB (l.getD (i) default).2.2.2.2.2.2.2)) rfl rfl rfl (by have hq := rowLens (okV h0 (i := i) (by omega)); simp only [List.length_append, List.length_cons, List.length_nil]; omega) rfl rfl rfl) allF_nil)) (allC_cons (callItoa rfl rfl rfl rfl (by have hq := okV h0 (i := i) (by omega); have hq2 := hq.2.2; omega)) allC_nil) ?_ hh
        obtain ⟨b5, hb5⟩ : ∃ b5 : Bs, b5 = b4 ++ (([32] : Bs) ++ (itoaB (l.getD (i) default).2.2.2.2.2.2.2)) := ⟨_, rfl⟩
        have hn5 : b5.length ≤ b4.length + 60 := by rw [hb5]; first | done | exact (by have hq := rowLens (okV h0 (i := i) (by omega)); simp only [List.length_append, List.length_cons, List.length_nil]; omega)
        refine ostop_callS (Y := Unit) (vals2 := fun _ => (vL l a_l c_l b i b0 g0 b1 b2 b3 b4 b5 [])) (S := bset M4 (.pointer (some ⟨g0, 0, none⟩))) (R := fun _ M' => OBld W.heap.size M' (.pointer (some ⟨g0, 0, none⟩)) b5 ∧ KeepsS M4 M' (bset M4 (.pointer (some ⟨g0, 0, none⟩)))) e30 e31 e32 rfl e33 e34 rfl (fun w hw hB => bldOf (fun M' => rfl) (con_writeString hO4 hw hB hb5 (by have hq := rowLens (okV h0 (i := i) (by omega)); simp only [List.length_append, List.length_cons, List.length_nil]; omega))) (fun _ _ _ => (meet_cons (by first | exact meetV (.int .i64 (l.getD (i) default).2.2.2.2.2.2.2) rfl rfl | exact meetI rfl rfl (by omega)) (meet_cons (by first | exact meetV (.slice a_l l.length c_l) rfl rfl | exact meetI rfl rfl (by omega)) (meet_cons (by first | exact meetV (strV (itoaB (l.getD (i) default).2.2.2.2.2.2.2)) rfl rfl | exact meetI rfl rfl (by omega)) (meet_cons (by first | exact meetV (.int .i64 ((i : Nat) : Int)) rfl rfl | exact meetI rfl rfl (by omega)) (meet_cons (by first | exact meetV (.int .i64 (l.getD (i) default).2.2.2.2.2.2.2) rfl rfl | exact meetI rfl rfl (by omega)) (meet_cons (by first | exact meetV (.int .i64 ((l.length : Nat) : Int)) rfl rfl | exact meetI rfl rfl (by omega)) (meet_cons (by first | exact meetV (.int .i64 (l.getD (i) default).2.2.2.2.2.1) rfl rfl | exact meetI rfl rfl (by omega)) (meet_cons (by first | exact meetV (.int .i64 (l.getD (i) default).2.2.2.2.2.2.1) rfl rfl | exact meetI rfl rfl (by omega)) (meet_cons (by first | exact meetV (.int .i64 (l.getD (i) default).2.2.2.2.2.2.2) rfl rfl | exact meetI rfl rfl (by omega)) (meet_cons (by first | exact meetV (.pointer (some ⟨g0, 0, none⟩)) rfl rfl | exact meetI rfl rfl (by omega)) (meet_cons (by first | exact meetV (.int .i64 (l.getD (i) default).2.2.2.2.2.2.2) rfl rfl | exact meetI rfl rfl (by omega)) (meet_cons (by first | exact meetV (strV (([32] : Bs) ++ (itoaB (l.getD (i) default).2.2.2.2.2.2.2))) rfl rfl | exact meetI rfl rfl (by omega)) meet_nil))))))))))))) ?_
        intro M5 _ hR5 aC w hh
        obtain ⟨hO5, hK5⟩ := hR5
        have hM5 := hK5.up (fun i h => (hO4.known i h).2) (Nat.le_refl _) hM4
        letI := (sg M5 l a_l c_l b i b0 g0 b1 b2 b3 b4 b5 [])
        refine walk_ops (F := F6) (T := C6) (fuel := 1000) (d := 10) mixed (allF_cons (truI _) allF_nil) allC_nil ?_ hh
        obtain ⟨b6, hb6⟩ : ∃ b6 : Bs, b6 = b5 ++ [10] := ⟨_, rfl⟩
        refine ostop_callS (Y := Unit) (vals2 := fun _ => (vL l a_l c_l b i b0 g0 b1 b2 b3 b4 b5 b6)) (S := bset M5 (.pointer (some ⟨g0, 0, none⟩))) (R := fun _ M' => OBld W.heap.size M' (.pointer (some ⟨g0, 0, none⟩)) b6 ∧ KeepsS M5 M' (bset M5 (.pointer (some ⟨g0, 0, none⟩)))) e35 e36 e37 rfl e38 e39 rfl (fun w hw hB => bldOf (fun M' => rfl) (con_writeByte 10 hO5 hw hB hb6 (by omega))) (fun _ _ _ => (meet_cons (by first | exact meetV (.slice a_l l.length c_l) rfl rfl | exact meetI rfl rfl (by omega)) (meet_cons (by first | exact meetV (.int .i64 ((i : Nat) : Int)) rfl rfl | exact meetI rfl rfl (by omega)) (meet_cons (by first | exact meetV (.int .i64 ((l.length : Nat) : Int)) rfl rfl | exact meetI rfl rfl (by omega)) (meet_cons (by first | exact meetV (.pointer (some ⟨g0, 0, none⟩)) rfl rfl | exact meetI rfl rfl (by omega)) meet_nil))))) ?_
        intro M6 _ hR6 aC w hh
        obtain ⟨hO6, hK6⟩ := hR6
        have hM6 := hK6.up (fun i h => (hO5.known i h).2) (Nat.le_refl _) hM5
        letI := (sg M6 l a_l c_l b i b0 g0 b1 b2 b3 b4 b5 b6)
        refine walk_ops (F := F4) (T := C4) (fuel := 1000) (d := 10) mixed (allF_cons (truI _) (allF_cons (FactOk.bi rfl rfl rfl rfl rfl rfl (intI (by omega) (by omega) (by omega))) allF_nil)) allC_nil ?_ hh
        exact ostop_backM (s1 := (sg M6 l a_l c_l b i b0 g0 b1 b2 b3 b4 b5 b6)) (sg := (fun (⟨M, b, i⟩ : Mem × Bs × Nat) => sg M l a_l c_l b i b0 g0 [] [] [] [] [] [])) (I := fun (⟨M, b, i⟩ : Mem × Bs × Nat) => OBld W.heap.size M (.pointer (some ⟨g0, 0, none⟩)) b ∧ (∀ i o, heapOf W i = some o → M i = some o) ∧ b = txtTo l i ∧ i ≤ l.length) (μ := fun (⟨M, b, i⟩ : Mem × Bs × Nat) => l.length - i) (x := ⟨M, b, i⟩) ⟨M6, b6, i + 1⟩ e40 (meet_cons (by first | exact meetV (.slice a_l l.length c_l) rfl rfl | exact meetI rfl rfl (by omega)) (meet_cons (by first | exact meetV (.int .i64 ((i + 1 : Nat) : Int)) rfl rfl | exact meetI rfl rfl (by omega)) (meet_cons (by first | exact meetV (.int .i64 ((l.length : Nat) : Int)) rfl rfl | exact meetI rfl rfl (by omega)) (meet_cons (by first | exact meetV (.pointer (some ⟨g0, 0, none⟩)) rfl rfl | exact meetI rfl rfl (by omega)) meet_nil)))) (fun _ _ h => h) (by exact ⟨by assumption, by assumption, by subst_vars; rw [txtTo_succ (by omega), ← hI.2.2.1]; unfold rowT; first | (rw [if_pos (by assumption)]; simp only [List.append_assoc, List.append_nil, List.nil_append]; done) | (rw [if_neg (by assumption)]; simp only [List.append_assoc]; done), by omega⟩) (by (try dsimp only); omega)
    · refine walk_to (F := F10) (T := C10) (fuel := 1000) (d := 10) mixed (allF_cons (truI _) (allF_cons (FactOk.bi rfl rfl rfl rfl rfl rfl (boolF (by omega))) allF_nil)) allC_nil ?_ hh
      refine walk_leave (F := F6) (T := C6) (fuel := 1000) (d := 10) mixed (allF_cons (truI _) allF_nil) allC_nil ?_
      refine ostop_callF (vals2 := (vL l a_l c_l b i b0 g0 [] [] [] [] [] [])) e41 e42 e43 rfl e44 e45 rfl (fun w hw hB => (con_string hO hw hB).mono fun e w' he => ⟨fun _ => he.1, he.2⟩) (fun _ => meet_nil) ?_
      intro M1 hF1 aC w hh
      have hM1 : ∀ i o, heapOf W i = some o → M1 i = some o := fun i o h => hF1 i o (Array.getElem?_eq_some_iff.1 (show W.heap[i]? = some o from h)).1 (hM i o h)
      letI := (sg M1 l a_l c_l b i b0 g0 [] [] [] [] [] [])
      refine walk_ops (F := F6) (T := C6) (fuel := 1000) (d := 10) mixed (allF_cons (truI _) allF_nil) allC_nil ?_ hh
      exact ostop_end e46 fun w2 hLow hIn => ⟨(by refine congrArg Ending.returned ?_; first | (rw [show prtM l = (txtTo l l.length, 0) from if_pos h0, ← show i = l.length by omega, ← hI.2.2.1]; rfl) | (rw [show prtM l = ([], (chkM l).2) from if_neg h0]; rfl)), hLow⟩   -- returns .tuple ⟨[symv 36, .int .i64 0]⟩
  · refine walk_to (F := F11) (T := C11) (fuel := 1000) (d := 10) mixed (allF_cons (truI _) (allF_cons (FactOk.bi rfl rfl rfl rfl rfl rfl (nboolT (by omega))) allF_nil)) (allC_cons (callChkP rfl rfl rfl rfl hl hK) allC_nil) ?_ hh
    exact ostop_end e47 fun w2 hLow hIn => ⟨(by refine congrArg Ending.returned ?_; first | (rw [show prtM l = (txtTo l l.length, 0) from if_pos h0, ← show i = l.length by omega, ← hI.2.2.1]; rfl) | (rw [show prtM l = ([], (chkM l).2) from if_neg h0]; rfl)), hLow⟩   -- returns .tuple ⟨[strV [], symv 2]⟩
end PrtG
end AE
end Go.Proofs.YtblhndlmgibljaaDoor

/- the walks of Same -/
namespace Go.Proofs.YtblhndlmgibljaaDoor
open Go Go.Proofs Go.RowKit
set_option maxRecDepth 100000
namespace AE
namespace EqG
noncomputable def body : Code := (Tryd.f38.body).getD .skip
def N : Nat := 26
noncomputable abbrev at' (N : Nat) (F : List (FOp × Value)) (C : List (FuncId × List Value × Value)) (c : Code) (s : ASt) : Option Stop := evalTo Tryd.prog F C N 1000 10 c s
noncomputable abbrev leave' (N : Nat) (F : List (FOp × Value)) (C : List (FuncId × List Value × Value)) (ks : List KI) (o : Option Stop) : Option Stop := evalLeave Tryd.prog F C N 1000 10 ks o
noncomputable abbrev unr' (N : Nat) (F : List (FOp × Value)) (C : List (FuncId × List Value × Value)) (m : Nat) (o : Option Stop) : Option Stop := evalUnroll Tryd.prog F C N 1000 10 m o
noncomputable abbrev res' (N : Nat) (F : List (FOp × Value)) (C : List (FuncId × List Value × Value)) (ks : List KI) (x : AX) (s : ASt) : Option Stop := evalRes Tryd.prog F C N 1000 10 ks x s
noncomputable abbrev ops' (N : Nat) (F : List (FOp × Value)) (C : List (FuncId × List Value × Value)) (r : List Oper) (ops : Array Oper) (ks : List KI) (s : ASt) : Option Stop := evalOps Tryd.prog F C N 1000 10 r ops ks s
def s0 : ASt := { sl := slots [(1, symv 1), (0, symv 0)], ms := [], A := start }
def F0 : List (FOp × Value) := [(.len #[22] 3 (symv 0), symv 2),
    (.len #[22] 3 (symv 1), symv 3),
    (.bin .neq 3 (symv 2) (symv 3), .bool false)]
def C0 : List (FuncId × List Value × Value) := []
noncomputable def bks0 : List Bk := []
def head0 : Sl := slots [(13, symv 4), (12, symv 2), (1, symv 1), (0, symv 0)]
noncomputable abbrev at0 := at' 26 F0 C0 body s0
theorem e0 : headObs head0 bks0 at0 = some [(symv 0, symv 0), (symv 1, symv 1), (.int .i64 0, symv 4), (symv 2, symv 2)] := by kernel_rfl
def F1 : List (FOp × Value) := [(.bin .lss 3 (symv 4) (symv 2), .bool true),
    (.ixa 22 (symv 0) (symv 4), symv 5),
    (.ld 35 (symv 5), .agg ⟨[symv 6, symv 7, symv 8, symv 9, symv 10, symv 11, symv 12, symv 13]⟩),
    (.ixa 22 (symv 1) (symv 4), symv 14),
    (.ld 35 (symv 14), .agg ⟨[symv 15, symv 16, symv 17, symv 18, symv 19, symv 20, symv 21, symv 22]⟩),
    (.bin .neq 35 (.agg ⟨[symv 6, symv 7, symv 8, symv 9, symv 10, symv 11, symv 12, symv 13]⟩) (.agg ⟨[symv 15, symv 16, symv 17, symv 18, symv 19, symv 20, symv 21, symv 22]⟩), .bool false),
    (.bin .add 3 (symv 4) (.int .i64 1), symv 23)]
def C1 : List (FuncId × List Value × Value) := []
theorem e1 : backObs head0 bks0 (at' 26 F1 C1 (stopCode at0) (headSt head0 bks0)) = some [(symv 0, symv 0), (symv 1, symv 1), (symv 23, symv 4), (symv 2, symv 2)] := by kernel_rfl
def F2 : List (FOp × Value) := [(.bin .lss 3 (symv 4) (symv 2), .bool true),
    (.ixa 22 (symv 0) (symv 4), symv 5),
    (.ld 35 (symv 5), .agg ⟨[symv 6, symv 7, symv 8, symv 9, symv 10, symv 11, symv 12, symv 13]⟩),
    (.ixa 22 (symv 1) (symv 4), symv 14),
    (.ld 35 (symv 14), .agg ⟨[symv 15, symv 16, symv 17, symv 18, symv 19, symv 20, symv 21, symv 22]⟩),
    (.bin .neq 35 (.agg ⟨[symv 6, symv 7, symv 8, symv 9, symv 10, symv 11, symv 12, symv 13]⟩) (.agg ⟨[symv 15, symv 16, symv 17, symv 18, symv 19, symv 20, symv 21, symv 22]⟩), .bool true)]
def C2 : List (FuncId × List Value × Value) := []
def F3 : List (FOp × Value) := []
def C3 : List (FuncId × List Value × Value) := []
theorem e2 : endVal Tryd.prog Tryd.f38 (leave' 26 F3 C3 (stopKs at0) (at' 26 F2 C2 (stopCode at0) (headSt head0 bks0))) = some (.bool false) := by kernel_rfl
def F4 : List (FOp × Value) := [(.bin .lss 3 (symv 4) (symv 2), .bool false)]
def C4 : List (FuncId × List Value × Value) := []
theorem e3 : endVal Tryd.prog Tryd.f38 (leave' 26 F3 C3 (stopKs at0) (at' 26 F4 C4 (stopCode at0) (headSt head0 bks0))) = some (.bool true) := by kernel_rfl
def F5 : List (FOp × Value) := [(.len #[22] 3 (symv 0), symv 2),
    (.len #[22] 3 (symv 1), symv 3),
    (.bin .neq 3 (symv 2) (symv 3), .bool true)]
def C5 : List (FuncId × List Value × Value) := []
theorem e4 : endVal Tryd.prog Tryd.f38 (at' 26 F5 C5 body s0) = some (.bool false) := by kernel_rfl
@[reducible] noncomputable def vL (l : List Mt) (a_l : Option Addr) (c_l : Nat) (k : List Mt) (a_k : Option Addr) (c_k : Nat) (i : Nat) : List Value := [.slice a_l l.length c_l, .slice a_k k.length c_k, .int .i64 ((l.length : Nat) : Int), .int .i64 ((k.length : Nat) : Int), .int .i64 ((i : Nat) : Int), cellPtr (.slice a_l l.length c_l) (i * 8), strV (l.getD (i) default).1, .bool (l.getD (i) default).2.1, .bool (l.getD (i) default).2.2.1, .bool (l.getD (i) default).2.2.2.1, .int .i64 (l.getD (i) default).2.2.2.2.1, .int .i64 (l.getD (i) default).2.2.2.2.2.1, .int .i64 (l.getD (i) default).2.2.2.2.2.2.1, .int .i64 (l.getD (i) default).2.2.2.2.2.2.2, cellPtr (.slice a_k k.length c_k) (i * 8), strV (k.getD (i) default).1, .bool (k.getD (i) default).2.1, .bool (k.getD (i) default).2.2.1, .bool (k.getD (i) default).2.2.2.1, .int .i64 (k.getD (i) default).2.2.2.2.1, .int .i64 (k.getD (i) default).2.2.2.2.2.1, .int .i64 (k.getD (i) default).2.2.2.2.2.2.1, .int .i64 (k.getD (i) default).2.2.2.2.2.2.2, .int .i64 ((i + 1 : Nat) : Int)]
@[reducible] noncomputable def sg (M : Mem) (l : List Mt) (a_l : Option Addr) (c_l : Nat) (k : List Mt) (a_k : Option Addr) (c_k : Nat) (i : Nat) : Sig := sgL M (vL l a_l c_l k a_k c_k i)
set_option maxHeartbeats 4000000 in
theorem any (W : World) {v_l : Value} {l : List Mt} (hl : Arr (heapOf W) 8 encM v_l l) {v_k : Value} {k : List Mt} (hk : Arr (heapOf W) 8 encM v_k k) (hn : l.length ≤ 1000000) : Calls Tryd.prog 38 #[v_l, v_k] W fun e w' => e = .returned (.bool (decide (l = k))) ∧ Low W.heap.size W w' := by
  obtain ⟨a_l, c_l, rfl⟩ := hl.slice
  obtain ⟨a_k, c_k, rfl⟩ := hk.slice
  refine @walk_enter (sg (heapOf W) l a_l c_l k a_k c_k 0) Tryd.prog 38 Tryd.f38 body [symv 0, symv 1] (slots [(1, symv 1), (0, symv 0)]) N W _ Tryd.func38 (by kernel_rfl) (by kernel_rfl) (by kernel_rfl) (by kernel_rfl) (immW_sgL W _) fun a hh => ?_
  letI := (sg (heapOf W) l a_l c_l k a_k c_k 0)
  by_cases h0 : ((l.length : Nat) : Int) = ((k.length : Nat) : Int)
  · refine walk_to (F := F0) (T := C0) (fuel := 1000) (d := 10) mixed (allF_cons (FactOk.arrLen hl rfl rfl underMl rfl rfl) (allF_cons (FactOk.arrLen hk rfl rfl underMl rfl rfl) (allF_cons (FactOk.bi rfl rfl rfl rfl rfl rfl (nboolF (by omega))) allF_nil))) allC_nil ?_ hh
    -- LOOP 0: slot 4 = .bool false is written in the loop: left out
    refine ostop_loop (sg := (fun i => sg (heapOf W) l a_l c_l k a_k c_k i)) (fun i => i ≤ l.length ∧ ∀ j, j < i → l.getD j default = k.getD j default) (fun i => l.length - i) 0 e0 (meet_cons (by first | exact meetV (.slice a_l l.length c_l) rfl rfl | exact meetI rfl rfl (by omega)) (meet_cons (by first | exact meetV (.slice a_k k.length c_k) rfl rfl | exact meetI rfl rfl (by omega)) (meet_cons (by first | rfl | exact meetInt (by omega)) (meet_cons (by first | exact meetV (.int .i64 ((l.length : Nat) : Int)) rfl rfl | exact meetI rfl rfl (by omega)) meet_nil)))) (fun _ _ h => h) (by exact ⟨Nat.zero_le _, fun j h => absurd h (Nat.not_lt_zero _)⟩) ?_
    intro i hI aC w hh
    letI := (sg (heapOf W) l a_l c_l k a_k c_k i)
    by_cases p0 : ((i : Nat) : Int) < ((l.length : Nat) : Int)
    · by_cases p1 : (l.getD (i) default) = (k.getD (i) default)
      · refine walk_to (F := F1) (T := C1) (fuel := 1000) (d := 10) mixed (allF_cons (FactOk.bi rfl rfl rfl rfl rfl rfl (boolT (by omega))) (allF_cons (FactOk.arrIxa hl (show i < l.length by omega) rfl rfl rfl underMl sizeM rfl rfl rfl) (allF_cons (FactOk.arrLd hl (getSome (show i < l.length by omega)) rfl rfl aggM sizeM rfl rfl rfl) (allF_cons (FactOk.arrIxa hk (show i < k.length by omega) rfl rfl rfl underMl sizeM rfl rfl rfl) (allF_cons (FactOk.arrLd hk (getSome (show i < k.length by omega)) rfl rfl aggM sizeM rfl rfl rfl) (allF_cons (neM rfl rfl rfl rfl (by rw [decide_eq_true p1]; rfl)) (allF_cons (FactOk.bi rfl rfl rfl rfl rfl rfl (intI (by omega) (by omega) (by omega))) allF_nil))))))) allC_nil ?_ hh
        exact ostop_backM (s1 := (sg (heapOf W) l a_l c_l k a_k c_k i)) (sg := (fun i => sg (heapOf W) l a_l c_l k a_k c_k i)) (I := fun i => i ≤ l.length ∧ ∀ j, j < i → l.getD j default = k.getD j default) (μ := fun i => l.length - i) (x := i) (i + 1) e1 (meet_cons (by first | exact meetV (.slice a_l l.length c_l) rfl rfl | exact meetI rfl rfl (by omega)) (meet_cons (by first | exact meetV (.slice a_k k.length c_k) rfl rfl | exact meetI rfl rfl (by omega)) (meet_cons (by first | exact meetV (.int .i64 ((i + 1 : Nat) : Int)) rfl rfl | exact meetI rfl rfl (by omega)) (meet_cons (by first | exact meetV (.int .i64 ((l.length : Nat) : Int)) rfl rfl | exact meetI rfl rfl (by omega)) meet_nil)))) (fun _ _ h => h) (by exact ⟨by omega, fun j h => by rcases Nat.lt_or_ge j i with h1 | h1; exact hI.2 j h1; obtain rfl : j = i := (by omega); assumption⟩) (by (try dsimp only); omega)
      · refine walk_to (F := F2) (T := C2) (fuel := 1000) (d := 10) mixed (allF_cons (FactOk.bi rfl rfl rfl rfl rfl rfl (boolT (by omega))) (allF_cons (FactOk.arrIxa hl (show i < l.length by omega) rfl rfl rfl underMl sizeM rfl rfl rfl) (allF_cons (FactOk.arrLd hl (getSome (show i < l.length by omega)) rfl rfl aggM sizeM rfl rfl rfl) (allF_cons (FactOk.arrIxa hk (show i < k.length by omega) rfl rfl rfl underMl sizeM rfl rfl rfl) (allF_cons (FactOk.arrLd hk (getSome (show i < k.length by omega)) rfl rfl aggM sizeM rfl rfl rfl) (allF_cons (neM rfl rfl rfl rfl (by rw [decide_eq_false p1]; rfl)) allF_nil)))))) allC_nil ?_ hh
        refine walk_leave (F := F3) (T := C3) (fuel := 1000) (d := 10) mixed allF_nil allC_nil ?_
        exact ostop_end e2 fun w2 hLow hIn => ⟨(by first | (rw [decide_eq_false (fun h : l = k => by subst h; omega)]; rfl) | (rw [decide_eq_false (fun h : l = k => by subst h; exact absurd rfl (by assumption))]; rfl) | (rw [decide_eq_true (eqM_all (by omega) (fun j hj => hI.2 j (by omega)))]; rfl)), hLow⟩   -- returns .bool false
    · refine walk_to (F := F4) (T := C4) (fuel := 1000) (d := 10) mixed (allF_cons (FactOk.bi rfl rfl rfl rfl rfl rfl (boolF (by omega))) allF_nil) allC_nil ?_ hh
      refine walk_leave (F := F3) (T := C3) (fuel := 1000) (d := 10) mixed allF_nil allC_nil ?_
      exact ostop_end e3 fun w2 hLow hIn => ⟨(by first | (rw [decide_eq_false (fun h : l = k => by subst h; omega)]; rfl) | (rw [decide_eq_false (fun h : l = k => by subst h; exact absurd rfl (by assumption))]; rfl) | (rw [decide_eq_true (eqM_all (by omega) (fun j hj => hI.2 j (by omega)))]; rfl)), hLow⟩   -- returns .bool true
  · refine walk_to (F := F5) (T := C5) (fuel := 1000) (d := 10) mixed (allF_cons (FactOk.arrLen hl rfl rfl underMl rfl rfl) (allF_cons (FactOk.arrLen hk rfl rfl underMl rfl rfl) (allF_cons (FactOk.bi rfl rfl rfl rfl rfl rfl (nboolT (by omega))) allF_nil))) allC_nil ?_ hh
    exact ostop_end e4 fun w2 hLow hIn => ⟨(by first | (rw [decide_eq_false (fun h : l = k => by subst h; omega)]; rfl) | (rw [decide_eq_false (fun h : l = k => by subst h; exact absurd rfl (by assumption))]; rfl) | (rw [decide_eq_true (eqM_all (by omega) (fun j hj => hI.2 j (by omega)))]; rfl)), hLow⟩   -- returns .bool false
end EqG
namespace RSameG
noncomputable def body : Code := (Tryd.f16.body).getD .skip
def N : Nat := 26
noncomputable abbrev at' (N : Nat) (F : List (FOp × Value)) (C : List (FuncId × List Value × Value)) (c : Code) (s : ASt) : Option Stop := evalTo Tryd.prog F C N 1000 10 c s
noncomputable abbrev leave' (N : Nat) (F : List (FOp × Value)) (C : List (FuncId × List Value × Value)) (ks : List KI) (o : Option Stop) : Option Stop := evalLeave Tryd.prog F C N 1000 10 ks o
noncomputable abbrev unr' (N : Nat) (F : List (FOp × Value)) (C : List (FuncId × List Value × Value)) (m : Nat) (o : Option Stop) : Option Stop := evalUnroll Tryd.prog F C N 1000 10 m o
noncomputable abbrev res' (N : Nat) (F : List (FOp × Value)) (C : List (FuncId × List Value × Value)) (ks : List KI) (x : AX) (s : ASt) : Option Stop := evalRes Tryd.prog F C N 1000 10 ks x s
noncomputable abbrev ops' (N : Nat) (F : List (FOp × Value)) (C : List (FuncId × List Value × Value)) (r : List Oper) (ops : Array Oper) (ks : List KI) (s : ASt) : Option Stop := evalOps Tryd.prog F C N 1000 10 r ops ks s
def s0 : ASt := { sl := slots [(1, symv 1), (0, symv 0)], ms := [], A := start }
def F0 : List (FOp × Value) := [(.len #[22] 3 (symv 0), symv 2),
    (.len #[22] 3 (symv 1), symv 3),
    (.bin .neq 3 (symv 2) (symv 3), .bool false)]
def C0 : List (FuncId × List Value × Value) := []
noncomputable def bks0 : List Bk := []
def head0 : Sl := slots [(5, symv 4), (1, symv 1), (0, symv 0)]
noncomputable abbrev at0 := at' 26 F0 C0 body s0
theorem e0 : headObs head0 bks0 at0 = some [(symv 0, symv 0), (symv 1, symv 1), (.int .i64 0, symv 4)] := by kernel_rfl
def F1 : List (FOp × Value) := [(.len #[22] 3 (symv 0), symv 2),
    (.bin .lss 3 (symv 4) (symv 2), .bool true),
    (.ixa 22 (symv 0) (symv 4), symv 5),
    (.ld 35 (symv 5), .agg ⟨[symv 6, symv 7, symv 8, symv 9, symv 10, symv 11, symv 12, symv 13]⟩),
    (.ixa 22 (symv 1) (symv 4), symv 14),
    (.ld 35 (symv 14), .agg ⟨[symv 15, symv 16, symv 17, symv 18, symv 19, symv 20, symv 21, symv 22]⟩),
    (.bin .neq 35 (.agg ⟨[symv 6, symv 7, symv 8, symv 9, symv 10, symv 11, symv 12, symv 13]⟩) (.agg ⟨[symv 15, symv 16, symv 17, symv 18, symv 19, symv 20, symv 21, symv 22]⟩), .bool false),
    (.bin .add 3 (symv 4) (.int .i64 1), symv 23)]
def C1 : List (FuncId × List Value × Value) := []
theorem e1 : backObs head0 bks0 (at' 26 F1 C1 (stopCode at0) (headSt head0 bks0)) = some [(symv 0, symv 0), (symv 1, symv 1), (symv 23, symv 4)] := by kernel_rfl
def F2 : List (FOp × Value) := [(.len #[22] 3 (symv 0), symv 2),
    (.bin .lss 3 (symv 4) (symv 2), .bool true),
    (.ixa 22 (symv 0) (symv 4), symv 5),
    (.ld 35 (symv 5), .agg ⟨[symv 6, symv 7, symv 8, symv 9, symv 10, symv 11, symv 12, symv 13]⟩),
    (.ixa 22 (symv 1) (symv 4), symv 14),
    (.ld 35 (symv 14), .agg ⟨[symv 15, symv 16, symv 17, symv 18, symv 19, symv 20, symv 21, symv 22]⟩),
    (.bin .neq 35 (.agg ⟨[symv 6, symv 7, symv 8, symv 9, symv 10, symv 11, symv 12, symv 13]⟩) (.agg ⟨[symv 15, symv 16, symv 17, symv 18, symv 19, symv 20, symv 21, symv 22]⟩), .bool true)]
def C2 : List (FuncId × List Value × Value) := []
def F3 : List (FOp × Value) := []
def C3 : List (FuncId × List Value × Value) := []
theorem e2 : endVal Tryd.prog Tryd.f16 (leave' 26 F3 C3 (stopKs at0) (at' 26 F2 C2 (stopCode at0) (headSt head0 bks0))) = some (.bool false) := by kernel_rfl
def F4 : List (FOp × Value) := [(.len #[22] 3 (symv 0), symv 2),
    (.bin .lss 3 (symv 4) (symv 2), .bool false)]
def C4 : List (FuncId × List Value × Value) := []
theorem e3 : endVal Tryd.prog Tryd.f16 (leave' 26 F3 C3 (stopKs at0) (at' 26 F4 C4 (stopCode at0) (headSt head0 bks0))) = some (.bool true) := by kernel_rfl
def F5 : List (FOp × Value) := [(.len #[22] 3 (symv 0), symv 2),
    (.len #[22] 3 (symv 1), symv 3),
    (.bin .neq 3 (symv 2) (symv 3), .bool true)]
def C5 : List (FuncId × List Value × Value) := []
theorem e4 : endVal Tryd.prog Tryd.f16 (at' 26 F5 C5 body s0) = some (.bool false) := by kernel_rfl
@[reducible] noncomputable def vL (l : List Mt) (a_l : Option Addr) (c_l : Nat) (k : List Mt) (a_k : Option Addr) (c_k : Nat) (i : Nat) : List Value := [.slice a_l l.length c_l, .slice a_k k.length c_k, .int .i64 ((l.length : Nat) : Int), .int .i64 ((k.length : Nat) : Int), .int .i64 ((i : Nat) : Int), cellPtr (.slice a_l l.length c_l) (i * 8), strV (l.getD (i) default).1, .bool (l.getD (i) default).2.1, .bool (l.getD (i) default).2.2.1, .bool (l.getD (i) default).2.2.2.1, .int .i64 (l.getD (i) default).2.2.2.2.1, .int .i64 (l.getD (i) default).2.2.2.2.2.1, .int .i64 (l.getD (i) default).2.2.2.2.2.2.1, .int .i64 (l.getD (i) default).2.2.2.2.2.2.2, cellPtr (.slice a_k k.length c_k) (i * 8), strV (k.getD (i) default).1, .bool (k.getD (i) default).2.1, .bool (k.getD (i) default).2.2.1, .bool (k.getD (i) default).2.2.2.1, .int .i64 (k.getD (i) default).2.2.2.2.1, .int .i64 (k.getD (i) default).2.2.2.2.2.1, .int .i64 (k.getD (i) default).2.2.2.2.2.2.1, .int .i64 (k.getD (i) default).2.2.2.2.2.2.2, .int .i64 ((i + 1 : Nat) : Int)]
@[reducible] noncomputable def sg (M : Mem) (l : List Mt) (a_l : Option Addr) (c_l : Nat) (k : List Mt) (a_k : Option Addr) (c_k : Nat) (i : Nat) : Sig := sgL M (vL l a_l c_l k a_k c_k i)
set_option maxHeartbeats 4000000 in
theorem any (W : World) {v_l : Value} {l : List Mt} (hl : Arr (heapOf W) 8 encM v_l l) {v_k : Value} {k : List Mt} (hk : Arr (heapOf W) 8 encM v_k k) (hn : l.length ≤ 1000000) : Calls Tryd.prog 16 #[v_l, v_k] W fun e w' => e = .returned (.bool (decide (l = k))) ∧ Low W.heap.size W w' := by
  obtain ⟨a_l, c_l, rfl⟩ := hl.slice
  obtain ⟨a_k, c_k, rfl⟩ := hk.slice
  refine @walk_enter (sg (heapOf W) l a_l c_l k a_k c_k 0) Tryd.prog 16 Tryd.f16 body [symv 0, symv 1] (slots [(1, symv 1), (0, symv 0)]) N W _ Tryd.func16 (by kernel_rfl) (by kernel_rfl) (by kernel_rfl) (by kernel_rfl) (immW_sgL W _) fun a hh => ?_
  letI := (sg (heapOf W) l a_l c_l k a_k c_k 0)
  by_cases h0 : ((l.length : Nat) : Int) = ((k.length : Nat) : Int)
  · refine walk_to (F := F0) (T := C0) (fuel := 1000) (d := 10) mixed (allF_cons (FactOk.arrLen hl rfl rfl underMl rfl rfl) (allF_cons (FactOk.arrLen hk rfl rfl underMl rfl rfl) (allF_cons (FactOk.bi rfl rfl rfl rfl rfl rfl (nboolF (by omega))) allF_nil))) allC_nil ?_ hh
    -- LOOP 0: slot 4 = .bool false is written in the loop: left out
    refine ostop_loop (sg := (fun i => sg (heapOf W) l a_l c_l k a_k c_k i)) (fun i => i ≤ l.length ∧ ∀ j, j < i → l.getD j default = k.getD j default) (fun i => l.length - i) 0 e0 (meet_cons (by first | exact meetV (.slice a_l l.length c_l) rfl rfl | exact meetI rfl rfl (by omega)) (meet_cons (by first | exact meetV (.slice a_k k.length c_k) rfl rfl | exact meetI rfl rfl (by omega)) (meet_cons (by first | rfl | exact meetInt (by omega)) meet_nil))) (fun _ _ h => h) (by exact ⟨Nat.zero_le _, fun j h => absurd h (Nat.not_lt_zero _)⟩) ?_
    intro i hI aC w hh
    letI := (sg (heapOf W) l a_l c_l k a_k c_k i)
    by_cases p0 : ((i : Nat) : Int) < ((l.length : Nat) : Int)
    · by_cases p1 : (l.getD (i) default) = (k.getD (i) default)
      · refine walk_to (F := F1) (T := C1) (fuel := 1000) (d := 10) mixed (allF_cons (FactOk.arrLen hl rfl rfl underMl rfl rfl) (allF_cons (FactOk.bi rfl rfl rfl rfl rfl rfl (boolT (by omega))) (allF_cons (FactOk.arrIxa hl (show i < l.length by omega) rfl rfl rfl underMl sizeM rfl rfl rfl) (allF_cons (FactOk.arrLd hl (getSome (show i < l.length by omega)) rfl rfl aggM sizeM rfl rfl rfl) (allF_cons (FactOk.arrIxa hk (show i < k.length by omega) rfl rfl rfl underMl sizeM rfl rfl rfl) (allF_cons (FactOk.arrLd hk (getSome (show i < k.length by omega)) rfl rfl aggM sizeM rfl rfl rfl) (allF_cons (neM rfl rfl rfl rfl (by rw [decide_eq_true p1]; rfl)) (allF_cons (FactOk.bi rfl rfl rfl rfl rfl rfl (intI (by omega) (by omega) (by omega))) allF_nil)))))))) allC_nil ?_ hh
        exact ostop_backM (s1 := (sg (heapOf W) l a_l c_l k a_k c_k i)) (sg := (fun i => sg (heapOf W) l a_l c_l k a_k c_k i)) (I := fun i => i ≤ l.length ∧ ∀ j, j < i → l.getD j default = k.getD j default) (μ := fun i => l.length - i) (x := i) (i + 1) e1 (meet_cons (by first | exact meetV (.slice a_l l.length c_l) rfl rfl | exact meetI rfl rfl (by omega)) (meet_cons (by first | exact meetV (.slice a_k k.length c_k) rfl rfl | exact meetI rfl rfl (by omega)) (meet_cons (by first | exact meetV (.int .i64 ((i + 1 : Nat) : Int)) rfl rfl | exact meetI rfl rfl (by omega)) meet_nil))) (fun _ _ h => h) (by exact ⟨by omega, fun j h => by rcases Nat.lt_or_ge j i with h1 | h1; exact hI.2 j h1; obtain rfl : j = i := (by omega); assumption⟩) (by (try dsimp only); omega)
      · refine walk_to (F := F2) (T := C2) (fuel := 1000) (d := 10) mixed (allF_cons (FactOk.arrLen hl rfl rfl underMl rfl rfl) (allF_cons (FactOk.bi rfl rfl rfl rfl rfl rfl (boolT (by omega))) (allF_cons (FactOk.arrIxa hl (show i < l.length by omega) rfl rfl rfl underMl sizeM rfl rfl rfl) (allF_cons (FactOk.arrLd hl (getSome (show i < l.length by omega)) rfl rfl aggM sizeM rfl rfl rfl) (allF_cons (FactOk.arrIxa hk (show i < k.length by omega) rfl rfl rfl underMl sizeM rfl rfl rfl) (allF_cons (FactOk.arrLd hk (getSome (show i < k.length by omega)) rfl rfl aggM sizeM rfl rfl rfl) (allF_cons (neM rfl rfl rfl rfl (by rw [decide_eq_false p1]; rfl)) allF_nil))))))) allC_nil ?_ hh
        refine walk_leave (F := F3) (T := C3) (fuel := 1000) (d := 10) mixed allF_nil allC_nil ?_
        exact ostop_end e2 fun w2 hLow hIn => ⟨(by first | (rw [decide_eq_false (fun h : l = k => by subst h; omega)]; rfl) | (rw [decide_eq_false (fun h : l = k => by subst h; exact absurd rfl (by assumption))]; rfl) | (rw [decide_eq_true (eqM_all (by omega) (fun j hj => hI.2 j (by omega)))]; rfl)), hLow⟩   -- returns .bool false
    · refine walk_to (F := F4) (T := C4) (fuel := 1000) (d := 10) mixed (allF_cons (FactOk.arrLen hl rfl rfl underMl rfl rfl) (allF_cons (FactOk.bi rfl rfl rfl rfl rfl rfl (boolF (by omega))) allF_nil)) allC_nil ?_ hh
      refine walk_leave (F := F3) (T := C3) (fuel := 1000) (d := 10) mixed allF_nil allC_nil ?_
      exact ostop_end e3 fun w2 hLow hIn => ⟨(by first | (rw [decide_eq_false (fun h : l = k => by subst h; omega)]; rfl) | (rw [decide_eq_false (fun h : l = k => by subst h; exact absurd rfl (by assumption))]; rfl) | (rw [decide_eq_true (eqM_all (by omega) (fun j hj => hI.2 j (by omega)))]; rfl)), hLow⟩   -- returns .bool true
  · refine walk_to (F := F5) (T := C5) (fuel := 1000) (d := 10) mixed (allF_cons (FactOk.arrLen hl rfl rfl underMl rfl rfl) (allF_cons (FactOk.arrLen hk rfl rfl underMl rfl rfl) (allF_cons (FactOk.bi rfl rfl rfl rfl rfl rfl (nboolT (by omega))) allF_nil))) allC_nil ?_ hh
    exact ostop_end e4 fun w2 hLow hIn => ⟨(by first | (rw [decide_eq_false (fun h : l = k => by subst h; omega)]; rfl) | (rw [decide_eq_false (fun h : l = k => by subst h; exact absurd rfl (by assumption))]; rfl) | (rw [decide_eq_true (eqM_all (by omega) (fun j hj => hI.2 j (by omega)))]; rfl)), hLow⟩   -- returns .bool false
end RSameG
end AE
end Go.Proofs.YtblhndlmgibljaaDoor

/- Print and equality, of the program and of the reference, as facts. -/
namespace Go.Proofs.YtblhndlmgibljaaDoor
open Go Go.Proofs Go.RowKit
namespace AE
variable [Sig]
theorem callPrt {x r : Value} {u : Value} {l : List Mt} (hp : plainSL [x] = true) (hr : plainS r = true) (ev : interpL [x] = [u]) (er : interp r = .tuple #[strV (prtM l).1, .int .i64 (prtM l).2]) (hl : Arr Sig.imm 8 encM u l) (hK : KindsM Sig.imm) : CallFactOk Tryd.prog (13, [x], r) :=
  callAny (a := #[u]) hp hr ev er fun w hw => PrtG.any w (hl.mono hw) (hK.mono hw)
theorem callRSameT {x y : Value} {u v : Value} {l k : List Mt} (hp : plainSL [x, y] = true) (ev : interpL [x, y] = [u, v]) (hl : Arr Sig.imm 8 encM u l) (hk : Arr Sig.imm 8 encM v k) (hn : l.length ≤ 1000000) (h : l = k) : CallFactOk Tryd.prog (16, [x, y], .bool true) :=
  callAny (a := #[u, v]) hp rfl ev rfl fun w hw => (RSameG.any w (hl.mono hw) (hk.mono hw) hn).mono fun e w' h' => by rw [decide_eq_true h] at h'; exact h'
theorem callRSameF {x y : Value} {u v : Value} {l k : List Mt} (hp : plainSL [x, y] = true) (ev : interpL [x, y] = [u, v]) (hl : Arr Sig.imm 8 encM u l) (hk : Arr Sig.imm 8 encM v k) (hn : l.length ≤ 1000000) (h : ¬ l = k) : CallFactOk Tryd.prog (16, [x, y], .bool false) :=
  callAny (a := #[u, v]) hp rfl ev rfl fun w hw => (RSameG.any w (hl.mono hw) (hk.mono hw) hn).mono fun e w' h' => by rw [decide_eq_false h] at h'; exact h'
end AE
end Go.Proofs.YtblhndlmgibljaaDoor

/- What is printed and parsed: the laws' last steps. -/
namespace Go.Proofs.YtblhndlmgibljaaDoor
open Go Go.Proofs Go.RowKit
namespace AE
theorem prtM_err (l : List Mt) : (prtM l).2 = (chkM l).2 := by
  unfold prtM
  split
  · rename_i h; exact h.symm
  · rfl
theorem prtM_no {l : List Mt} (h : ¬ (chkM l).2 = 0) : (prtM l).1 = [] := by unfold prtM; rw [if_neg h]
theorem prtM_txt {l : List Mt} (h : (chkM l).2 = 0) : (prtM l).1 = txtTo l l.length := by unfold prtM; rw [if_pos h]
theorem prtM_len {l : List Mt} (h : (chkM l).2 = 0) : (prtM l).1.length ≤ 100000 := by
  rw [prtM_txt h]
  have := txtTo_len h (Nat.le_refl _)
  have := (chkM_zero h).1
  omega
theorem par_prt {l : List Mt} (h : (chkM l).2 = 0) : parM (prtM l).1 = (l, 0, 0) := by rw [prtM_txt h]; exact par_print h
end AE
end Go.Proofs.YtblhndlmgibljaaDoor

/- The walk of MaterialRoundTrips. -/
namespace Go.Proofs.YtblhndlmgibljaaDoor
open Go Go.Proofs Go.RowKit
set_option maxRecDepth 100000
namespace AE
namespace RtG
noncomputable def body : Code := (Tryd.f6.body).getD .skip
def N : Nat := 58
noncomputable abbrev at' (N : Nat) (F : List (FOp × Value)) (C : List (FuncId × List Value × Value)) (c : Code) (s : ASt) : Option Stop := evalTo Tryd.prog F C N 1000 10 c s
noncomputable abbrev leave' (N : Nat) (F : List (FOp × Value)) (C : List (FuncId × List Value × Value)) (ks : List KI) (o : Option Stop) : Option Stop := evalLeave Tryd.prog F C N 1000 10 ks o
noncomputable abbrev unr' (N : Nat) (F : List (FOp × Value)) (C : List (FuncId × List Value × Value)) (m : Nat) (o : Option Stop) : Option Stop := evalUnroll Tryd.prog F C N 1000 10 m o
noncomputable abbrev res' (N : Nat) (F : List (FOp × Value)) (C : List (FuncId × List Value × Value)) (ks : List KI) (x : AX) (s : ASt) : Option Stop := evalRes Tryd.prog F C N 1000 10 ks x s
noncomputable abbrev ops' (N : Nat) (F : List (FOp × Value)) (C : List (FuncId × List Value × Value)) (r : List Oper) (ops : Array Oper) (ks : List KI) (s : ASt) : Option Stop := evalOps Tryd.prog F C N 1000 10 r ops ks s
def s0 : ASt := { sl := slots [(0, symv 0)], ms := [], A := start }
def F0 : List (FOp × Value) := [(.bin .neq 25 (symv 2) (symv 4), .bool false),
    (.bin .neq 25 (symv 2) (.int .i64 0), .bool false)]
def C0 : List (FuncId × List Value × Value) := [(9, [], .bool true),
    (10, [symv 0], .bool true),
    (11, [symv 0], .tuple ⟨[symv 1, symv 2]⟩),
    (13, [symv 0], .tuple ⟨[symv 3, symv 4]⟩)]
theorem e0 : callAt Tryd.prog (at' 58 F0 C0 body s0) = some (27, [symv 3]) := by kernel_rfl
noncomputable abbrev so0 := at' 58 F0 C0 body s0
noncomputable def bk0 : List Bk := []
def hd0 : Sl := slots [(3, .bool true), (2, .bool false), (0, symv 0)]
def hp0 : Sl := match aput 58 hd0 (some 39) (.tuple ⟨[symv 5, symv 6, symv 7]⟩) with | some s => s | none => .nil
theorem e1 : trAll (stopSt so0) hd0 bk0 = some [(symv 0, symv 0)] := by kernel_rfl
theorem e2 : aput 58 hd0 (stopDst so0) (.tuple ⟨[symv 5, symv 6, symv 7]⟩) = some hp0 := by kernel_rfl
noncomputable def po0 : Array Oper := opsAt body [1, 1, 1, 1, 1, 1, 1, 0]
noncomputable def pk0 : List KI := ksAt body [1, 1, 1, 1, 1, 1, 1, 0] []
noncomputable def pr0 : List Oper := po0.toList.drop 2
theorem e3 : stopRest so0 = pr0 := by kernel_rfl
theorem e4 : stopOps so0 = po0 := by kernel_rfl
theorem e5 : stopKs so0 = pk0 := by kernel_rfl
def F1 : List (FOp × Value) := [(.bin .eql 3 (symv 6) (.int .i64 0), .bool true),
    (.bin .eql 25 (symv 7) (.int .i64 0), .bool true)]
def C1 : List (FuncId × List Value × Value) := [(16, [symv 0, symv 5], .bool true)]
theorem e6 : endVal Tryd.prog Tryd.f6 (ops' 58 F1 C1 pr0 po0 pk0 { sl := hp0, ms := [], A := mkAS bk0 }) = some (.bool true) := by kernel_rfl
def F2 : List (FOp × Value) := [(.bin .eql 3 (symv 6) (.int .i64 0), .bool true),
    (.bin .eql 25 (symv 7) (.int .i64 0), .bool false)]
def C2 : List (FuncId × List Value × Value) := [(16, [symv 0, symv 5], .bool true)]
theorem e7 : endVal Tryd.prog Tryd.f6 (ops' 58 F2 C2 pr0 po0 pk0 { sl := hp0, ms := [], A := mkAS bk0 }) = some (.bool false) := by kernel_rfl
def F3 : List (FOp × Value) := [(.bin .eql 3 (symv 6) (.int .i64 0), .bool false)]
def C3 : List (FuncId × List Value × Value) := [(16, [symv 0, symv 5], .bool true)]
theorem e8 : endVal Tryd.prog Tryd.f6 (ops' 58 F3 C3 pr0 po0 pk0 { sl := hp0, ms := [], A := mkAS bk0 }) = some (.bool false) := by kernel_rfl
def F4 : List (FOp × Value) := []
def C4 : List (FuncId × List Value × Value) := [(16, [symv 0, symv 5], .bool false)]
theorem e9 : endVal Tryd.prog Tryd.f6 (ops' 58 F4 C4 pr0 po0 pk0 { sl := hp0, ms := [], A := mkAS bk0 }) = some (.bool false) := by kernel_rfl
def F5 : List (FOp × Value) := [(.bin .neq 25 (symv 2) (symv 4), .bool false),
    (.bin .neq 25 (symv 2) (.int .i64 0), .bool true),
    (.bin .eql 9 (symv 3) (strV []), .bool true)]
def C5 : List (FuncId × List Value × Value) := [(9, [], .bool true),
    (10, [symv 0], .bool true),
    (11, [symv 0], .tuple ⟨[symv 1, symv 2]⟩),
    (13, [symv 0], .tuple ⟨[symv 3, symv 4]⟩)]
theorem e10 : endVal Tryd.prog Tryd.f6 (at' 58 F5 C5 body s0) = some (.bool true) := by kernel_rfl
def F6 : List (FOp × Value) := [(.bin .neq 25 (symv 2) (symv 4), .bool false),
    (.bin .neq 25 (symv 2) (.int .i64 0), .bool true),
    (.bin .eql 9 (symv 3) (strV []), .bool false)]
def C6 : List (FuncId × List Value × Value) := [(9, [], .bool true),
    (10, [symv 0], .bool true),
    (11, [symv 0], .tuple ⟨[symv 1, symv 2]⟩),
    (13, [symv 0], .tuple ⟨[symv 3, symv 4]⟩)]
theorem e11 : endVal Tryd.prog Tryd.f6 (at' 58 F6 C6 body s0) = some (.bool false) := by kernel_rfl
def F7 : List (FOp × Value) := [(.bin .neq 25 (symv 2) (symv 4), .bool true)]
def C7 : List (FuncId × List Value × Value) := [(9, [], .bool true),
    (10, [symv 0], .bool true),
    (11, [symv 0], .tuple ⟨[symv 1, symv 2]⟩),
    (13, [symv 0], .tuple ⟨[symv 3, symv 4]⟩)]
theorem e12 : endVal Tryd.prog Tryd.f6 (at' 58 F7 C7 body s0) = some (.bool false) := by kernel_rfl
def F8 : List (FOp × Value) := []
def C8 : List (FuncId × List Value × Value) := [(9, [], .bool true),
    (10, [symv 0], .bool false)]
theorem e13 : endVal Tryd.prog Tryd.f6 (at' 58 F8 C8 body s0) = some (.bool true) := by kernel_rfl
@[reducible] noncomputable def vL (l : List Mt) (a_l : Option Addr) (c_l : Nat) (b0 : List Mt) (a0 : Option Addr) (c0 : Nat) : List Value := [.slice a_l l.length c_l, .int .i64 (chkM l).1, .int .i64 (chkM l).2, strV (prtM l).1, .int .i64 (prtM l).2, .slice a0 b0.length c0, .int .i64 (parM (prtM l).1).2.1, .int .i64 (parM (prtM l).1).2.2]
@[reducible] noncomputable def sg (M : Mem) (l : List Mt) (a_l : Option Addr) (c_l : Nat) (b0 : List Mt) (a0 : Option Addr) (c0 : Nat) : Sig := sgL M (vL l a_l c_l b0 a0 c0)
set_option maxHeartbeats 4000000 in
theorem any (W : World) {v_l : Value} {l : List Mt} (hl : Arr (heapOf W) 8 encM v_l l) (hK : KindsM (heapOf W)) (hL : LibM (heapOf W)) : Calls Tryd.prog 6 #[v_l] W fun e w' => e = .returned (.bool true) ∧ Low W.heap.size W w' := by
  obtain ⟨a_l, c_l, rfl⟩ := hl.slice
  refine @walk_enter (sg (heapOf W) l a_l c_l [] none 0) Tryd.prog 6 Tryd.f6 body [symv 0] (slots [(0, symv 0)]) N W _ Tryd.func6 (by kernel_rfl) (by kernel_rfl) (by kernel_rfl) (by kernel_rfl) (immW_sgL W _) fun a hh => ?_
  letI := (sg (heapOf W) l a_l c_l [] none 0)
  have hpe := prtM_err l
  by_cases h0 : fewM l
  · by_cases h1 : (chkM l).2 = (prtM l).2
    · by_cases h2 : (chkM l).2 = 0
      · refine walk_to (F := F0) (T := C0) (fuel := 1000) (d := 10) mixed (allF_cons (FactOk.bi rfl rfl rfl rfl rfl rfl (nboolF (by omega))) (allF_cons (FactOk.bi rfl rfl rfl rfl rfl rfl (nboolF (by omega))) allF_nil)) (allC_cons (callSanity hK) (allC_cons (callFewT rfl rfl hl h0) (allC_cons (callChkP rfl rfl rfl rfl hl (by first | exact hK | exact hK.mono (by assumption))) (allC_cons (callPrt rfl rfl rfl rfl hl (by first | exact hK | exact hK.mono (by assumption))) allC_nil)))) ?_ hh
        obtain ⟨b0, hb0⟩ : ∃ b0 : List Mt, b0 = (parM (prtM l).1).1 := ⟨_, rfl⟩
        refine ostop_callT (Y := Option Addr × Nat) (vals2 := fun yV => (vL l a_l c_l b0 yV.1 yV.2)) (T := none) (R := fun y M' => OArr W.heap.size M' elM 8 encM (.slice y.1 b0.length y.2) b0 ∧ Keeps (heapOf W) M' none) e0 e1 e2 rfl (fun w hw hB => by subst hb0; exact parOf hw hB (fun y M' => rfl) (con_par ((hK.mono (fun _ _ h => h)).mono hw) ((hL.mono (fun _ _ h => h)).mono hw) (prtM_len (by omega)))) (fun _ _ _ => (meet_cons (by exact meetV (.slice a_l l.length c_l) rfl rfl) meet_nil)) ?_
        intro M0 ⟨a0, c0⟩ hR0 aC w hh
        obtain ⟨hO0, hK0⟩ := hR0
        have hcp0 := hO0.cap
        have hM0 := hK0.up (fun _ h => by cases h) (Nat.le_refl _) (fun _ _ h => h)
        letI := (sg M0 l a_l c_l b0 a0 c0)
        by_cases p0 : l = b0
        · by_cases p1 : (parM (prtM l).1).2.1 = 0
          · by_cases p2 : (parM (prtM l).1).2.2 = 0
            · refine walk_opsE e3 e4 e5 (F := F1) (T := C1) (fuel := 1000) (d := 10) mixed (allF_cons (FactOk.bi rfl rfl rfl rfl rfl rfl (boolT (by omega))) (allF_cons (FactOk.bi rfl rfl rfl rfl rfl rfl (boolT (by omega))) allF_nil)) (allC_cons (callRSameT rfl rfl (hl.mono hM0) (hO0.arr hkM) (fewM_len h0) p0) allC_nil) ?_ hh
              exact ostop_end e6 fun w2 hLow hIn => ⟨(by first | rfl | (exfalso; first | (exact absurd hpe.symm (by assumption)) | (have hp := par_prt (l := l) (by assumption); first | exact absurd (show l = b0 by rw [hb0, hp]) (by assumption) | exact absurd (show (parM (prtM l).1).2.1 = 0 by rw [hp]) (by assumption) | exact absurd (show (parM (prtM l).1).2.2 = 0 by rw [hp]) (by assumption)) | (exact absurd (prtM_no (by assumption)) (by assumption)))), hLow⟩   -- returns .bool true
            · refine walk_opsE e3 e4 e5 (F := F2) (T := C2) (fuel := 1000) (d := 10) mixed (allF_cons (FactOk.bi rfl rfl rfl rfl rfl rfl (boolT (by omega))) (allF_cons (FactOk.bi rfl rfl rfl rfl rfl rfl (boolF (by omega))) allF_nil)) (allC_cons (callRSameT rfl rfl (hl.mono hM0) (hO0.arr hkM) (fewM_len h0) p0) allC_nil) ?_ hh
              exact ostop_end e7 fun w2 hLow hIn => ⟨(by first | rfl | (exfalso; first | (exact absurd hpe.symm (by assumption)) | (have hp := par_prt (l := l) (by assumption); first | exact absurd (show l = b0 by rw [hb0, hp]) (by assumption) | exact absurd (show (parM (prtM l).1).2.1 = 0 by rw [hp]) (by assumption) | exact absurd (show (parM (prtM l).1).2.2 = 0 by rw [hp]) (by assumption)) | (exact absurd (prtM_no (by assumption)) (by assumption)))), hLow⟩   -- returns .bool false
          · refine walk_opsE e3 e4 e5 (F := F3) (T := C3) (fuel := 1000) (d := 10) mixed (allF_cons (FactOk.bi rfl rfl rfl rfl rfl rfl (boolF (by omega))) allF_nil) (allC_cons (callRSameT rfl rfl (hl.mono hM0) (hO0.arr hkM) (fewM_len h0) p0) allC_nil) ?_ hh
            exact ostop_end e8 fun w2 hLow hIn => ⟨(by first | rfl | (exfalso; first | (exact absurd hpe.symm (by assumption)) | (have hp := par_prt (l := l) (by assumption); first | exact absurd (show l = b0 by rw [hb0, hp]) (by assumption) | exact absurd (show (parM (prtM l).1).2.1 = 0 by rw [hp]) (by assumption) | exact absurd (show (parM (prtM l).1).2.2 = 0 by rw [hp]) (by assumption)) | (exact absurd (prtM_no (by assumption)) (by assumption)))), hLow⟩   -- returns .bool false
        · refine walk_opsE e3 e4 e5 (F := F4) (T := C4) (fuel := 1000) (d := 10) mixed allF_nil (allC_cons (callRSameF rfl rfl (hl.mono hM0) (hO0.arr hkM) (fewM_len h0) p0) allC_nil) ?_ hh
          exact ostop_end e9 fun w2 hLow hIn => ⟨(by first | rfl | (exfalso; first | (exact absurd hpe.symm (by assumption)) | (have hp := par_prt (l := l) (by assumption); first | exact absurd (show l = b0 by rw [hb0, hp]) (by assumption) | exact absurd (show (parM (prtM l).1).2.1 = 0 by rw [hp]) (by assumption) | exact absurd (show (parM (prtM l).1).2.2 = 0 by rw [hp]) (by assumption)) | (exact absurd (prtM_no (by assumption)) (by assumption)))), hLow⟩   -- returns .bool false
      · by_cases h3 : (prtM l).1 = ([] : Bs)
        · refine walk_to (F := F5) (T := C5) (fuel := 1000) (d := 10) mixed (allF_cons (FactOk.bi rfl rfl rfl rfl rfl rfl (nboolF (by omega))) (allF_cons (FactOk.bi rfl rfl rfl rfl rfl rfl (nboolT (by omega))) (allF_cons (FactOk.strEqT rfl rfl rfl rfl h3) allF_nil))) (allC_cons (callSanity hK) (allC_cons (callFewT rfl rfl hl h0) (allC_cons (callChkP rfl rfl rfl rfl hl (by first | exact hK | exact hK.mono (by assumption))) (allC_cons (callPrt rfl rfl rfl rfl hl (by first | exact hK | exact hK.mono (by assumption))) allC_nil)))) ?_ hh
          exact ostop_end e10 fun w2 hLow hIn => ⟨(by first | rfl | (exfalso; first | (exact absurd hpe.symm (by assumption)) | (have hp := par_prt (l := l) (by assumption); first | exact absurd (show l = b0 by rw [hb0, hp]) (by assumption) | exact absurd (show (parM (prtM l).1).2.1 = 0 by rw [hp]) (by assumption) | exact absurd (show (parM (prtM l).1).2.2 = 0 by rw [hp]) (by assumption)) | (exact absurd (prtM_no (by assumption)) (by assumption)))), hLow⟩   -- returns .bool true
        · refine walk_to (F := F6) (T := C6) (fuel := 1000) (d := 10) mixed (allF_cons (FactOk.bi rfl rfl rfl rfl rfl rfl (nboolF (by omega))) (allF_cons (FactOk.bi rfl rfl rfl rfl rfl rfl (nboolT (by omega))) (allF_cons (FactOk.strEqF rfl rfl rfl rfl h3) allF_nil))) (allC_cons (callSanity hK) (allC_cons (callFewT rfl rfl hl h0) (allC_cons (callChkP rfl rfl rfl rfl hl (by first | exact hK | exact hK.mono (by assumption))) (allC_cons (callPrt rfl rfl rfl rfl hl (by first | exact hK | exact hK.mono (by assumption))) allC_nil)))) ?_ hh
          exact ostop_end e11 fun w2 hLow hIn => ⟨(by first | rfl | (exfalso; first | (exact absurd hpe.symm (by assumption)) | (have hp := par_prt (l := l) (by assumption); first | exact absurd (show l = b0 by rw [hb0, hp]) (by assumption) | exact absurd (show (parM (prtM l).1).2.1 = 0 by rw [hp]) (by assumption) | exact absurd (show (parM (prtM l).1).2.2 = 0 by rw [hp]) (by assumption)) | (exact absurd (prtM_no (by assumption)) (by assumption)))), hLow⟩   -- returns .bool false
    · refine walk_to (F := F7) (T := C7) (fuel := 1000) (d := 10) mixed (allF_cons (FactOk.bi rfl rfl rfl rfl rfl rfl (nboolT (by omega))) allF_nil) (allC_cons (callSanity hK) (allC_cons (callFewT rfl rfl hl h0) (allC_cons (callChkP rfl rfl rfl rfl hl (by first | exact hK | exact hK.mono (by assumption))) (allC_cons (callPrt rfl rfl rfl rfl hl (by first | exact hK | exact hK.mono (by assumption))) allC_nil)))) ?_ hh
      exact ostop_end e12 fun w2 hLow hIn => ⟨(by first | rfl | (exfalso; first | (exact absurd hpe.symm (by assumption)) | (have hp := par_prt (l := l) (by assumption); first | exact absurd (show l = b0 by rw [hb0, hp]) (by assumption) | exact absurd (show (parM (prtM l).1).2.1 = 0 by rw [hp]) (by assumption) | exact absurd (show (parM (prtM l).1).2.2 = 0 by rw [hp]) (by assumption)) | (exact absurd (prtM_no (by assumption)) (by assumption)))), hLow⟩   -- returns .bool false
  · refine walk_to (F := F8) (T := C8) (fuel := 1000) (d := 10) mixed allF_nil (allC_cons (callSanity hK) (allC_cons (callFewF rfl rfl hl h0) allC_nil)) ?_ hh
    exact ostop_end e13 fun w2 hLow hIn => ⟨(by first | rfl | (exfalso; first | (exact absurd hpe.symm (by assumption)) | (have hp := par_prt (l := l) (by assumption); first | exact absurd (show l = b0 by rw [hb0, hp]) (by assumption) | exact absurd (show (parM (prtM l).1).2.1 = 0 by rw [hp]) (by assumption) | exact absurd (show (parM (prtM l).1).2.2 = 0 by rw [hp]) (by assumption)) | (exact absurd (prtM_no (by assumption)) (by assumption)))), hLow⟩   -- returns .bool true
end RtG
end AE
end Go.Proofs.YtblhndlmgibljaaDoor

namespace Go.Proofs.YtblhndlmgibljaaDoor
open Go Go.ChangeShapes Go.WideShapes Go.ChangeAt Go.RowKit
set_option maxRecDepth 100000

theorem materialRoundTrips_laid (os : Os) (args : Array Value) : laidMetH Tryd.prog Rows.materialRoundTripsRow.laid ((World.laidAll Tryd.prog os Rows.materialRoundTripsRow.laid).forCall (fun _ _ => 0) ⟨#[], args, []⟩).memory := by
  rw [MakeChecks.laidMetH_plain _ _ _ (by kernel_rfl)]
  exact laidMet_laidAll _ (by kernel_rfl) (by kernel_rfl)

theorem materialRoundTrips_lifted (os : Os) (started : os.Started) (H : Type) (enc : TypeId × Value → H) :
    ReturnsInHanded {} Tryd.checked os 6 .any (fun w args => (Rows.materialRoundTripsSpec.pre enc Tryd.prog Tryd.f6 [] false w args ∧ laidMetH Tryd.prog Rows.materialRoundTripsRow.laid w) ∧ sizedMet enc Tryd.prog Tryd.f6 (OpenSpec.ofChange Rows.materialRoundTripsSpec) false w args)
      (Rows.materialRoundTripsSpec.post enc Tryd.prog Tryd.f6 false true false false) := by
  refine change_and_shaped (C := Tryd.checked) (X := fun w _ => laidMetH Tryd.prog Rows.materialRoundTripsRow.laid w) (fun _ _ _ hh h => h.of_heap hh) own started (by kernel_rfl) Tryd.func6
    (ChangeSpec.witness_shaped (enc := enc) (C := Tryd.checked) (os := os) (X := fun w _ => laidMetH Tryd.prog Rows.materialRoundTripsRow.laid w) false (World.laidAll Tryd.prog os Rows.materialRoundTripsRow.laid) #[.slice none 0 0] 8 (World.laidAll_os _ _ _)
      (World.shaped_of_ZipB (by kernel_rfl) (by kernel_rfl)) (by kernel_rfl) (by kernel_rfl) (by kernel_rfl) (materialRoundTrips_laid os _)) ?_
  intro W base args ds gs before hval0 hW _ _ hL hsh _
  have hval : ∀ (j : Nat) t v, Tryd.f6.params[j]? = some t → args[j]? = some v → Value.okWide Tryd.prog W .any base t v := hval0
  have hW' := hW
  obtain ⟨p, q, hA0, hV, rfl, _, _⟩ := hW
  have hA : DataW.TrodAll enc Tryd.prog W 0 (fun _ => true) true Tryd.f6.params.toList args.toList ds p := hA0
  rw [Tryd.params6] at hA hval
  have hAk := hA
  obtain ⟨v0, d0, rfl, rfl, h0⟩ := trodAll_one hA
  obtain ⟨rfl, rfl⟩ := trodVars_none hV
  obtain ⟨l0, hl0⟩ := open_mats (hval 0 22 v0 rfl rfl) h0
  simp only [List.append_nil] at hW'
  have hlt : ∀ x ∈ p, x.block < W.heap.size := fun x hx => by simpa using hW'.lt x hx
  refine (AE.RtG.any W hl0 (kinds_of_laid hL rfl) (lib_of_laid hL rfl rfl rfl hsh)).mono fun e W' ⟨he, hb⟩ => ?_
  subst he
  exact ⟨_, rfl, _, _, _, [], p, [], hW', trodAll_mk1 (shut_bool Tryd.underlying4 _), trodAll_below laidOut hb.below _ _ _ _ (by kernel_rfl) hAk hlt, rfl, hb.below.frame _, fun h => by cases h⟩

theorem materialRoundTrips_row : Rows.MaterialRoundTripsSaid :=
  OpenClaim.holds_of_wide 6 Tryd.f6 rfl rfl rfl rfl rfl rfl rfl ⟨rfl, rfl, rfl, rfl, rfl⟩ rfl rfl rfl rfl rfl (by kernel_rfl) Tryd.func6 (by kernel_rfl)
    (of_decide_eq_true (by kernel_rfl)) (by unfold Func.isWrapper; first | (rw [if_pos (by decide +kernel)]; kernel_rfl) | (rw [if_neg (by decide +kernel)]; exact ⟨rfl, rfl⟩))
    (fun os started H enc _ => materialRoundTrips_lifted os started H enc)

theorem materialRoundTrips_card : Rows.MaterialRoundTripsCardSaid :=
  Claim7.holds_tied_plain_at .later [] [.data, .data, .data, .data, .sentinel, .sentinel, .widerDeep, .pinned] true (true, "5b99cfd04ffd96155c5f917b94db44dc153867f375f91dbfcdfa1d858789f768") true materialRoundTrips_row (fun _ h => by cases h) (by kernel_rfl) (fun _ h => by cases h) materialRoundTrips_row_tie rfl ⟨rfl, rfl⟩ (by kernel_rfl) rfl
    (fun f fn hf hfn => by
      obtain rfl : f = 6 := Option.some.inj ((show Tryd.prog.funcNamed "voxel/voxellaw06.MaterialRoundTrips" = some 6 by kernel_rfl).symm.trans hf) |>.symm
      obtain rfl : fn = Tryd.f6 := (Option.some.inj (Tryd.func6.symm.trans hfn)).symm
      exact ⟨by kernel_rfl, fun j t ht => by
        rw [Tryd.params6] at ht
        have hm := Array.mem_of_getElem? ht
        have hall : (Tryd.f6.params.toList.all fun u => !Tryd.prog.wantsStandIn u) = true := by kernel_rfl
        rw [Tryd.params6] at hall
        have hw := List.all_eq_true.1 hall t (by simpa using hm)
        exact (show Tryd.prog.wantsStandIn t = false by simpa using hw)⟩)
    (by kernel_rfl)
#print axioms materialRoundTrips_card

end Go.Proofs.YtblhndlmgibljaaDoor

/- Proved: the tied card of StampComparesAsSpecified: for all stamps the law returns true, and its arguments read as they did. No condition beyond the own cells of the row. -/
import Derived.Test.YtheaofepenbcgaaGreatDoorCmpAsCard3
import Derived.Test.YtheaofepenbcgaaGreatDoorTie
import Derived.Test.YtheaofepenbcgaaGreatDoorCards

/- stamp.Orderly for all lists -/
namespace Go.Proofs.YtheaofepenbcgaaGreatDoor
open Go Go.Proofs Go.RowKit
namespace AE
-- stops at: a call with an effect
-- stops at: a call with an effect
namespace OrderlyG
noncomputable def body : Code := (Tryz.f14.body).getD .skip
def N : Nat := 68
noncomputable abbrev at' (N : Nat) (F : List (FOp × Value)) (C : List (FuncId × List Value × Value)) (c : Code) (s : ASt) : Option Stop := evalTo Tryz.prog F C N 1000 10 c s
noncomputable abbrev leave' (N : Nat) (F : List (FOp × Value)) (C : List (FuncId × List Value × Value)) (ks : List KI) (o : Option Stop) : Option Stop := evalLeave Tryz.prog F C N 1000 10 ks o
noncomputable abbrev unr' (N : Nat) (F : List (FOp × Value)) (C : List (FuncId × List Value × Value)) (m : Nat) (o : Option Stop) : Option Stop := evalUnroll Tryz.prog F C N 1000 10 m o
noncomputable abbrev res' (N : Nat) (F : List (FOp × Value)) (C : List (FuncId × List Value × Value)) (ks : List KI) (x : AX) (s : ASt) : Option Stop := evalRes Tryz.prog F C N 1000 10 ks x s
noncomputable abbrev ops' (N : Nat) (F : List (FOp × Value)) (C : List (FuncId × List Value × Value)) (r : List Oper) (ops : Array Oper) (ks : List KI) (s : ASt) : Option Stop := evalOps Tryz.prog F C N 1000 10 r ops ks s
def s0 : ASt := { sl := slots [(0, symv 0)], ms := [], A := start }
def F0 : List (FOp × Value) := []
def C0 : List (FuncId × List Value × Value) := []
set_option maxRecDepth 100000 in
theorem e0 : callAt Tryz.prog (at' 68 F0 C0 body s0) = some (27, [symv 0]) := by kernel_rfl
noncomputable abbrev so0 := at' 68 F0 C0 body s0
noncomputable def bk0 : List Bk := []
def hd0 : Sl := slots [(2, .bool false)]
def hp0 : Sl := match aput 68 hd0 (some 8) (symv 1) with | some s => s | none => .nil
set_option maxRecDepth 100000 in
theorem e1 : trAll (stopSt so0) hd0 bk0 = some [] := by kernel_rfl
set_option maxRecDepth 100000 in
theorem e2 : aput 68 hd0 (stopDst so0) (symv 1) = some hp0 := by kernel_rfl
set_option maxRecDepth 100000 in
theorem e3 : callAt Tryz.prog (ops' 68 F0 C0 (stopRest so0) (stopOps so0) (stopKs so0) { sl := hp0, ms := [], A := mkAS bk0 }) = some (28, [symv 1, .func (.func 35) ⟨[]⟩ ⟨[]⟩]) := by kernel_rfl
noncomputable abbrev so1 := ops' 68 F0 C0 (stopRest so0) (stopOps so0) (stopKs so0) { sl := hp0, ms := [], A := mkAS bk0 }
noncomputable def bk1 : List Bk := []
def hd1 : Sl := slots [(3, symv 1), (2, .bool false)]
def hp1 : Sl := match aput 68 hd1 (some 10) (.tuple ⟨[]⟩) with | some s => s | none => .nil
set_option maxRecDepth 100000 in
theorem e4 : trAll (stopSt so1) hd1 bk1 = some [(symv 1, symv 1)] := by kernel_rfl
set_option maxRecDepth 100000 in
theorem e5 : aput 68 hd1 (stopDst so1) (.tuple ⟨[]⟩) = some hp1 := by kernel_rfl
def F1 : List (FOp × Value) := [(.len #[22] 3 (symv 1), symv 2)]
def C1 : List (FuncId × List Value × Value) := []
-- loop 0: slots [(13, .int .i64 0), (12, symv 2), (11, symv 1), (10, .tuple ⟨[]⟩), (3, symv 1), (2, .bool false)] blocks 0 ms [] []
noncomputable def bks0 : List Bk := []
def head0 : Sl := slots [(13, symv 3), (12, symv 2), (11, symv 1), (3, symv 1)]
noncomputable abbrev at0 := ops' 68 F1 C1 (stopRest so1) (stopOps so1) (stopKs so1) { sl := hp1, ms := [], A := mkAS bk1 }
set_option maxRecDepth 100000 in
theorem e6 : headObs head0 bks0 at0 = some [(symv 1, symv 1), (symv 1, symv 1), (.int .i64 0, symv 3), (symv 2, symv 2)] := by kernel_rfl
def F2 : List (FOp × Value) := [(.bin .lss 3 (symv 3) (symv 2), .bool true),
    (.ixa 22 (symv 1) (symv 3), symv 4),
    (.ld 24 (symv 4), .agg ⟨[symv 5, symv 6, symv 7, symv 8]⟩),
    (.bin .eql 3 (symv 3) (.int .i64 0), .bool true),
    (.bin .add 3 (symv 3) (.int .i64 1), symv 9)]
def C2 : List (FuncId × List Value × Value) := [(10, [.agg ⟨[symv 5, symv 6, symv 7, symv 8]⟩], .bool true)]
set_option maxRecDepth 100000 in
theorem e7 : backObs head0 bks0 (at' 68 F2 C2 (stopCode at0) (headSt head0 bks0)) = some [(symv 1, symv 1), (symv 1, symv 1), (symv 9, symv 3), (symv 2, symv 2)] := by kernel_rfl
def F3 : List (FOp × Value) := [(.bin .lss 3 (symv 3) (symv 2), .bool true),
    (.ixa 22 (symv 1) (symv 3), symv 4),
    (.ld 24 (symv 4), .agg ⟨[symv 5, symv 6, symv 7, symv 8]⟩),
    (.bin .eql 3 (symv 3) (.int .i64 0), .bool false),
    (.bin .sub 3 (symv 3) (.int .i64 1), symv 10),
    (.ixa 22 (symv 1) (symv 10), symv 11),
    (.ld 24 (symv 11), .agg ⟨[symv 12, symv 13, symv 14, symv 15]⟩),
    (.bin .eql 24 (.agg ⟨[symv 12, symv 13, symv 14, symv 15]⟩) (.agg ⟨[symv 5, symv 6, symv 7, symv 8]⟩), .bool true),
    (.bin .add 3 (symv 3) (.int .i64 1), symv 9)]
def C3 : List (FuncId × List Value × Value) := [(10, [.agg ⟨[symv 5, symv 6, symv 7, symv 8]⟩], .bool true)]
set_option maxRecDepth 100000 in
theorem e8 : backObs head0 bks0 (at' 68 F3 C3 (stopCode at0) (headSt head0 bks0)) = some [(symv 1, symv 1), (symv 1, symv 1), (symv 9, symv 3), (symv 2, symv 2)] := by kernel_rfl
def F4 : List (FOp × Value) := [(.bin .lss 3 (symv 3) (symv 2), .bool true),
    (.ixa 22 (symv 1) (symv 3), symv 4),
    (.ld 24 (symv 4), .agg ⟨[symv 5, symv 6, symv 7, symv 8]⟩),
    (.bin .eql 3 (symv 3) (.int .i64 0), .bool false),
    (.bin .sub 3 (symv 3) (.int .i64 1), symv 10),
    (.ixa 22 (symv 1) (symv 10), symv 11),
    (.ld 24 (symv 11), .agg ⟨[symv 12, symv 13, symv 14, symv 15]⟩),
    (.bin .eql 24 (.agg ⟨[symv 12, symv 13, symv 14, symv 15]⟩) (.agg ⟨[symv 5, symv 6, symv 7, symv 8]⟩), .bool false),
    (.fa 24 (symv 11) 2, symv 16),
    (.ld 3 (symv 16), symv 14),
    (.bin .neq 3 (symv 14) (symv 7), .bool false),
    (.bin .eql 3 (symv 15) (symv 8), .bool true)]
def C4 : List (FuncId × List Value × Value) := [(10, [.agg ⟨[symv 5, symv 6, symv 7, symv 8]⟩], .bool true)]
set_option maxRecDepth 100000 in
theorem e9 : endVal Tryz.prog Tryz.f14 (leave' 68 F0 C0 (stopKs at0) (at' 68 F4 C4 (stopCode at0) (headSt head0 bks0))) = some (.bool false) := by kernel_rfl
def F5 : List (FOp × Value) := [(.bin .lss 3 (symv 3) (symv 2), .bool true),
    (.ixa 22 (symv 1) (symv 3), symv 4),
    (.ld 24 (symv 4), .agg ⟨[symv 5, symv 6, symv 7, symv 8]⟩),
    (.bin .eql 3 (symv 3) (.int .i64 0), .bool false),
    (.bin .sub 3 (symv 3) (.int .i64 1), symv 10),
    (.ixa 22 (symv 1) (symv 10), symv 11),
    (.ld 24 (symv 11), .agg ⟨[symv 12, symv 13, symv 14, symv 15]⟩),
    (.bin .eql 24 (.agg ⟨[symv 12, symv 13, symv 14, symv 15]⟩) (.agg ⟨[symv 5, symv 6, symv 7, symv 8]⟩), .bool false),
    (.fa 24 (symv 11) 2, symv 16),
    (.ld 3 (symv 16), symv 14),
    (.bin .neq 3 (symv 14) (symv 7), .bool false),
    (.bin .eql 3 (symv 15) (symv 8), .bool false),
    (.bin .geq 3 (symv 13) (symv 6), .bool true)]
def C5 : List (FuncId × List Value × Value) := [(10, [.agg ⟨[symv 5, symv 6, symv 7, symv 8]⟩], .bool true)]
set_option maxRecDepth 100000 in
theorem e10 : endVal Tryz.prog Tryz.f14 (leave' 68 F0 C0 (stopKs at0) (at' 68 F5 C5 (stopCode at0) (headSt head0 bks0))) = some (.bool false) := by kernel_rfl
def F6 : List (FOp × Value) := [(.bin .lss 3 (symv 3) (symv 2), .bool true),
    (.ixa 22 (symv 1) (symv 3), symv 4),
    (.ld 24 (symv 4), .agg ⟨[symv 5, symv 6, symv 7, symv 8]⟩),
    (.bin .eql 3 (symv 3) (.int .i64 0), .bool false),
    (.bin .sub 3 (symv 3) (.int .i64 1), symv 10),
    (.ixa 22 (symv 1) (symv 10), symv 11),
    (.ld 24 (symv 11), .agg ⟨[symv 12, symv 13, symv 14, symv 15]⟩),
    (.bin .eql 24 (.agg ⟨[symv 12, symv 13, symv 14, symv 15]⟩) (.agg ⟨[symv 5, symv 6, symv 7, symv 8]⟩), .bool false),
    (.fa 24 (symv 11) 2, symv 16),
    (.ld 3 (symv 16), symv 14),
    (.bin .neq 3 (symv 14) (symv 7), .bool false),
    (.bin .eql 3 (symv 15) (symv 8), .bool false),
    (.bin .geq 3 (symv 13) (symv 6), .bool false),
    (.bin .gtr 3 (symv 12) (symv 5), .bool true)]
def C6 : List (FuncId × List Value × Value) := [(10, [.agg ⟨[symv 5, symv 6, symv 7, symv 8]⟩], .bool true)]
set_option maxRecDepth 100000 in
theorem e11 : endVal Tryz.prog Tryz.f14 (leave' 68 F0 C0 (stopKs at0) (at' 68 F6 C6 (stopCode at0) (headSt head0 bks0))) = some (.bool false) := by kernel_rfl
def F7 : List (FOp × Value) := [(.bin .lss 3 (symv 3) (symv 2), .bool true),
    (.ixa 22 (symv 1) (symv 3), symv 4),
    (.ld 24 (symv 4), .agg ⟨[symv 5, symv 6, symv 7, symv 8]⟩),
    (.bin .eql 3 (symv 3) (.int .i64 0), .bool false),
    (.bin .sub 3 (symv 3) (.int .i64 1), symv 10),
    (.ixa 22 (symv 1) (symv 10), symv 11),
    (.ld 24 (symv 11), .agg ⟨[symv 12, symv 13, symv 14, symv 15]⟩),
    (.bin .eql 24 (.agg ⟨[symv 12, symv 13, symv 14, symv 15]⟩) (.agg ⟨[symv 5, symv 6, symv 7, symv 8]⟩), .bool false),
    (.fa 24 (symv 11) 2, symv 16),
    (.ld 3 (symv 16), symv 14),
    (.bin .neq 3 (symv 14) (symv 7), .bool false),
    (.bin .eql 3 (symv 15) (symv 8), .bool false),
    (.bin .geq 3 (symv 13) (symv 6), .bool false),
    (.bin .gtr 3 (symv 12) (symv 5), .bool false),
    (.bin .add 3 (symv 3) (.int .i64 1), symv 9)]
def C7 : List (FuncId × List Value × Value) := [(10, [.agg ⟨[symv 5, symv 6, symv 7, symv 8]⟩], .bool true)]
set_option maxRecDepth 100000 in
theorem e12 : backObs head0 bks0 (at' 68 F7 C7 (stopCode at0) (headSt head0 bks0)) = some [(symv 1, symv 1), (symv 1, symv 1), (symv 9, symv 3), (symv 2, symv 2)] := by kernel_rfl
def F8 : List (FOp × Value) := [(.bin .lss 3 (symv 3) (symv 2), .bool true),
    (.ixa 22 (symv 1) (symv 3), symv 4),
    (.ld 24 (symv 4), .agg ⟨[symv 5, symv 6, symv 7, symv 8]⟩),
    (.bin .eql 3 (symv 3) (.int .i64 0), .bool false),
    (.bin .sub 3 (symv 3) (.int .i64 1), symv 10),
    (.ixa 22 (symv 1) (symv 10), symv 11),
    (.ld 24 (symv 11), .agg ⟨[symv 12, symv 13, symv 14, symv 15]⟩),
    (.bin .eql 24 (.agg ⟨[symv 12, symv 13, symv 14, symv 15]⟩) (.agg ⟨[symv 5, symv 6, symv 7, symv 8]⟩), .bool false),
    (.fa 24 (symv 11) 2, symv 16),
    (.ld 3 (symv 16), symv 14),
    (.bin .neq 3 (symv 14) (symv 7), .bool true),
    (.bin .add 3 (symv 3) (.int .i64 1), symv 9)]
def C8 : List (FuncId × List Value × Value) := [(10, [.agg ⟨[symv 5, symv 6, symv 7, symv 8]⟩], .bool true)]
set_option maxRecDepth 100000 in
theorem e13 : backObs head0 bks0 (at' 68 F8 C8 (stopCode at0) (headSt head0 bks0)) = some [(symv 1, symv 1), (symv 1, symv 1), (symv 9, symv 3), (symv 2, symv 2)] := by kernel_rfl
def F9 : List (FOp × Value) := [(.bin .lss 3 (symv 3) (symv 2), .bool true),
    (.ixa 22 (symv 1) (symv 3), symv 4),
    (.ld 24 (symv 4), .agg ⟨[symv 5, symv 6, symv 7, symv 8]⟩)]
def C9 : List (FuncId × List Value × Value) := [(10, [.agg ⟨[symv 5, symv 6, symv 7, symv 8]⟩], .bool false)]
set_option maxRecDepth 100000 in
theorem e14 : endVal Tryz.prog Tryz.f14 (leave' 68 F0 C0 (stopKs at0) (at' 68 F9 C9 (stopCode at0) (headSt head0 bks0))) = some (.bool false) := by kernel_rfl
def F10 : List (FOp × Value) := [(.bin .lss 3 (symv 3) (symv 2), .bool false)]
def C10 : List (FuncId × List Value × Value) := []
set_option maxRecDepth 100000 in
theorem e15 : endVal Tryz.prog Tryz.f14 (leave' 68 F0 C0 (stopKs at0) (at' 68 F10 C10 (stopCode at0) (headSt head0 bks0))) = some (.bool true) := by kernel_rfl
@[reducible] noncomputable def vL (l : List St) (a_l : Option Addr) (c_l : Nat) (i : Nat) (b0 : List St) (a0 : Option Addr) (c0 : Nat) (b1 : List St) : List Value := [.slice a_l l.length c_l, .slice a0 b0.length c0, .int .i64 ((b1.length : Nat) : Int), .int .i64 ((i : Nat) : Int), cellPtr (.slice a0 b0.length c0) (i * 4), .int .i64 (b1.getD (i) default).1, .int .i64 (b1.getD (i) default).2.1, .int .i64 (b1.getD (i) default).2.2.1, .int .i64 (b1.getD (i) default).2.2.2, .int .i64 ((i + 1 : Nat) : Int), .int .i64 (((i : Nat) : Int) - 1), cellPtr (.slice a0 b0.length c0) (((((i : Nat) : Int) - 1)).toNat * 4), .int .i64 (b1.getD (((((i : Nat) : Int) - 1)).toNat) default).1, .int .i64 (b1.getD (((((i : Nat) : Int) - 1)).toNat) default).2.1, .int .i64 (b1.getD (((((i : Nat) : Int) - 1)).toNat) default).2.2.1, .int .i64 (b1.getD (((((i : Nat) : Int) - 1)).toNat) default).2.2.2, cellPtr (.slice a0 b0.length c0) (((((i : Nat) : Int) - 1)).toNat * 4 + 2)]
@[reducible] noncomputable def sg (M : Mem) (l : List St) (a_l : Option Addr) (c_l : Nat) (i : Nat) (b0 : List St) (a0 : Option Addr) (c0 : Nat) (b1 : List St) : Sig := sgL M (vL l a_l c_l i b0 a0 c0 b1)
set_option maxHeartbeats 4000000 in
set_option maxRecDepth 100000 in
theorem any (W : World) {v_l : Value} {l : List St} (hl : Arr (heapOf W) 4 encS v_l l) (hn : l.length ≤ 100000) : Calls Tryz.prog 14 #[v_l] W fun e w' => e = .returned (.bool (ordB l)) ∧ Low W.heap.size W w' := by
  obtain ⟨a_l, c_l, rfl⟩ := hl.slice
  refine @walk_enter (sg (heapOf W) l a_l c_l 0 [] none 0 []) Tryz.prog 14 Tryz.f14 body [symv 0] (slots [(0, symv 0)]) N W _ Tryz.func14 (by kernel_rfl) (by kernel_rfl) (by kernel_rfl) (by kernel_rfl) (immW_sgL W _) fun a hh => ?_
  letI := (sg (heapOf W) l a_l c_l 0 [] none 0 [])
  refine walk_to (F := F0) (T := C0) (fuel := 1000) (d := 10) mixed allF_nil allC_nil ?_ hh
  obtain ⟨b0, hb0⟩ : ∃ b0 : List St, b0 = l := ⟨_, rfl⟩
  refine ostop_callT (Y := Option Addr × Nat) (vals2 := fun y => (vL l a_l c_l 0 b0 y.1 y.2 [])) (T := none) (R := fun y M' => OArr W.heap.size M' elS 4 encS (.slice y.1 b0.length y.2) b0 ∧ Keeps (heapOf W) M' none) e0 e1 e2 rfl (fun w hw hB => by subst hb0; exact newOf hw hB (fun y M' => rfl) (CloneG.any w (hl.mono hw) (by omega))) (fun _ _ _ => meet_nil) ?_
  intro M0 ⟨a0, c0⟩ hR0 a w hh
  obtain ⟨hO0, hK0⟩ := hR0
  have hM0 := hK0.up (fun _ h => by cases h) (Nat.le_refl _) (fun _ _ h => h)
  have hn0 : b0.length = l.length := by rw [hb0]; first | done | exact rfl
  letI := (sg M0 l a_l c_l 0 b0 a0 c0 [])
  refine walk_ops (F := F0) (T := C0) (fuel := 1000) (d := 10) mixed allF_nil allC_nil ?_ hh
  obtain ⟨b1, hb1⟩ : ∃ b1 : List St, b1 = sortO b0 := ⟨_, rfl⟩
  have hn1 : b1.length = b0.length := by rw [hb1]; first | done | exact sortO_len b0
  refine ostop_callT (Y := Unit) (vals2 := fun _ => (vL l a_l c_l 0 b0 a0 c0 b1)) (T := obl (.slice a0 b0.length c0)) (R := fun _ M' => OArr W.heap.size M' elS 4 encS (.slice a0 b0.length c0) b1 ∧ Keeps M0 M' (obl (.slice a0 b0.length c0))) e3 e4 e5 rfl (fun w hw hB => by subst hb1; exact inplOf (fun M' => rfl) (sortOrd hO0 hw hB (by omega))) (fun _ _ _ => (meet_cons (by exact meetV (.slice a0 b0.length c0) rfl rfl) meet_nil)) ?_
  intro M1 _ hR1 a w hh
  obtain ⟨hO1, hK1⟩ := hR1
  have hM1 := hK1.up (fun i h => (hO0.known i h).2) (Nat.le_refl _) hM0
  letI := (sg M1 l a_l c_l 0 b0 a0 c0 b1)
  refine walk_ops (F := F1) (T := C1) (fuel := 1000) (d := 10) mixed (allF_cons (FactOk.arrLen (hO1.arr hkS) rfl rfl under27 rfl rfl) allF_nil) allC_nil ?_ hh
  -- LOOP 0: slot 2 = .bool false is written in the loop: left out
  refine ostop_loop (sg := (fun i => sg M1 l a_l c_l i b0 a0 c0 b1)) (fun i => i ≤ b1.length ∧ (∀ j, j < i → okAt b1 j)) (fun i => b1.length - i) 0 e6 (meet_cons (by exact meetV (.slice a0 b0.length c0) rfl rfl) (meet_cons (by exact meetV (.slice a0 b0.length c0) rfl rfl) (meet_cons rfl (meet_cons (by exact meetV (.int .i64 ((b1.length : Nat) : Int)) rfl rfl) meet_nil)))) (fun _ _ h => h) (by exact ⟨Nat.zero_le _, fun j h => absurd h (Nat.not_lt_zero _)⟩) ?_
  intro i hI a w hh
  letI := (sg M1 l a_l c_l i b0 a0 c0 b1)
  have e1 : (((i : Nat) : Int) - 1).toNat = i - 1 := by omega
  by_cases r0 : ((i : Nat) : Int) < ((b1.length : Nat) : Int)
  · by_cases r1 : ValidP (b1.getD (i) default)
    · by_cases r2 : ((i : Nat) : Int) = 0
      · refine walk_to (F := F2) (T := C2) (fuel := 1000) (d := 10) mixed (allF_cons (FactOk.bi rfl rfl rfl rfl rfl rfl (boolT (by omega))) (allF_cons (FactOk.arrIxa (hO1.arr hkS) (show i < b1.length by omega) rfl rfl rfl under27 sizeSt rfl rfl rfl) (allF_cons (FactOk.arrLd (hO1.arr hkS) (getSome (show i < b1.length by omega)) rfl rfl aggSt sizeSt rfl rfl rfl) (allF_cons (FactOk.bi rfl rfl rfl rfl rfl rfl (boolT (by omega))) (allF_cons (FactOk.bi rfl rfl rfl rfl rfl rfl (intI (by omega) (by omega) (by omega))) allF_nil))))) (allC_cons (callValidT rfl rfl r1) allC_nil) ?_ hh
        exact ostop_back (sg := (fun i => sg M1 l a_l c_l i b0 a0 c0 b1)) (I := fun i => i ≤ b1.length ∧ (∀ j, j < i → okAt b1 j)) (μ := fun i => b1.length - i) (x := i) (i + 1) e7 (meet_cons (by exact meetV (.slice a0 b0.length c0) rfl rfl) (meet_cons (by exact meetV (.slice a0 b0.length c0) rfl rfl) (meet_cons (by exact meetV (.int .i64 ((i + 1 : Nat) : Int)) rfl rfl) (meet_cons (by exact meetV (.int .i64 ((b1.length : Nat) : Int)) rfl rfl) meet_nil)))) (fun _ _ h => h) (by exact ⟨by omega, fun j hj => by rcases Nat.lt_succ_iff_lt_or_eq.1 hj with h | rfl; exact hI.2 j h; simp only [e1] at *; exact ⟨r1, by first | exact .inl (by omega) | exact .inr (.inl r3) | exact .inr (.inr (.inl r4)) | exact .inr (.inr (.inr ⟨r5, by omega, by omega⟩))⟩⟩) (by (try dsimp only); omega)
      · by_cases r3 : (b1.getD (((((i : Nat) : Int) - 1)).toNat) default) = (b1.getD (i) default)
        · refine walk_to (F := F3) (T := C3) (fuel := 1000) (d := 10) mixed (allF_cons (FactOk.bi rfl rfl rfl rfl rfl rfl (boolT (by omega))) (allF_cons (FactOk.arrIxa (hO1.arr hkS) (show i < b1.length by omega) rfl rfl rfl under27 sizeSt rfl rfl rfl) (allF_cons (FactOk.arrLd (hO1.arr hkS) (getSome (show i < b1.length by omega)) rfl rfl aggSt sizeSt rfl rfl rfl) (allF_cons (FactOk.bi rfl rfl rfl rfl rfl rfl (boolF (by omega))) (allF_cons (FactOk.bi rfl rfl rfl rfl rfl rfl (intI (by omega) (by omega) (by omega))) (allF_cons (FactOk.arrIxa (hO1.arr hkS) (show ((((i : Nat) : Int) - 1)).toNat < b1.length by omega) rfl rfl rfl under27 sizeSt rfl (natI (by omega)) rfl) (allF_cons (FactOk.arrLd (hO1.arr hkS) (getSome (show ((((i : Nat) : Int) - 1)).toNat < b1.length by omega)) rfl rfl aggSt sizeSt rfl rfl rfl) (allF_cons (eqS rfl rfl rfl rfl (decide_eq_true r3).symm) (allF_cons (FactOk.bi rfl rfl rfl rfl rfl rfl (intI (by omega) (by omega) (by omega))) allF_nil))))))))) (allC_cons (callValidT rfl rfl r1) allC_nil) ?_ hh
          exact ostop_back (sg := (fun i => sg M1 l a_l c_l i b0 a0 c0 b1)) (I := fun i => i ≤ b1.length ∧ (∀ j, j < i → okAt b1 j)) (μ := fun i => b1.length - i) (x := i) (i + 1) e8 (meet_cons (by exact meetV (.slice a0 b0.length c0) rfl rfl) (meet_cons (by exact meetV (.slice a0 b0.length c0) rfl rfl) (meet_cons (by exact meetV (.int .i64 ((i + 1 : Nat) : Int)) rfl rfl) (meet_cons (by exact meetV (.int .i64 ((b1.length : Nat) : Int)) rfl rfl) meet_nil)))) (fun _ _ h => h) (by exact ⟨by omega, fun j hj => by rcases Nat.lt_succ_iff_lt_or_eq.1 hj with h | rfl; exact hI.2 j h; simp only [e1] at *; exact ⟨r1, by first | exact .inl (by omega) | exact .inr (.inl r3) | exact .inr (.inr (.inl r4)) | exact .inr (.inr (.inr ⟨r5, by omega, by omega⟩))⟩⟩) (by (try dsimp only); omega)
        · by_cases r4 : (b1.getD (((((i : Nat) : Int) - 1)).toNat) default).2.2.1 = (b1.getD (i) default).2.2.1
          · by_cases r5 : (b1.getD (((((i : Nat) : Int) - 1)).toNat) default).2.2.2 = (b1.getD (i) default).2.2.2
            · refine walk_to (F := F4) (T := C4) (fuel := 1000) (d := 10) mixed (allF_cons (FactOk.bi rfl rfl rfl rfl rfl rfl (boolT (by omega))) (allF_cons (FactOk.arrIxa (hO1.arr hkS) (show i < b1.length by omega) rfl rfl rfl under27 sizeSt rfl rfl rfl) (allF_cons (FactOk.arrLd (hO1.arr hkS) (getSome (show i < b1.length by omega)) rfl rfl aggSt sizeSt rfl rfl rfl) (allF_cons (FactOk.bi rfl rfl rfl rfl rfl rfl (boolF (by omega))) (allF_cons (FactOk.bi rfl rfl rfl rfl rfl rfl (intI (by omega) (by omega) (by omega))) (allF_cons (FactOk.arrIxa (hO1.arr hkS) (show ((((i : Nat) : Int) - 1)).toNat < b1.length by omega) rfl rfl rfl under27 sizeSt rfl (natI (by omega)) rfl) (allF_cons (FactOk.arrLd (hO1.arr hkS) (getSome (show ((((i : Nat) : Int) - 1)).toNat < b1.length by omega)) rfl rfl aggSt sizeSt rfl rfl rfl) (allF_cons (eqS rfl rfl rfl rfl (decide_eq_false r3).symm) (allF_cons (arrFa2 (hO1.arr hkS) (show ((((i : Nat) : Int) - 1)).toNat < b1.length by omega) rfl rfl rfl rfl) (allF_cons (FactOk.arrLd1 (j := 2) (hO1.arr hkS) (getSome (show ((((i : Nat) : Int) - 1)).toNat < b1.length by omega)) rfl rfl aggInt rfl rfl rfl rfl) (allF_cons (FactOk.bi rfl rfl rfl rfl rfl rfl (nboolF (by omega))) (allF_cons (FactOk.bi rfl rfl rfl rfl rfl rfl (boolT (by omega))) allF_nil)))))))))))) (allC_cons (callValidT rfl rfl r1) allC_nil) ?_ hh
              refine walk_leave (F := F0) (T := C0) (fuel := 1000) (d := 10) mixed allF_nil allC_nil ?_
              exact ostop_end e9 fun w2 hLow hIn => ⟨(by refine congrArg (fun z => Ending.returned (.bool z)) ?_; first | exact ordB_yes (hb1.trans (by rw [hb0])) (fun j hj => hI.2 j (by omega)) | (refine ordB_no (hb1.trans (by rw [hb0])) (show i < b1.length by omega) ?_; rintro ⟨v, h⟩; simp only [e1] at *; first | exact r1 v | (rcases h with h | h | h | ⟨h, h', h''⟩ <;> first | omega | exact r3 h | exact h r4 | exact h r5))), hLow⟩   -- returns .bool false
            · by_cases r6 : (b1.getD (i) default).2.1 ≤ (b1.getD (((((i : Nat) : Int) - 1)).toNat) default).2.1
              · refine walk_to (F := F5) (T := C5) (fuel := 1000) (d := 10) mixed (allF_cons (FactOk.bi rfl rfl rfl rfl rfl rfl (boolT (by omega))) (allF_cons (FactOk.arrIxa (hO1.arr hkS) (show i < b1.length by omega) rfl rfl rfl under27 sizeSt rfl rfl rfl) (allF_cons (FactOk.arrLd (hO1.arr hkS) (getSome (show i < b1.length by omega)) rfl rfl aggSt sizeSt rfl rfl rfl) (allF_cons (FactOk.bi rfl rfl rfl rfl rfl rfl (boolF (by omega))) (allF_cons (FactOk.bi rfl rfl rfl rfl rfl rfl (intI (by omega) (by omega) (by omega))) (allF_cons (FactOk.arrIxa (hO1.arr hkS) (show ((((i : Nat) : Int) - 1)).toNat < b1.length by omega) rfl rfl rfl under27 sizeSt rfl (natI (by omega)) rfl) (allF_cons (FactOk.arrLd (hO1.arr hkS) (getSome (show ((((i : Nat) : Int) - 1)).toNat < b1.length by omega)) rfl rfl aggSt sizeSt rfl rfl rfl) (allF_cons (eqS rfl rfl rfl rfl (decide_eq_false r3).symm) (allF_cons (arrFa2 (hO1.arr hkS) (show ((((i : Nat) : Int) - 1)).toNat < b1.length by omega) rfl rfl rfl rfl) (allF_cons (FactOk.arrLd1 (j := 2) (hO1.arr hkS) (getSome (show ((((i : Nat) : Int) - 1)).toNat < b1.length by omega)) rfl rfl aggInt rfl rfl rfl rfl) (allF_cons (FactOk.bi rfl rfl rfl rfl rfl rfl (nboolF (by omega))) (allF_cons (FactOk.bi rfl rfl rfl rfl rfl rfl (boolF (by omega))) (allF_cons (FactOk.bi rfl rfl rfl rfl rfl rfl (boolT (by omega))) allF_nil))))))))))))) (allC_cons (callValidT rfl rfl r1) allC_nil) ?_ hh
                refine walk_leave (F := F0) (T := C0) (fuel := 1000) (d := 10) mixed allF_nil allC_nil ?_
                exact ostop_end e10 fun w2 hLow hIn => ⟨(by refine congrArg (fun z => Ending.returned (.bool z)) ?_; first | exact ordB_yes (hb1.trans (by rw [hb0])) (fun j hj => hI.2 j (by omega)) | (refine ordB_no (hb1.trans (by rw [hb0])) (show i < b1.length by omega) ?_; rintro ⟨v, h⟩; simp only [e1] at *; first | exact r1 v | (rcases h with h | h | h | ⟨h, h', h''⟩ <;> first | omega | exact r3 h | exact h r4 | exact h r5))), hLow⟩   -- returns .bool false
              · by_cases r7 : (b1.getD (i) default).1 < (b1.getD (((((i : Nat) : Int) - 1)).toNat) default).1
                · refine walk_to (F := F6) (T := C6) (fuel := 1000) (d := 10) mixed (allF_cons (FactOk.bi rfl rfl rfl rfl rfl rfl (boolT (by omega))) (allF_cons (FactOk.arrIxa (hO1.arr hkS) (show i < b1.length by omega) rfl rfl rfl under27 sizeSt rfl rfl rfl) (allF_cons (FactOk.arrLd (hO1.arr hkS) (getSome (show i < b1.length by omega)) rfl rfl aggSt sizeSt rfl rfl rfl) (allF_cons (FactOk.bi rfl rfl rfl rfl rfl rfl (boolF (by omega))) (allF_cons (FactOk.bi rfl rfl rfl rfl rfl rfl (intI (by omega) (by omega) (by omega))) (allF_cons (FactOk.arrIxa (hO1.arr hkS) (show ((((i : Nat) : Int) - 1)).toNat < b1.length by omega) rfl rfl rfl under27 sizeSt rfl (natI (by omega)) rfl) (allF_cons (FactOk.arrLd (hO1.arr hkS) (getSome (show ((((i : Nat) : Int) - 1)).toNat < b1.length by omega)) rfl rfl aggSt sizeSt rfl rfl rfl) (allF_cons (eqS rfl rfl rfl rfl (decide_eq_false r3).symm) (allF_cons (arrFa2 (hO1.arr hkS) (show ((((i : Nat) : Int) - 1)).toNat < b1.length by omega) rfl rfl rfl rfl) (allF_cons (FactOk.arrLd1 (j := 2) (hO1.arr hkS) (getSome (show ((((i : Nat) : Int) - 1)).toNat < b1.length by omega)) rfl rfl aggInt rfl rfl rfl rfl) (allF_cons (FactOk.bi rfl rfl rfl rfl rfl rfl (nboolF (by omega))) (allF_cons (FactOk.bi rfl rfl rfl rfl rfl rfl (boolF (by omega))) (allF_cons (FactOk.bi rfl rfl rfl rfl rfl rfl (boolF (by omega))) (allF_cons (FactOk.bi rfl rfl rfl rfl rfl rfl (boolT (by omega))) allF_nil)))))))))))))) (allC_cons (callValidT rfl rfl r1) allC_nil) ?_ hh
                  refine walk_leave (F := F0) (T := C0) (fuel := 1000) (d := 10) mixed allF_nil allC_nil ?_
                  exact ostop_end e11 fun w2 hLow hIn => ⟨(by refine congrArg (fun z => Ending.returned (.bool z)) ?_; first | exact ordB_yes (hb1.trans (by rw [hb0])) (fun j hj => hI.2 j (by omega)) | (refine ordB_no (hb1.trans (by rw [hb0])) (show i < b1.length by omega) ?_; rintro ⟨v, h⟩; simp only [e1] at *; first | exact r1 v | (rcases h with h | h | h | ⟨h, h', h''⟩ <;> first | omega | exact r3 h | exact h r4 | exact h r5))), hLow⟩   -- returns .bool false
                · refine walk_to (F := F7) (T := C7) (fuel := 1000) (d := 10) mixed (allF_cons (FactOk.bi rfl rfl rfl rfl rfl rfl (boolT (by omega))) (allF_cons (FactOk.arrIxa (hO1.arr hkS) (show i < b1.length by omega) rfl rfl rfl under27 sizeSt rfl rfl rfl) (allF_cons (FactOk.arrLd (hO1.arr hkS) (getSome (show i < b1.length by omega)) rfl rfl aggSt sizeSt rfl rfl rfl) (allF_cons (FactOk.bi rfl rfl rfl rfl rfl rfl (boolF (by omega))) (allF_cons (FactOk.bi rfl rfl rfl rfl rfl rfl (intI (by omega) (by omega) (by omega))) (allF_cons (FactOk.arrIxa (hO1.arr hkS) (show ((((i : Nat) : Int) - 1)).toNat < b1.length by omega) rfl rfl rfl under27 sizeSt rfl (natI (by omega)) rfl) (allF_cons (FactOk.arrLd (hO1.arr hkS) (getSome (show ((((i : Nat) : Int) - 1)).toNat < b1.length by omega)) rfl rfl aggSt sizeSt rfl rfl rfl) (allF_cons (eqS rfl rfl rfl rfl (decide_eq_false r3).symm) (allF_cons (arrFa2 (hO1.arr hkS) (show ((((i : Nat) : Int) - 1)).toNat < b1.length by omega) rfl rfl rfl rfl) (allF_cons (FactOk.arrLd1 (j := 2) (hO1.arr hkS) (getSome (show ((((i : Nat) : Int) - 1)).toNat < b1.length by omega)) rfl rfl aggInt rfl rfl rfl rfl) (allF_cons (FactOk.bi rfl rfl rfl rfl rfl rfl (nboolF (by omega))) (allF_cons (FactOk.bi rfl rfl rfl rfl rfl rfl (boolF (by omega))) (allF_cons (FactOk.bi rfl rfl rfl rfl rfl rfl (boolF (by omega))) (allF_cons (FactOk.bi rfl rfl rfl rfl rfl rfl (boolF (by omega))) (allF_cons (FactOk.bi rfl rfl rfl rfl rfl rfl (intI (by omega) (by omega) (by omega))) allF_nil))))))))))))))) (allC_cons (callValidT rfl rfl r1) allC_nil) ?_ hh
                  exact ostop_back (sg := (fun i => sg M1 l a_l c_l i b0 a0 c0 b1)) (I := fun i => i ≤ b1.length ∧ (∀ j, j < i → okAt b1 j)) (μ := fun i => b1.length - i) (x := i) (i + 1) e12 (meet_cons (by exact meetV (.slice a0 b0.length c0) rfl rfl) (meet_cons (by exact meetV (.slice a0 b0.length c0) rfl rfl) (meet_cons (by exact meetV (.int .i64 ((i + 1 : Nat) : Int)) rfl rfl) (meet_cons (by exact meetV (.int .i64 ((b1.length : Nat) : Int)) rfl rfl) meet_nil)))) (fun _ _ h => h) (by exact ⟨by omega, fun j hj => by rcases Nat.lt_succ_iff_lt_or_eq.1 hj with h | rfl; exact hI.2 j h; simp only [e1] at *; exact ⟨r1, by first | exact .inl (by omega) | exact .inr (.inl r3) | exact .inr (.inr (.inl r4)) | exact .inr (.inr (.inr ⟨r5, by omega, by omega⟩))⟩⟩) (by (try dsimp only); omega)
          · refine walk_to (F := F8) (T := C8) (fuel := 1000) (d := 10) mixed (allF_cons (FactOk.bi rfl rfl rfl rfl rfl rfl (boolT (by omega))) (allF_cons (FactOk.arrIxa (hO1.arr hkS) (show i < b1.length by omega) rfl rfl rfl under27 sizeSt rfl rfl rfl) (allF_cons (FactOk.arrLd (hO1.arr hkS) (getSome (show i < b1.length by omega)) rfl rfl aggSt sizeSt rfl rfl rfl) (allF_cons (FactOk.bi rfl rfl rfl rfl rfl rfl (boolF (by omega))) (allF_cons (FactOk.bi rfl rfl rfl rfl rfl rfl (intI (by omega) (by omega) (by omega))) (allF_cons (FactOk.arrIxa (hO1.arr hkS) (show ((((i : Nat) : Int) - 1)).toNat < b1.length by omega) rfl rfl rfl under27 sizeSt rfl (natI (by omega)) rfl) (allF_cons (FactOk.arrLd (hO1.arr hkS) (getSome (show ((((i : Nat) : Int) - 1)).toNat < b1.length by omega)) rfl rfl aggSt sizeSt rfl rfl rfl) (allF_cons (eqS rfl rfl rfl rfl (decide_eq_false r3).symm) (allF_cons (arrFa2 (hO1.arr hkS) (show ((((i : Nat) : Int) - 1)).toNat < b1.length by omega) rfl rfl rfl rfl) (allF_cons (FactOk.arrLd1 (j := 2) (hO1.arr hkS) (getSome (show ((((i : Nat) : Int) - 1)).toNat < b1.length by omega)) rfl rfl aggInt rfl rfl rfl rfl) (allF_cons (FactOk.bi rfl rfl rfl rfl rfl rfl (nboolT (by omega))) (allF_cons (FactOk.bi rfl rfl rfl rfl rfl rfl (intI (by omega) (by omega) (by omega))) allF_nil)))))))))))) (allC_cons (callValidT rfl rfl r1) allC_nil) ?_ hh
            exact ostop_back (sg := (fun i => sg M1 l a_l c_l i b0 a0 c0 b1)) (I := fun i => i ≤ b1.length ∧ (∀ j, j < i → okAt b1 j)) (μ := fun i => b1.length - i) (x := i) (i + 1) e13 (meet_cons (by exact meetV (.slice a0 b0.length c0) rfl rfl) (meet_cons (by exact meetV (.slice a0 b0.length c0) rfl rfl) (meet_cons (by exact meetV (.int .i64 ((i + 1 : Nat) : Int)) rfl rfl) (meet_cons (by exact meetV (.int .i64 ((b1.length : Nat) : Int)) rfl rfl) meet_nil)))) (fun _ _ h => h) (by exact ⟨by omega, fun j hj => by rcases Nat.lt_succ_iff_lt_or_eq.1 hj with h | rfl; exact hI.2 j h; simp only [e1] at *; exact ⟨r1, by first | exact .inl (by omega) | exact .inr (.inl r3) | exact .inr (.inr (.inl r4)) | exact .inr (.inr (.inr ⟨r5, by omega, by omega⟩))⟩⟩) (by (try dsimp only); omega)
    · refine walk_to (F := F9) (T := C9) (fuel := 1000) (d := 10) mixed (allF_cons (FactOk.bi rfl rfl rfl rfl rfl rfl (boolT (by omega))) (allF_cons (FactOk.arrIxa (hO1.arr hkS) (show i < b1.length by omega) rfl rfl rfl under27 sizeSt rfl rfl rfl) (allF_cons (FactOk.arrLd (hO1.arr hkS) (getSome (show i < b1.length by omega)) rfl rfl aggSt sizeSt rfl rfl rfl) allF_nil))) (allC_cons (callValidF rfl rfl r1) allC_nil) ?_ hh
      refine walk_leave (F := F0) (T := C0) (fuel := 1000) (d := 10) mixed allF_nil allC_nil ?_
      exact ostop_end e14 fun w2 hLow hIn => ⟨(by refine congrArg (fun z => Ending.returned (.bool z)) ?_; first | exact ordB_yes (hb1.trans (by rw [hb0])) (fun j hj => hI.2 j (by omega)) | (refine ordB_no (hb1.trans (by rw [hb0])) (show i < b1.length by omega) ?_; rintro ⟨v, h⟩; simp only [e1] at *; first | exact r1 v | (rcases h with h | h | h | ⟨h, h', h''⟩ <;> first | omega | exact r3 h | exact h r4 | exact h r5))), hLow⟩   -- returns .bool false
  · refine walk_to (F := F10) (T := C10) (fuel := 1000) (d := 10) mixed (allF_cons (FactOk.bi rfl rfl rfl rfl rfl rfl (boolF (by omega))) allF_nil) allC_nil ?_ hh
    refine walk_leave (F := F0) (T := C0) (fuel := 1000) (d := 10) mixed allF_nil allC_nil ?_
    exact ostop_end e15 fun w2 hLow hIn => ⟨(by refine congrArg (fun z => Ending.returned (.bool z)) ?_; first | exact ordB_yes (hb1.trans (by rw [hb0])) (fun j hj => hI.2 j (by omega)) | (refine ordB_no (hb1.trans (by rw [hb0])) (show i < b1.length by omega) ?_; rintro ⟨v, h⟩; simp only [e1] at *; first | exact r1 v | (rcases h with h | h | h | ⟨h, h', h''⟩ <;> first | omega | exact r3 h | exact h r4 | exact h r5))), hLow⟩   -- returns .bool true
end OrderlyG
end AE
end Go.Proofs.YtheaofepenbcgaaGreatDoor

/- The plain law of Orderly: what it computes is the same as to ask it of all pairs. -/
namespace Go.Proofs.YtheaofepenbcgaaGreatDoor
open Go Go.Proofs Go.RowKit
namespace AE

/-- Stamps that could be those of edits. -/
def OrdP (l : List St) : Prop := (∀ x ∈ l, ValidP x) ∧ ∀ x ∈ l, ∀ y ∈ l, x.2.2.1 = y.2.2.1 → (x.2.2.2 = y.2.2.2 → x = y) ∧ (x.2.2.2 < y.2.2.2 → x.2.1 < y.2.1 ∧ x.1 ≤ y.1)

theorem sortO_pair (l : List St) : (sortO l).Pairwise fun x y => ¬ ltOf cmpO y x = true := by
  have h := List.pairwise_mergeSort (le := fun x y => !(ltOf cmpO) y x) (fun a b c h1 h2 => by
    simp only [Bool.not_eq_true'] at h1 h2 ⊢
    exact swoO.ntrans c b a h2 h1) (fun a b => by
    cases h1 : ltOf cmpO b a with
    | false => simp
    | true =>
      cases h2 : ltOf cmpO a b with
      | false => simp
      | true =>
        have := swoO.trans a b a h2 h1
        rw [swoO.irrefl] at this
        cases this) l
  exact h.imp fun {a b} h => by simpa using h

theorem sortO_mem (l : List St) (x : St) : x ∈ sortO l ↔ x ∈ l := List.mem_mergeSort

theorem getMem {l : List St} {i : Nat} (h : i < l.length) : l.getD i default ∈ l := by
  rw [List.getD_eq_getElem?_getD, List.getElem?_eq_getElem h]
  exact List.getElem_mem h
theorem memGet {l : List St} {x : St} (h : x ∈ l) : ∃ i, i < l.length ∧ l.getD i default = x := by
  obtain ⟨i, hi, rfl⟩ := List.mem_iff_getElem.1 h
  exact ⟨i, hi, by rw [List.getD_eq_getElem?_getD, List.getElem?_eq_getElem hi]; rfl⟩

theorem sortO_le {l : List St} {i j : Nat} (hij : i < j) (hj : j < (sortO l).length) : ¬ ltOf cmpO ((sortO l).getD j default) ((sortO l).getD i default) = true := by
  have h := List.pairwise_iff_getElem.1 (sortO_pair l) i j (by omega) hj hij
  rw [List.getD_eq_getElem?_getD, List.getElem?_eq_getElem hj, List.getD_eq_getElem?_getD, List.getElem?_eq_getElem (show i < (sortO l).length by omega)]
  exact h

theorem chain {l : List St} (h : ∀ i, i < (sortO l).length → okAt (sortO l) i) : ∀ (d i : Nat), i + d < (sortO l).length → ((sortO l).getD i default).2.2.1 = ((sortO l).getD (i + d) default).2.2.1 →
    (sortO l).getD i default = (sortO l).getD (i + d) default ∨ (((sortO l).getD i default).2.2.2 < ((sortO l).getD (i + d) default).2.2.2 ∧ ((sortO l).getD i default).2.1 < ((sortO l).getD (i + d) default).2.1 ∧ ((sortO l).getD i default).1 ≤ ((sortO l).getD (i + d) default).1)
  | 0, i, _, _ => .inl rfl
  | d + 1, i, hi, hs => by
    have h1 := h (i + (d + 1)) hi
    have h2 := sortO_le (l := l) (i := i + d) (j := i + (d + 1)) (by omega) hi
    have h3 : d ≠ 0 → ¬ ltOf cmpO ((sortO l).getD (i + d) default) ((sortO l).getD i default) = true := fun hd => sortO_le (by omega) (by omega)
    have ih := chain h d i (by omega)
    unfold okAt at h1
    rw [show i + (d + 1) - 1 = i + d by omega] at h1
    rw [ltO] at h2
    have h4 : ((sortO l).getD i default).2.2.1 = ((sortO l).getD (i + d) default).2.2.1 := by
      rcases Nat.eq_zero_or_pos d with rfl | hd
      · rfl
      · have := h3 (by omega)
        rw [ltO] at this
        omega
    have ih := ih h4
    generalize (sortO l).getD i default = a at *
    generalize (sortO l).getD (i + d) default = b at *
    generalize (sortO l).getD (i + (d + 1)) default = c at *
    obtain ⟨_, h1⟩ := h1
    have h5 : b = c ∨ (b.2.2.2 < c.2.2.2 ∧ b.2.1 < c.2.1 ∧ b.1 ≤ c.1) := by
      rcases h1 with h1 | h1 | h1 | ⟨h1, h1', h1''⟩
      · omega
      · exact .inl h1
      · omega
      · exact .inr ⟨by omega, h1', h1''⟩
    rcases ih with rfl | ih
    · exact h5
    · rcases h5 with rfl | h5
      · exact .inr ih
      · exact .inr (by omega)

theorem ordB_iff (l : List St) : ordB l = true ↔ OrdP l := by
  unfold ordB
  rw [decide_eq_true_iff]
  constructor
  · intro h
    refine ⟨fun x hx => ?_, fun x hx y hy hs => ?_⟩
    · obtain ⟨i, hi, rfl⟩ := memGet ((sortO_mem l x).2 hx)
      exact (h i hi).1
    · obtain ⟨i, hi, rfl⟩ := memGet ((sortO_mem l x).2 hx)
      obtain ⟨j, hj, rfl⟩ := memGet ((sortO_mem l y).2 hy)
      rcases Nat.le_total i j with hij | hij
      · obtain ⟨d, rfl⟩ := Nat.exists_eq_add_of_le hij
        have := chain h d i hj hs
        generalize (sortO l).getD i default = a at *
        generalize (sortO l).getD (i + d) default = b at *
        rcases this with rfl | h5
        · exact ⟨fun _ => rfl, fun h => absurd h (by omega)⟩
        · exact ⟨fun h => absurd h (by omega), fun _ => h5.2⟩
      · obtain ⟨d, rfl⟩ := Nat.exists_eq_add_of_le hij
        have := chain h d j hi hs.symm
        generalize (sortO l).getD j default = a at *
        generalize (sortO l).getD (j + d) default = b at *
        rcases this with rfl | h5
        · exact ⟨fun _ => rfl, fun h => absurd h (by omega)⟩
        · exact ⟨fun h => absurd h (by omega), fun h => absurd h (by omega)⟩
  · rintro ⟨h1, h2⟩ i hi
    refine ⟨h1 _ ((sortO_mem l _).1 (getMem hi)), ?_⟩
    rcases Nat.eq_zero_or_pos i with h0 | h0
    · exact .inl h0
    · have ha := (sortO_mem l _).1 (getMem (l := sortO l) (i := i - 1) (by omega))
      have hb := (sortO_mem l _).1 (getMem hi)
      have h3 := sortO_le (l := l) (i := i - 1) (j := i) (by omega) hi
      rw [ltO] at h3
      generalize (sortO l).getD (i - 1) default = a at *
      generalize (sortO l).getD i default = b at *
      by_cases hs : a.2.2.1 = b.2.2.1
      · obtain ⟨h4, h5⟩ := h2 a ha b hb hs
        by_cases hq : a.2.2.2 = b.2.2.2
        · exact .inr (.inl (h4 hq))
        · exact .inr (.inr (.inr ⟨hq, h5 (by omega)⟩))
      · exact .inr (.inr (.inl hs))

end AE
end Go.Proofs.YtheaofepenbcgaaGreatDoor

/- The reference's order and Orderly: plain layer; calls by contract. -/
namespace Go.Proofs.YtheaofepenbcgaaGreatDoor
open Go Go.Proofs Go.RowKit
namespace AE

theorem cmpS_1 {p q : St} (h : ¬ p.1 = q.1) : signI p.1 q.1 = cmpS p q := by
  unfold cmpS cmpI
  rw [if_pos (fun h2 => h (signI_zero.1 h2))]
theorem cmpS_2 {p q : St} (h : p.1 = q.1) (h1 : ¬ p.2.1 = q.2.1) : signI p.2.1 q.2.1 = cmpS p q := by
  unfold cmpS cmpI
  rw [if_neg (fun h2 => h2 (signI_zero.2 h)), if_pos (fun h2 => h1 (signI_zero.1 h2))]
theorem cmpS_3 {p q : St} (h : p.1 = q.1) (h1 : p.2.1 = q.2.1) (h2 : ¬ p.2.2.1 = q.2.2.1) : signI p.2.2.1 q.2.2.1 = cmpS p q := by
  unfold cmpS cmpI
  rw [if_neg (fun h3 => h3 (signI_zero.2 h)), if_neg (fun h3 => h3 (signI_zero.2 h1)), if_pos (fun h3 => h2 (signI_zero.1 h3))]
theorem cmpS_4 {p q : St} (h : p.1 = q.1) (h1 : p.2.1 = q.2.1) (h2 : p.2.2.1 = q.2.2.1) : signI p.2.2.2 q.2.2.2 = cmpS p q := by
  unfold cmpS cmpI
  rw [if_neg (fun h3 => h3 (signI_zero.2 h)), if_neg (fun h3 => h3 (signI_zero.2 h1)), if_neg (fun h3 => h3 (signI_zero.2 h2))]

/-- What the reference asks of two stamps. -/
def pairOk (a b : St) : Prop := a.2.2.1 = b.2.2.1 → (a.2.2.2 = b.2.2.2 → a = b) ∧ (a.2.2.2 < b.2.2.2 → a.2.1 < b.2.1 ∧ a.1 ≤ b.1)

theorem ordB_true {l : List St} (h : ∀ j, j < l.length → ValidP (l.getD j default) ∧ ∀ k, k < l.length → pairOk (l.getD j default) (l.getD k default)) : true = ordB l := by
  refine ((ordB_iff l).2 ⟨fun x hx => ?_, fun x hx y hy => ?_⟩).symm
  · obtain ⟨i, hi, rfl⟩ := memGetS hx
    exact (h i hi).1
  · obtain ⟨i, hi, rfl⟩ := memGetS hx
    obtain ⟨j, hj, rfl⟩ := memGetS hy
    exact (h i hi).2 j hj
theorem ordB_noV {l : List St} {i : Nat} (hi : i < l.length) (h : ¬ ValidP (l.getD i default)) : false = ordB l := by
  cases hb : ordB l with
  | false => rfl
  | true => exact absurd (((ordB_iff l).1 hb).1 _ (getMemS hi)) h
theorem ordB_noP {l : List St} {i k : Nat} (hi : i < l.length) (hk : k < l.length) (h : ¬ pairOk (l.getD i default) (l.getD k default)) : false = ordB l := by
  cases hb : ordB l with
  | false => rfl
  | true => exact absurd (((ordB_iff l).1 hb).2 _ (getMemS hi) _ (getMemS hk)) h

/-- The reference's Sorted, i stamps on. -/
def InsOk (l : List St) (i : Nat) (b : List St) : Prop := (b.Pairwise fun x y => ltOf cmpS x y = true) ∧ ∀ x, x ∈ b ↔ x ∈ l.take i

theorem InsOk.start (l : List St) : InsOk l 0 [] := ⟨by simp, fun x => by simp⟩

theorem InsOk.same {l b : List St} {i k : Nat} (h : InsOk l i b) (hi : i < l.length) (hk : k < b.length) (he : b.getD k default = l.getD i default) : InsOk l (i + 1) b := by
  refine ⟨h.1, fun x => ?_⟩
  rw [h.2, List.take_add_one, getSome hi]
  simp only [Option.toList_some, List.mem_append, List.mem_singleton]
  refine ⟨fun h => .inl h, fun hx => ?_⟩
  rcases hx with hx | rfl
  · exact hx
  · rw [← he]
    exact (h.2 _).1 (getMemS hk)

theorem ltS_cmp {x y : St} : ltOf cmpS x y = true ↔ cmpS x y < 0 := by unfold ltOf; rw [decide_eq_true_iff]

theorem InsOk.ins {l b b0 b1 b2 : List St} {i k : Nat} (h : InsOk l i b) (hi : i < l.length) (hk : k ≤ b.length) (hlt : ∀ j, j < k → cmpS (b.getD j default) (l.getD i default) < 0) (hge : k < b.length → ¬ cmpS (b.getD k default) (l.getD i default) < 0) (hne : k < b.length → ¬ b.getD k default = l.getD i default)
    (hb0 : b0 = [] ++ b.take k) (hb1 : b1 = b0 ++ [l.getD i default]) (hb2 : b2 = b1 ++ b.drop k) : InsOk l (i + 1) b2 := by
  subst hb0; subst hb1; subst hb2
  obtain ⟨h1, h2⟩ := h
  have hsplit : b.take k ++ b.drop k = b := List.take_append_drop k b
  have hA : ∀ x ∈ b.take k, ltOf cmpS x (l.getD i default) = true := fun x hx => by
    obtain ⟨j, hj, rfl⟩ := List.mem_iff_getElem.1 hx
    rw [List.length_take] at hj
    rw [ltS_cmp, List.getElem_take]
    have := hlt j (by omega)
    rwa [List.getD_eq_getElem?_getD, List.getElem?_eq_getElem (by omega)] at this
  have hB : ∀ x ∈ b.drop k, ltOf cmpS (l.getD i default) x = true := fun x hx => by
    have hk2 : k < b.length := by
      rcases Nat.lt_or_ge k b.length with h | h
      · exact h
      · rw [List.drop_eq_nil_of_le h] at hx; cases hx
    have h3 : ltOf cmpS (l.getD i default) (b.getD k default) = true := by
      cases h4 : ltOf cmpS (l.getD i default) (b.getD k default) with
      | true => rfl
      | false =>
        have h5 : ltOf cmpS (b.getD k default) (l.getD i default) = false := by
          cases h6 : ltOf cmpS (b.getD k default) (l.getD i default) with
          | false => rfl
          | true => exact absurd (ltS_cmp.1 h6) (hge hk2)
        exact absurd (totS _ _ h5 h4) (hne hk2)
    rw [List.drop_eq_getElem_cons hk2] at hx
    have e : b.getD k default = b[k] := by rw [List.getD_eq_getElem?_getD, List.getElem?_eq_getElem hk2]; rfl
    rcases List.mem_cons.1 hx with rfl | hx
    · rw [← e]; exact h3
    · refine swoS.trans _ _ _ h3 ?_
      rw [e]
      obtain ⟨j, hj, rfl⟩ := List.mem_iff_getElem.1 hx
      rw [List.length_drop] at hj
      rw [List.getElem_drop]
      exact List.pairwise_iff_getElem.1 h1 k (k + 1 + j) hk2 (by omega) (by omega)
  refine ⟨?_, fun x => ?_⟩
  · rw [List.nil_append, List.append_assoc, List.pairwise_append]
    refine ⟨List.Pairwise.sublist (List.take_sublist k b) h1, ?_, fun x hx y hy => ?_⟩
    · rw [List.singleton_append, List.pairwise_cons]
      exact ⟨fun y hy => hB y hy, List.Pairwise.sublist (List.drop_sublist k b) h1⟩
    · rcases List.mem_cons.1 (by simpa using hy : y ∈ l.getD i default :: b.drop k) with rfl | hy
      · exact hA x hx
      · exact swoS.trans _ _ _ (hA x hx) (hB y hy)
  · rw [List.take_add_one, getSome hi]
    simp only [Option.toList_some, List.mem_append, List.mem_singleton, List.nil_append]
    rw [← h2, ← hsplit]
    simp only [List.mem_append]
    rw [hsplit]
    constructor
    · rintro ((h | h) | h)
      · exact .inl (.inl h)
      · exact .inr h
      · exact .inl (.inr h)
    · rintro ((h | h) | h)
      · exact .inl (.inl h)
      · exact .inr h
      · exact .inl (.inr h)

theorem InsOk.done {l b : List St} (h : InsOk l l.length b) : b = sortedS l := by
  have hs := (cuTo_spec (sortS_pair l) _ (Nat.le_refl _)).2.1
  have nd : ∀ {c : List St}, (c.Pairwise fun x y => ltOf cmpS x y = true) → c.Nodup := fun hc => hc.imp fun {x y} hxy he => by
    rw [he, swoS.irrefl] at hxy
    cases hxy
  have hp : b.Perm (sortedS l) := (List.perm_ext_iff_of_nodup (nd h.1) (nd hs)).2 fun x => by
    rw [h.2, List.take_length]
    exact (sortedS_mem l x).symm
  exact List.Perm.eq_of_pairwise (le := fun x y => ltOf cmpS x y = true) (fun x y _ _ h1 h2 => by
    have := swoS.trans _ _ _ h1 h2
    rw [swoS.irrefl] at this
    cases this) h.1 hs hp

theorem insEnd {l b : List St} {i : Nat} (h : InsOk l i b) (h1 : i ≤ l.length) (h2 : l.length ≤ i) : b = sortedS l := by
  obtain rfl : i = l.length := by omega
  exact h.done

variable [Sig]
theorem callRSign {x y r : Value} {a b : Int} (hp : plainSL [x, y] = true) (hr : plainS r = true) (ev : interpL [x, y] = [.int .i64 a, .int .i64 b]) (er : interp r = .int .i64 (signI a b)) : CallFactOk Tryz.prog (34, [x, y], r) :=
  callAny (a := #[.int .i64 a, .int .i64 b]) hp hr ev er fun w _ => RSign.any w a b
theorem callRValidT {v : Value} {x : St} (hp : plainSL [v] = true) (ev : interpL [v] = [x.val]) (h : ValidP x) : CallFactOk Tryz.prog (11, [v], .bool true) :=
  callAny (a := #[x.val]) hp rfl ev rfl fun w _ => (RValid.any w x).mono fun e w' h' => by rw [decide_eq_true h] at h'; exact h'
theorem callRValidF {v : Value} {x : St} (hp : plainSL [v] = true) (ev : interpL [v] = [x.val]) (h : ¬ ValidP x) : CallFactOk Tryz.prog (11, [v], .bool false) :=
  callAny (a := #[x.val]) hp rfl ev rfl fun w _ => (RValid.any w x).mono fun e w' h' => by rw [decide_eq_false h] at h'; exact h'
theorem callOrdT {v : Value} {u : Value} {l : List St} (hp : plainSL [v] = true) (ev : interpL [v] = [u]) (hl : Arr Sig.imm 4 encS u l) (hn : l.length ≤ 100000) (h : ordB l = true) : CallFactOk Tryz.prog (14, [v], .bool true) :=
  callAny (a := #[u]) hp rfl ev rfl fun w hw => (OrderlyG.any w (hl.mono hw) hn).mono fun e w' h' => by rw [h] at h'; exact h'
theorem callOrdF {v : Value} {u : Value} {l : List St} (hp : plainSL [v] = true) (ev : interpL [v] = [u]) (hl : Arr Sig.imm 4 encS u l) (hn : l.length ≤ 100000) (h : ¬ ordB l = true) : CallFactOk Tryz.prog (14, [v], .bool false) :=
  callAny (a := #[u]) hp rfl ev rfl fun w hw => (OrderlyG.any w (hl.mono hw) hn).mono fun e w' h' => by rw [Bool.not_eq_true] at h; rw [h] at h'; exact h'

end AE
end Go.Proofs.YtheaofepenbcgaaGreatDoor

/- Compare of the reference -/
namespace Go.Proofs.YtheaofepenbcgaaGreatDoor
open Go Go.Proofs Go.RowKit
namespace AE
namespace RCmp
noncomputable def body : Code := (Tryz.f13.body).getD .skip
def N : Nat := 40
noncomputable abbrev at' (N : Nat) (F : List (FOp × Value)) (C : List (FuncId × List Value × Value)) (c : Code) (s : ASt) : Option Stop := evalTo Tryz.prog F C N 1000 10 c s
noncomputable abbrev leave' (N : Nat) (F : List (FOp × Value)) (C : List (FuncId × List Value × Value)) (ks : List KI) (o : Option Stop) : Option Stop := evalLeave Tryz.prog F C N 1000 10 ks o
noncomputable abbrev unr' (N : Nat) (F : List (FOp × Value)) (C : List (FuncId × List Value × Value)) (m : Nat) (o : Option Stop) : Option Stop := evalUnroll Tryz.prog F C N 1000 10 m o
noncomputable abbrev res' (N : Nat) (F : List (FOp × Value)) (C : List (FuncId × List Value × Value)) (ks : List KI) (x : AX) (s : ASt) : Option Stop := evalRes Tryz.prog F C N 1000 10 ks x s
noncomputable abbrev ops' (N : Nat) (F : List (FOp × Value)) (C : List (FuncId × List Value × Value)) (r : List Oper) (ops : Array Oper) (ks : List KI) (s : ASt) : Option Stop := evalOps Tryz.prog F C N 1000 10 r ops ks s
def s0 : ASt := { sl := slots [(1, .agg ⟨[symv 4, symv 5, symv 6, symv 7]⟩), (0, .agg ⟨[symv 0, symv 1, symv 2, symv 3]⟩)], ms := [], A := start }
def F0 : List (FOp × Value) := [(.bin .neq 3 (symv 0) (symv 4), .bool false),
    (.bin .neq 3 (symv 1) (symv 5), .bool false),
    (.bin .neq 3 (symv 2) (symv 6), .bool false)]
def C0 : List (FuncId × List Value × Value) := [(34, [symv 3, symv 7], symv 8)]
set_option maxRecDepth 100000 in
theorem e0 : endVal Tryz.prog Tryz.f13 (at' 40 F0 C0 body s0) = some (symv 8) := by kernel_rfl
def F1 : List (FOp × Value) := [(.bin .neq 3 (symv 0) (symv 4), .bool false),
    (.bin .neq 3 (symv 1) (symv 5), .bool false),
    (.bin .neq 3 (symv 2) (symv 6), .bool true)]
def C1 : List (FuncId × List Value × Value) := [(34, [symv 2, symv 6], symv 9)]
set_option maxRecDepth 100000 in
theorem e1 : endVal Tryz.prog Tryz.f13 (at' 40 F1 C1 body s0) = some (symv 9) := by kernel_rfl
def F2 : List (FOp × Value) := [(.bin .neq 3 (symv 0) (symv 4), .bool false),
    (.bin .neq 3 (symv 1) (symv 5), .bool true)]
def C2 : List (FuncId × List Value × Value) := [(34, [symv 1, symv 5], symv 10)]
set_option maxRecDepth 100000 in
theorem e2 : endVal Tryz.prog Tryz.f13 (at' 40 F2 C2 body s0) = some (symv 10) := by kernel_rfl
def F3 : List (FOp × Value) := [(.bin .neq 3 (symv 0) (symv 4), .bool true)]
def C3 : List (FuncId × List Value × Value) := [(34, [symv 0, symv 4], symv 11)]
set_option maxRecDepth 100000 in
theorem e3 : endVal Tryz.prog Tryz.f13 (at' 40 F3 C3 body s0) = some (symv 11) := by kernel_rfl
@[reducible] noncomputable def vL (x : St) (y : St) : List Value := [.int .i64 x.1, .int .i64 x.2.1, .int .i64 x.2.2.1, .int .i64 x.2.2.2, .int .i64 y.1, .int .i64 y.2.1, .int .i64 y.2.2.1, .int .i64 y.2.2.2, .int .i64 (signI x.2.2.2 y.2.2.2), .int .i64 (signI x.2.2.1 y.2.2.1), .int .i64 (signI x.2.1 y.2.1), .int .i64 (signI x.1 y.1)]
@[reducible] noncomputable def sg (M : Mem) (x : St) (y : St) : Sig := sgL M (vL x y)
set_option maxHeartbeats 4000000 in
set_option maxRecDepth 100000 in
theorem any (W : World) (x : St) (y : St)  : Calls Tryz.prog 13 #[St.val x, St.val y] W fun e w' => e = .returned (.int .i64 (cmpS x y)) ∧ Low W.heap.size W w' := by
  refine @walk_enter (sg (heapOf W) x y ) Tryz.prog 13 Tryz.f13 body [.agg ⟨[symv 0, symv 1, symv 2, symv 3]⟩, .agg ⟨[symv 4, symv 5, symv 6, symv 7]⟩] (slots [(1, .agg ⟨[symv 4, symv 5, symv 6, symv 7]⟩), (0, .agg ⟨[symv 0, symv 1, symv 2, symv 3]⟩)]) N W _ Tryz.func13 (by kernel_rfl) (by kernel_rfl) (by kernel_rfl) (by kernel_rfl) (immW_sgL W _) fun a hh => ?_
  letI := (sg (heapOf W) x y )
  by_cases h0 : x.1 = y.1
  · by_cases h1 : x.2.1 = y.2.1
    · by_cases h2 : x.2.2.1 = y.2.2.1
      · refine walk_to (F := F0) (T := C0) (fuel := 1000) (d := 10) mixed (allF_cons (FactOk.bi rfl rfl rfl rfl rfl rfl (nboolF (by omega))) (allF_cons (FactOk.bi rfl rfl rfl rfl rfl rfl (nboolF (by omega))) (allF_cons (FactOk.bi rfl rfl rfl rfl rfl rfl (nboolF (by omega))) allF_nil))) (allC_cons (callRSign rfl rfl rfl rfl) allC_nil) ?_ hh
        exact ostop_end e0 fun w2 hLow hIn => ⟨(by refine congrArg (fun z => Ending.returned (.int .i64 z)) ?_; first | exact cmpS_1 h0 | exact cmpS_2 h0 h1 | exact cmpS_3 h0 h1 h2 | exact cmpS_4 h0 h1 h2), hLow⟩   -- returns symv 8
      · refine walk_to (F := F1) (T := C1) (fuel := 1000) (d := 10) mixed (allF_cons (FactOk.bi rfl rfl rfl rfl rfl rfl (nboolF (by omega))) (allF_cons (FactOk.bi rfl rfl rfl rfl rfl rfl (nboolF (by omega))) (allF_cons (FactOk.bi rfl rfl rfl rfl rfl rfl (nboolT (by omega))) allF_nil))) (allC_cons (callRSign rfl rfl rfl rfl) allC_nil) ?_ hh
        exact ostop_end e1 fun w2 hLow hIn => ⟨(by refine congrArg (fun z => Ending.returned (.int .i64 z)) ?_; first | exact cmpS_1 h0 | exact cmpS_2 h0 h1 | exact cmpS_3 h0 h1 h2 | exact cmpS_4 h0 h1 h2), hLow⟩   -- returns symv 9
    · refine walk_to (F := F2) (T := C2) (fuel := 1000) (d := 10) mixed (allF_cons (FactOk.bi rfl rfl rfl rfl rfl rfl (nboolF (by omega))) (allF_cons (FactOk.bi rfl rfl rfl rfl rfl rfl (nboolT (by omega))) allF_nil)) (allC_cons (callRSign rfl rfl rfl rfl) allC_nil) ?_ hh
      exact ostop_end e2 fun w2 hLow hIn => ⟨(by refine congrArg (fun z => Ending.returned (.int .i64 z)) ?_; first | exact cmpS_1 h0 | exact cmpS_2 h0 h1 | exact cmpS_3 h0 h1 h2 | exact cmpS_4 h0 h1 h2), hLow⟩   -- returns symv 10
  · refine walk_to (F := F3) (T := C3) (fuel := 1000) (d := 10) mixed (allF_cons (FactOk.bi rfl rfl rfl rfl rfl rfl (nboolT (by omega))) allF_nil) (allC_cons (callRSign rfl rfl rfl rfl) allC_nil) ?_ hh
    exact ostop_end e3 fun w2 hLow hIn => ⟨(by refine congrArg (fun z => Ending.returned (.int .i64 z)) ?_; first | exact cmpS_1 h0 | exact cmpS_2 h0 h1 | exact cmpS_3 h0 h1 h2 | exact cmpS_4 h0 h1 h2), hLow⟩   -- returns symv 11
end RCmp
end AE
end Go.Proofs.YtheaofepenbcgaaGreatDoor

/- Appends that leave other own arrays apart: the block of the result is the old one or a new one. -/
namespace Go.Proofs.YtheaofepenbcgaaGreatDoor
open Go Go.Proofs Go.RowKit
namespace AE

theorem append_blk {α : Type} {P : Program} {w : World} {B : Nat} {M : Mem} {t ty e : TypeId} {i : TypeInfo} {z : Value} {k bytes : Nat} (ht : P.underlying t = some (.slice e)) (hi : P.info? e = some i) (hz : i.zero = some z) (hsize : i.size = k) (hby : i.bytes = bytes) (hzs : z.cells.size = k) (hk0 : 0 < k)
    {enc : α → List Value} (hk : ∀ x, (enc x).length = k) (hone : ∀ x, ∀ u ∈ enc x, u.oneCell' = true) {v x : Value} {l lx : List α} (hO : OArr B M e k enc v l) (hx : Reads w k enc x lx) (hw : ∀ i o, M i = some o → w.heap[i]? = some o)
    (h63 : l.length + lx.length ≤ maxLen) (hbytes : (l.length + lx.length) * bytes ≤ 140737488355328) {v' : Value} {w' : World} (hr : (Builtin.append_ #[t, t] ty #[v, x]).run P w = .ok v' w') :
    ∀ j, some j = obl v' → some j = obl v ∨ w.heap.size ≤ j := by
  obtain ⟨ax, c, rfl, hnil, hcells⟩ := hx
  by_cases hm : lx = []
  · subst hm
    obtain ⟨a, cap, rfl⟩ := hO.slice
    have hle : l.length ≤ cap := by
      rcases hO with ⟨a', h, rfl⟩ | ⟨g, cap', cur, h, h0, h1, h2, h3, _⟩
      · exact Nat.zero_le _
      · cases h; exact h3
    have h2 := run_append_zero (P := P) (w := w) (ty := ty) (a := a) (b := ax) (c := c) ht hi hle
    cases h2.symm.trans hr
    exact fun j h => .inl h
  · cases ax with
    | none => exact absurd (hnil rfl) hm
    | some ad =>
      have hlen := flat_len hk lx
      have h1 : ∀ u ∈ lx.flatMap enc, u.oneCell' = true := fun u hu => by
        obtain ⟨y, _, hy⟩ := List.mem_flatMap.1 hu
        exact hone y u hy
      by_cases hc : obl v = none
      · rcases hO with ⟨a, rfl, rfl⟩ | ⟨g, cap, cur, rfl, h0, _⟩
        · have e0 : (Builtin.append_ #[t, t] ty #[.slice a 0 0, .slice (some ad) lx.length c]).run P w = (Builtin.append_ #[t, t] ty #[.slice none 0 0, .slice (some ad) lx.length c]).run P w := by
            cases a with
            | none => rfl
            | some a =>
              subst hsize
              subst hby
              have hsmall : lx.length ≤ 9223372036854775807 := by simp only [maxLen, List.length_nil] at h63; omega
              have hpos : 0 < lx.length := List.length_pos_iff.2 hm
              have r1 := run_append_nil (P := P) w t ty e i z ht hi hz ad lx.length c _ hlen (hcells ad rfl) (by omega) (by omega) (by have hb := hbytes; simp only [List.length_nil, Nat.zero_add] at hb; omega)
              have r2 := run_append_grow (P := P) w t ty e i z ht hi hz a 0 0 [] (by simp) (fun j u h => by simp at h) ad lx.length c _ hlen (hcells ad rfl) (by omega) (by omega) (growslice_fits (by omega) (by have hb := hbytes; simp only [List.length_nil] at hb; exact hb))
              rw [r1, r2]
              simp
          have hn := append_new ht hi hz hsize hby hzs hk0 (World.ownsRow_nil w B e k) ad lx.length c hlen (hcells ad rfl) h1 h63 hbytes (e0.symm.trans hr)
          intro j hj
          rcases hn j (obl_own hj) with h | h
          · cases h
          · exact .inr h
        · exact absurd hc (by rw [obl_pos _ _ h0]; simp)
      · have heq : obl v = v.ownBlock := by
          cases h : obl v with
          | none => exact absurd h hc
          | some i => exact obl_own h.symm
        have hn := append_new ht hi hz hsize hby hzs hk0 (hO.row hk hc hw) ad lx.length c hlen (hcells ad rfl) h1 h63 hbytes hr
        intro j hj
        rw [heq]
        exact hn j (obl_own hj)

theorem apart_new {α : Type} {B : Nat} {M : Mem} {e : TypeId} {k : Nat} {enc : α → List Value} {v r : Value} {l : List α} {T : Option Nat} (hO : OArr B M e k enc v l) (hT : ∀ i, some i = obl v → some i ≠ T) (hF : ∀ i, some i = obl r → some i = T ∨ M i = none) : ∀ i, some i = obl v → some i ≠ obl r := fun i h h2 => by
  rcases hF i h2 with h3 | h3
  · exact hT i h h3
  · exact (hO.known i h).1 h3

/-- An append; the block of its result is the old one or was not known. -/
theorem ostop_appendF [Outer] {α : Type} {P : Program} {N B : Nat} {w0 : World} {Q : Exit → Act → World → Prop} {M : Mem} {vals : List Value} {o : Option Stop} {t e : TypeId} {k bytes : Nat} {i : TypeInfo} {z vs xv vR : Value} {enc : α → List Value} {l lx l' : List α} {vals2 : Option Addr → Nat → List Value} {sl2 sl3 : Sl} {bks : List Bk} {obs : Obs}
    (hl' : l' = l ++ lx) (h : appOf t o = some (vs, xv)) (ht : P.underlying t = some (.slice e)) (hi : P.info? e = some i) (hz : i.zero = some z) (hsize : i.size = k) (hby : i.bytes = bytes) (hzs : z.cells.size = k) (hk0 : 0 < k) (hk : ∀ x, (enc x).length = k) (hone : ∀ x, ∀ u ∈ enc x, u.oneCell' = true)
    (htr : trAll (stopSt o) sl2 bks = some obs) (hput : aput N sl2 (stopDst o) vR = some sl3) (hpl : plainS vR = true) (T : Option Nat)
    (hO : ∀ φ w v, @Rel (sgL M vals) φ (stopSt o).A w → @VRel (sgL M vals) φ vs v → OArr B M e k enc v l ∧ obl v = T)
    (hX : ∀ φ w x, @Rel (sgL M vals) φ (stopSt o).A w → @VRel (sgL M vals) φ xv x → Reads w k enc x lx)
    (h63 : l.length + lx.length ≤ maxLen) (hbytes : (l.length + lx.length) * bytes ≤ 140737488355328)
    (hm : ∀ M' a c, Meet (sgL M vals) (sgL M' (vals2 a c)) obs) (hv : ∀ M' a c, @interp (sgL M' (vals2 a c)) vR = .slice a l'.length c)
    (rest : ∀ M' a c, OArr B M' e k enc (.slice a l'.length c) l' → Keeps M M' T → (∀ i, some i = T → B ≤ i) → (∀ i, some i = obl (.slice a l'.length c) → some i = T ∨ M i = none) → ∀ a' w, @Here (sgL M' (vals2 a c)) _ N { sl := sl3, ms := [], A := mkAS bks } B w0 a' w → wpListIn (Fr none) 0 P (stopOps o) (KQ P (stopKs o) Q) (stopRest o) a' w)
    (hn : Outer.n0 ≤ bks.length := by first | exact Nat.zero_le _ | exact Nat.le_of_ble_eq_true rfl) (hc : SameC (stopSt o).A bks 0 := by exact sameC_none rfl) : @OStop (sgL M vals) _ P N B w0 Q o := by
  subst hl'
  letI := sgL M vals
  unfold appOf at h
  split at h
  · rename_i op r ops s ks
    refine ⟨_, rfl, fun a w hh => ?_⟩
    split at h
    · rename_i c hop
      split at h
      · rename_i sO xO hcal hargs
        cases hty : decide (c.argTypes = #[t, t]) with
        | false => rw [hty] at h; cases h
        | true =>
          rw [hty, cond_true] at h
          have hty' : c.argTypes = #[t, t] := of_decide_eq_true hty
          split at h
          · rename_i hwt
            cases h
            have hh0 := hh
            obtain ⟨⟨φ, ds, h1, h2, h3, h4, _⟩, h5, h6⟩ := hh
            unfold wpListIn
            rw [wanted_spec h2.get hwt, if_pos rfl]
            have es := evs_rel (gr_nil φ) h2.get sO
            have ex := evs_rel (gr_nil φ) h2.get xO
            obtain ⟨hOa, hT⟩ := hO φ w _ h3 es
            subst hT
            have hw : ∀ i o, M i = some o → w.heap[i]? = some o := hh0.immW
            obtain ⟨v', w', M', g1, g2, g3, g4⟩ := append_own (ty := op.type) ht hi hz hsize hby hzs hk0 hk hone hOa (hX φ w _ h3 ex) hw h6 h63 hbytes
            have hfr := append_blk ht hi hz hsize hby hzs hk0 hk hone hOa (hX φ w _ h3 ex) hw h63 hbytes g1
            have hrun : (execOp a.eval op).run P w = .ok (.value v') w' := by
              unfold execOp resolve
              rw [hop]
              simp only [hcal, hargs, hty', List.map_toArray, List.map_cons, List.map_nil]
              show (do pure (Next.value (← Builtin.append_ #[t, t] op.type #[a.eval sO, a.eval xO])) : Sem Next).run P w = _
              simp only [Sem.run_bind, g1, Result.andThen_ok]
              rfl
            have hnd : ∀ c', op.op ≠ .defer c' := fun c' h => by rw [hop] at h; cases h
            refine ⟨fun _ _ => trivial, ?_⟩
            rw [Oper.semAt_eq _ _ _ hnd, hrun, Oper.uponIn_value]
            obtain ⟨a', c', rfl⟩ := g2.slice
            have hh2 := Here.turns (vals' := vals2 a' c') htr (hm M' a' c') g3 hn hc hh0
            letI := sgL M' (vals2 a' c')
            have hh3 := Here.put (d := op.dst) hh2 hpl hput
            rw [hv M' a' c'] at hh3
            exact rest M' a' c' g2 g4 (fun i hi => (g3.known i hi).2) (fun i hi => (hfr i hi).imp id fun hs => by
              cases hM : M i with
              | none => rfl
              | some o =>
                have := (Array.getElem?_eq_some_iff.1 (hw i o hM)).1
                omega) _ w' hh3
          · cases h
      · cases h
    · cases h
  · cases h

end AE
end Go.Proofs.YtheaofepenbcgaaGreatDoor

/- The reference's Compare by contract. -/
namespace Go.Proofs.YtheaofepenbcgaaGreatDoor
open Go Go.Proofs Go.RowKit
namespace AE
variable [Sig]
theorem callRCmp {x y r : Value} {p q : St} (hp : plainSL [x, y] = true) (hr : plainS r = true) (ev : interpL [x, y] = [p.val, q.val]) (er : interp r = .int .i64 (cmpS p q)) : CallFactOk Tryz.prog (13, [x, y], r) :=
  callAny (a := #[p.val, q.val]) hp hr ev er fun w _ => RCmp.any w p q
end AE
end Go.Proofs.YtheaofepenbcgaaGreatDoor

/- Orderly of the reference -/
namespace Go.Proofs.YtheaofepenbcgaaGreatDoor
open Go Go.Proofs Go.RowKit
namespace AE
namespace ROrd
noncomputable def body : Code := (Tryz.f15.body).getD .skip
def N : Nat := 71
noncomputable abbrev at' (N : Nat) (F : List (FOp × Value)) (C : List (FuncId × List Value × Value)) (c : Code) (s : ASt) : Option Stop := evalTo Tryz.prog F C N 1000 10 c s
noncomputable abbrev leave' (N : Nat) (F : List (FOp × Value)) (C : List (FuncId × List Value × Value)) (ks : List KI) (o : Option Stop) : Option Stop := evalLeave Tryz.prog F C N 1000 10 ks o
noncomputable abbrev unr' (N : Nat) (F : List (FOp × Value)) (C : List (FuncId × List Value × Value)) (m : Nat) (o : Option Stop) : Option Stop := evalUnroll Tryz.prog F C N 1000 10 m o
noncomputable abbrev res' (N : Nat) (F : List (FOp × Value)) (C : List (FuncId × List Value × Value)) (ks : List KI) (x : AX) (s : ASt) : Option Stop := evalRes Tryz.prog F C N 1000 10 ks x s
noncomputable abbrev ops' (N : Nat) (F : List (FOp × Value)) (C : List (FuncId × List Value × Value)) (r : List Oper) (ops : Array Oper) (ks : List KI) (s : ASt) : Option Stop := evalOps Tryz.prog F C N 1000 10 r ops ks s
def s0 : ASt := { sl := slots [(0, symv 0)], ms := [], A := start }
def F0 : List (FOp × Value) := []
def C0 : List (FuncId × List Value × Value) := []
-- loop 0: slots [(3, .int .i64 0), (2, .bool false), (0, symv 0)] blocks 0 ms [] []
noncomputable def bks0 : List Bk := []
def head0 : Sl := slots [(3, symv 1), (0, symv 0)]
noncomputable abbrev at0 := at' 71 F0 C0 body s0
set_option maxRecDepth 100000 in
theorem e0 : headObs head0 bks0 at0 = some [(symv 0, symv 0), (.int .i64 0, symv 1)] := by kernel_rfl
def F1 : List (FOp × Value) := [(.len #[22] 3 (symv 0), symv 2),
    (.bin .lss 3 (symv 1) (symv 2), .bool true),
    (.ixa 22 (symv 0) (symv 1), symv 3),
    (.ld 24 (symv 3), .agg ⟨[symv 4, symv 5, symv 6, symv 7]⟩)]
def C1 : List (FuncId × List Value × Value) := [(11, [.agg ⟨[symv 4, symv 5, symv 6, symv 7]⟩], .bool true)]
-- loop 1: slots [(20, .bool false), (19, .bool true), (18, .bool true), (17, .agg ⟨[symv 4, symv 5, symv 6, symv 7]⟩), (16, symv 3), (15, symv 1), (14, symv 0), (11, .bool true), (10, symv 2), (9, symv 0), (8, symv 1), (5, .int .i64 0), (4, .bool true), (3, symv 1), (0, symv 0)] blocks 0 ms [] []
noncomputable def bks1 : List Bk := []
def head1 : Sl := slots [(5, symv 8), (3, symv 1), (0, symv 0)]
noncomputable abbrev at1 := at' 71 F1 C1 (stopCode at0) (headSt head0 bks0)
set_option maxRecDepth 100000 in
theorem e1 : headObs head1 bks1 at1 = some [(symv 0, symv 0), (symv 1, symv 1), (.int .i64 0, symv 8)] := by kernel_rfl
def F2 : List (FOp × Value) := [(.len #[22] 3 (symv 0), symv 2),
    (.bin .lss 3 (symv 8) (symv 2), .bool true),
    (.ixa 22 (symv 0) (symv 1), symv 3),
    (.ld 24 (symv 3), .agg ⟨[symv 4, symv 5, symv 6, symv 7]⟩),
    (.ixa 22 (symv 0) (symv 8), symv 9),
    (.ld 24 (symv 9), .agg ⟨[symv 10, symv 11, symv 12, symv 13]⟩),
    (.bin .neq 3 (symv 6) (symv 12), .bool false),
    (.bin .eql 3 (symv 7) (symv 13), .bool true),
    (.bin .neq 24 (.agg ⟨[symv 4, symv 5, symv 6, symv 7]⟩) (.agg ⟨[symv 10, symv 11, symv 12, symv 13]⟩), .bool false),
    (.bin .lss 3 (symv 7) (symv 13), .bool true),
    (.bin .geq 3 (symv 5) (symv 11), .bool true)]
def C2 : List (FuncId × List Value × Value) := []
set_option maxRecDepth 100000 in
theorem e2 : endVal Tryz.prog Tryz.f15 (leave' 71 F0 C0 (stopKs at0) (leave' 71 F0 C0 (stopKs at1) (at' 71 F2 C2 (stopCode at1) (headSt head1 bks1)))) = some (.bool false) := by kernel_rfl
def F3 : List (FOp × Value) := [(.len #[22] 3 (symv 0), symv 2),
    (.bin .lss 3 (symv 8) (symv 2), .bool true),
    (.ixa 22 (symv 0) (symv 1), symv 3),
    (.ld 24 (symv 3), .agg ⟨[symv 4, symv 5, symv 6, symv 7]⟩),
    (.ixa 22 (symv 0) (symv 8), symv 9),
    (.ld 24 (symv 9), .agg ⟨[symv 10, symv 11, symv 12, symv 13]⟩),
    (.bin .neq 3 (symv 6) (symv 12), .bool false),
    (.bin .eql 3 (symv 7) (symv 13), .bool true),
    (.bin .neq 24 (.agg ⟨[symv 4, symv 5, symv 6, symv 7]⟩) (.agg ⟨[symv 10, symv 11, symv 12, symv 13]⟩), .bool false),
    (.bin .lss 3 (symv 7) (symv 13), .bool true),
    (.bin .geq 3 (symv 5) (symv 11), .bool false),
    (.bin .gtr 3 (symv 4) (symv 10), .bool true)]
def C3 : List (FuncId × List Value × Value) := []
set_option maxRecDepth 100000 in
theorem e3 : endVal Tryz.prog Tryz.f15 (leave' 71 F0 C0 (stopKs at0) (leave' 71 F0 C0 (stopKs at1) (at' 71 F3 C3 (stopCode at1) (headSt head1 bks1)))) = some (.bool false) := by kernel_rfl
def F4 : List (FOp × Value) := [(.len #[22] 3 (symv 0), symv 2),
    (.bin .lss 3 (symv 8) (symv 2), .bool true),
    (.ixa 22 (symv 0) (symv 1), symv 3),
    (.ld 24 (symv 3), .agg ⟨[symv 4, symv 5, symv 6, symv 7]⟩),
    (.ixa 22 (symv 0) (symv 8), symv 9),
    (.ld 24 (symv 9), .agg ⟨[symv 10, symv 11, symv 12, symv 13]⟩),
    (.bin .neq 3 (symv 6) (symv 12), .bool false),
    (.bin .eql 3 (symv 7) (symv 13), .bool true),
    (.bin .neq 24 (.agg ⟨[symv 4, symv 5, symv 6, symv 7]⟩) (.agg ⟨[symv 10, symv 11, symv 12, symv 13]⟩), .bool false),
    (.bin .lss 3 (symv 7) (symv 13), .bool true),
    (.bin .geq 3 (symv 5) (symv 11), .bool false),
    (.bin .gtr 3 (symv 4) (symv 10), .bool false),
    (.bin .add 3 (symv 8) (.int .i64 1), symv 14)]
def C4 : List (FuncId × List Value × Value) := []
set_option maxRecDepth 100000 in
theorem e4 : backObs head1 bks1 (at' 71 F4 C4 (stopCode at1) (headSt head1 bks1)) = some [(symv 0, symv 0), (symv 1, symv 1), (symv 14, symv 8)] := by kernel_rfl
def F5 : List (FOp × Value) := [(.len #[22] 3 (symv 0), symv 2),
    (.bin .lss 3 (symv 8) (symv 2), .bool true),
    (.ixa 22 (symv 0) (symv 1), symv 3),
    (.ld 24 (symv 3), .agg ⟨[symv 4, symv 5, symv 6, symv 7]⟩),
    (.ixa 22 (symv 0) (symv 8), symv 9),
    (.ld 24 (symv 9), .agg ⟨[symv 10, symv 11, symv 12, symv 13]⟩),
    (.bin .neq 3 (symv 6) (symv 12), .bool false),
    (.bin .eql 3 (symv 7) (symv 13), .bool true),
    (.bin .neq 24 (.agg ⟨[symv 4, symv 5, symv 6, symv 7]⟩) (.agg ⟨[symv 10, symv 11, symv 12, symv 13]⟩), .bool false),
    (.bin .lss 3 (symv 7) (symv 13), .bool false),
    (.bin .add 3 (symv 8) (.int .i64 1), symv 14)]
def C5 : List (FuncId × List Value × Value) := []
set_option maxRecDepth 100000 in
theorem e5 : backObs head1 bks1 (at' 71 F5 C5 (stopCode at1) (headSt head1 bks1)) = some [(symv 0, symv 0), (symv 1, symv 1), (symv 14, symv 8)] := by kernel_rfl
def F6 : List (FOp × Value) := [(.len #[22] 3 (symv 0), symv 2),
    (.bin .lss 3 (symv 8) (symv 2), .bool true),
    (.ixa 22 (symv 0) (symv 1), symv 3),
    (.ld 24 (symv 3), .agg ⟨[symv 4, symv 5, symv 6, symv 7]⟩),
    (.ixa 22 (symv 0) (symv 8), symv 9),
    (.ld 24 (symv 9), .agg ⟨[symv 10, symv 11, symv 12, symv 13]⟩),
    (.bin .neq 3 (symv 6) (symv 12), .bool false),
    (.bin .eql 3 (symv 7) (symv 13), .bool true),
    (.bin .neq 24 (.agg ⟨[symv 4, symv 5, symv 6, symv 7]⟩) (.agg ⟨[symv 10, symv 11, symv 12, symv 13]⟩), .bool true)]
def C6 : List (FuncId × List Value × Value) := []
set_option maxRecDepth 100000 in
theorem e6 : endVal Tryz.prog Tryz.f15 (leave' 71 F0 C0 (stopKs at0) (leave' 71 F0 C0 (stopKs at1) (at' 71 F6 C6 (stopCode at1) (headSt head1 bks1)))) = some (.bool false) := by kernel_rfl
def F7 : List (FOp × Value) := [(.len #[22] 3 (symv 0), symv 2),
    (.bin .lss 3 (symv 8) (symv 2), .bool true),
    (.ixa 22 (symv 0) (symv 1), symv 3),
    (.ld 24 (symv 3), .agg ⟨[symv 4, symv 5, symv 6, symv 7]⟩),
    (.ixa 22 (symv 0) (symv 8), symv 9),
    (.ld 24 (symv 9), .agg ⟨[symv 10, symv 11, symv 12, symv 13]⟩),
    (.bin .neq 3 (symv 6) (symv 12), .bool false),
    (.bin .eql 3 (symv 7) (symv 13), .bool false),
    (.bin .lss 3 (symv 7) (symv 13), .bool true),
    (.bin .geq 3 (symv 5) (symv 11), .bool true)]
def C7 : List (FuncId × List Value × Value) := []
set_option maxRecDepth 100000 in
theorem e7 : endVal Tryz.prog Tryz.f15 (leave' 71 F0 C0 (stopKs at0) (leave' 71 F0 C0 (stopKs at1) (at' 71 F7 C7 (stopCode at1) (headSt head1 bks1)))) = some (.bool false) := by kernel_rfl
def F8 : List (FOp × Value) := [(.len #[22] 3 (symv 0), symv 2),
    (.bin .lss 3 (symv 8) (symv 2), .bool true),
    (.ixa 22 (symv 0) (symv 1), symv 3),
    (.ld 24 (symv 3), .agg ⟨[symv 4, symv 5, symv 6, symv 7]⟩),
    (.ixa 22 (symv 0) (symv 8), symv 9),
    (.ld 24 (symv 9), .agg ⟨[symv 10, symv 11, symv 12, symv 13]⟩),
    (.bin .neq 3 (symv 6) (symv 12), .bool false),
    (.bin .eql 3 (symv 7) (symv 13), .bool false),
    (.bin .lss 3 (symv 7) (symv 13), .bool true),
    (.bin .geq 3 (symv 5) (symv 11), .bool false),
    (.bin .gtr 3 (symv 4) (symv 10), .bool true)]
def C8 : List (FuncId × List Value × Value) := []
set_option maxRecDepth 100000 in
theorem e8 : endVal Tryz.prog Tryz.f15 (leave' 71 F0 C0 (stopKs at0) (leave' 71 F0 C0 (stopKs at1) (at' 71 F8 C8 (stopCode at1) (headSt head1 bks1)))) = some (.bool false) := by kernel_rfl
def F9 : List (FOp × Value) := [(.len #[22] 3 (symv 0), symv 2),
    (.bin .lss 3 (symv 8) (symv 2), .bool true),
    (.ixa 22 (symv 0) (symv 1), symv 3),
    (.ld 24 (symv 3), .agg ⟨[symv 4, symv 5, symv 6, symv 7]⟩),
    (.ixa 22 (symv 0) (symv 8), symv 9),
    (.ld 24 (symv 9), .agg ⟨[symv 10, symv 11, symv 12, symv 13]⟩),
    (.bin .neq 3 (symv 6) (symv 12), .bool false),
    (.bin .eql 3 (symv 7) (symv 13), .bool false),
    (.bin .lss 3 (symv 7) (symv 13), .bool true),
    (.bin .geq 3 (symv 5) (symv 11), .bool false),
    (.bin .gtr 3 (symv 4) (symv 10), .bool false),
    (.bin .add 3 (symv 8) (.int .i64 1), symv 14)]
def C9 : List (FuncId × List Value × Value) := []
set_option maxRecDepth 100000 in
theorem e9 : backObs head1 bks1 (at' 71 F9 C9 (stopCode at1) (headSt head1 bks1)) = some [(symv 0, symv 0), (symv 1, symv 1), (symv 14, symv 8)] := by kernel_rfl
def F10 : List (FOp × Value) := [(.len #[22] 3 (symv 0), symv 2),
    (.bin .lss 3 (symv 8) (symv 2), .bool true),
    (.ixa 22 (symv 0) (symv 1), symv 3),
    (.ld 24 (symv 3), .agg ⟨[symv 4, symv 5, symv 6, symv 7]⟩),
    (.ixa 22 (symv 0) (symv 8), symv 9),
    (.ld 24 (symv 9), .agg ⟨[symv 10, symv 11, symv 12, symv 13]⟩),
    (.bin .neq 3 (symv 6) (symv 12), .bool false),
    (.bin .eql 3 (symv 7) (symv 13), .bool false),
    (.bin .lss 3 (symv 7) (symv 13), .bool false),
    (.bin .add 3 (symv 8) (.int .i64 1), symv 14)]
def C10 : List (FuncId × List Value × Value) := []
set_option maxRecDepth 100000 in
theorem e10 : backObs head1 bks1 (at' 71 F10 C10 (stopCode at1) (headSt head1 bks1)) = some [(symv 0, symv 0), (symv 1, symv 1), (symv 14, symv 8)] := by kernel_rfl
def F11 : List (FOp × Value) := [(.len #[22] 3 (symv 0), symv 2),
    (.bin .lss 3 (symv 8) (symv 2), .bool true),
    (.ixa 22 (symv 0) (symv 1), symv 3),
    (.ld 24 (symv 3), .agg ⟨[symv 4, symv 5, symv 6, symv 7]⟩),
    (.ixa 22 (symv 0) (symv 8), symv 9),
    (.ld 24 (symv 9), .agg ⟨[symv 10, symv 11, symv 12, symv 13]⟩),
    (.bin .neq 3 (symv 6) (symv 12), .bool true),
    (.bin .add 3 (symv 8) (.int .i64 1), symv 14)]
def C11 : List (FuncId × List Value × Value) := []
set_option maxRecDepth 100000 in
theorem e11 : backObs head1 bks1 (at' 71 F11 C11 (stopCode at1) (headSt head1 bks1)) = some [(symv 0, symv 0), (symv 1, symv 1), (symv 14, symv 8)] := by kernel_rfl
def F12 : List (FOp × Value) := [(.len #[22] 3 (symv 0), symv 2),
    (.bin .lss 3 (symv 8) (symv 2), .bool false)]
def C12 : List (FuncId × List Value × Value) := []
def F13 : List (FOp × Value) := [(.bin .add 3 (symv 1) (.int .i64 1), symv 15)]
def C13 : List (FuncId × List Value × Value) := []
set_option maxRecDepth 100000 in
theorem e12 : backObs head0 bks0 (leave' 71 F13 C13 (stopKs at1) (at' 71 F12 C12 (stopCode at1) (headSt head1 bks1))) = some [(symv 0, symv 0), (symv 15, symv 1)] := by kernel_rfl
def F14 : List (FOp × Value) := [(.len #[22] 3 (symv 0), symv 2),
    (.bin .lss 3 (symv 1) (symv 2), .bool true),
    (.ixa 22 (symv 0) (symv 1), symv 3),
    (.ld 24 (symv 3), .agg ⟨[symv 4, symv 5, symv 6, symv 7]⟩)]
def C14 : List (FuncId × List Value × Value) := [(11, [.agg ⟨[symv 4, symv 5, symv 6, symv 7]⟩], .bool false)]
set_option maxRecDepth 100000 in
theorem e13 : endVal Tryz.prog Tryz.f15 (leave' 71 F0 C0 (stopKs at0) (at' 71 F14 C14 (stopCode at0) (headSt head0 bks0))) = some (.bool false) := by kernel_rfl
def F15 : List (FOp × Value) := [(.len #[22] 3 (symv 0), symv 2),
    (.bin .lss 3 (symv 1) (symv 2), .bool false)]
def C15 : List (FuncId × List Value × Value) := []
set_option maxRecDepth 100000 in
theorem e14 : endVal Tryz.prog Tryz.f15 (leave' 71 F0 C0 (stopKs at0) (at' 71 F15 C15 (stopCode at0) (headSt head0 bks0))) = some (.bool true) := by kernel_rfl
@[reducible] noncomputable def vL (l : List St) (a_l : Option Addr) (c_l : Nat) (i : Nat) (k : Nat) : List Value := [.slice a_l l.length c_l, .int .i64 ((i : Nat) : Int), .int .i64 ((l.length : Nat) : Int), cellPtr (.slice a_l l.length c_l) (i * 4), .int .i64 (l.getD (i) default).1, .int .i64 (l.getD (i) default).2.1, .int .i64 (l.getD (i) default).2.2.1, .int .i64 (l.getD (i) default).2.2.2, .int .i64 ((k : Nat) : Int), cellPtr (.slice a_l l.length c_l) (k * 4), .int .i64 (l.getD (k) default).1, .int .i64 (l.getD (k) default).2.1, .int .i64 (l.getD (k) default).2.2.1, .int .i64 (l.getD (k) default).2.2.2, .int .i64 ((k + 1 : Nat) : Int), .int .i64 ((i + 1 : Nat) : Int)]
@[reducible] noncomputable def sg (M : Mem) (l : List St) (a_l : Option Addr) (c_l : Nat) (i : Nat) (k : Nat) : Sig := sgL M (vL l a_l c_l i k)
set_option maxHeartbeats 4000000 in
set_option maxRecDepth 100000 in
theorem any (W : World) {v_l : Value} {l : List St} (hl : Arr (heapOf W) 4 encS v_l l) (hn : l.length ≤ 100000) : Calls Tryz.prog 15 #[v_l] W fun e w' => e = .returned (.bool (ordB l)) ∧ Low W.heap.size W w' := by
  obtain ⟨a_l, c_l, rfl⟩ := hl.slice
  refine @walk_enter (sg (heapOf W) l a_l c_l 0 0) Tryz.prog 15 Tryz.f15 body [symv 0] (slots [(0, symv 0)]) N W _ Tryz.func15 (by kernel_rfl) (by kernel_rfl) (by kernel_rfl) (by kernel_rfl) (immW_sgL W _) fun a hh => ?_
  letI := (sg (heapOf W) l a_l c_l 0 0)
  refine walk_to (F := F0) (T := C0) (fuel := 1000) (d := 10) mixed allF_nil allC_nil ?_ hh
  -- LOOP 0: slot 2 = .bool false is written in the loop: left out
  refine ostop_loop (sg := (fun i => sg (heapOf W) l a_l c_l i 0)) (fun i => i ≤ l.length ∧ (∀ j, j < i → ValidP (l.getD j default) ∧ ∀ k, k < l.length → pairOk (l.getD j default) (l.getD k default))) (fun i => l.length - i) 0 e0 (meet_cons (by exact meetV (.slice a_l l.length c_l) rfl rfl) (meet_cons rfl meet_nil)) (fun _ _ h => h) (by exact ⟨Nat.zero_le _, fun j h => absurd h (Nat.not_lt_zero _)⟩) ?_
  intro i hI aC w hh
  letI := (sg (heapOf W) l a_l c_l i 0)
  have hI0 := hI
  by_cases p0 : ((i : Nat) : Int) < ((l.length : Nat) : Int)
  · by_cases p1 : ValidP (l.getD (i) default)
    · refine walk_to (F := F1) (T := C1) (fuel := 1000) (d := 10) mixed (allF_cons (FactOk.arrLen hl rfl rfl under27 rfl rfl) (allF_cons (FactOk.bi rfl rfl rfl rfl rfl rfl (boolT (by omega))) (allF_cons (FactOk.arrIxa hl (show i < l.length by omega) rfl rfl rfl under27 sizeSt rfl rfl rfl) (allF_cons (FactOk.arrLd hl (getSome (show i < l.length by omega)) rfl rfl aggSt sizeSt rfl rfl rfl) allF_nil)))) (allC_cons (callRValidT rfl rfl p1) allC_nil) ?_ hh
      refine ostop_loop (sg := (fun k => sg (heapOf W) l a_l c_l i k)) (fun k => k ≤ l.length ∧ (∀ j, j < k → pairOk (l.getD i default) (l.getD j default))) (fun k => l.length - k) 0 e1 (meet_cons (by exact meetV (.slice a_l l.length c_l) rfl rfl) (meet_cons (by exact meetV (.int .i64 ((i : Nat) : Int)) rfl rfl) (meet_cons rfl meet_nil))) (fun _ _ h => h) (by exact ⟨Nat.zero_le _, fun j h => absurd h (Nat.not_lt_zero _)⟩) ?_
      intro k hI aC w hh
      letI := (sg (heapOf W) l a_l c_l i k)
      by_cases q0 : ((k : Nat) : Int) < ((l.length : Nat) : Int)
      · by_cases q1 : (l.getD (i) default).2.2.1 = (l.getD (k) default).2.2.1
        · by_cases q2 : (l.getD (i) default).2.2.2 = (l.getD (k) default).2.2.2
          · by_cases q3 : (l.getD (i) default) = (l.getD (k) default)
            · by_cases q4 : (l.getD (i) default).2.2.2 < (l.getD (k) default).2.2.2
              · by_cases q5 : (l.getD (k) default).2.1 ≤ (l.getD (i) default).2.1
                · refine walk_to (F := F2) (T := C2) (fuel := 1000) (d := 10) mixed (allF_cons (FactOk.arrLen hl rfl rfl under27 rfl rfl) (allF_cons (FactOk.bi rfl rfl rfl rfl rfl rfl (boolT (by omega))) (allF_cons (FactOk.arrIxa hl (show i < l.length by omega) rfl rfl rfl under27 sizeSt rfl rfl rfl) (allF_cons (FactOk.arrLd hl (getSome (show i < l.length by omega)) rfl rfl aggSt sizeSt rfl rfl rfl) (allF_cons (FactOk.arrIxa hl (show k < l.length by omega) rfl rfl rfl under27 sizeSt rfl rfl rfl) (allF_cons (FactOk.arrLd hl (getSome (show k < l.length by omega)) rfl rfl aggSt sizeSt rfl rfl rfl) (allF_cons (FactOk.bi rfl rfl rfl rfl rfl rfl (nboolF (by omega))) (allF_cons (FactOk.bi rfl rfl rfl rfl rfl rfl (boolT (by omega))) (allF_cons (neqS rfl rfl rfl rfl (by rw [decide_eq_true q3]; rfl)) (allF_cons (FactOk.bi rfl rfl rfl rfl rfl rfl (boolT (by omega))) (allF_cons (FactOk.bi rfl rfl rfl rfl rfl rfl (boolT (by omega))) allF_nil))))))))))) allC_nil ?_ hh
                  refine walk_leave (F := F0) (T := C0) (fuel := 1000) (d := 10) mixed allF_nil allC_nil ?_
                  refine walk_leave (F := F0) (T := C0) (fuel := 1000) (d := 10) mixed allF_nil allC_nil ?_
                  exact ostop_end e2 fun w2 hLow hIn => ⟨(by refine congrArg (fun z => Ending.returned (.bool z)) ?_; first | exact ordB_true (fun j hj => hI.2 j (by omega)) | exact ordB_noV (show i < l.length by omega) p1 | (exact ordB_noP (show i < l.length by omega) (show k < l.length by omega) (fun h => by have h2 := h (by omega); first | omega | (exact q3 (h2.1 (by omega)))))), hLow⟩   -- returns .bool false
                · by_cases q6 : (l.getD (k) default).1 < (l.getD (i) default).1
                  · refine walk_to (F := F3) (T := C3) (fuel := 1000) (d := 10) mixed (allF_cons (FactOk.arrLen hl rfl rfl under27 rfl rfl) (allF_cons (FactOk.bi rfl rfl rfl rfl rfl rfl (boolT (by omega))) (allF_cons (FactOk.arrIxa hl (show i < l.length by omega) rfl rfl rfl under27 sizeSt rfl rfl rfl) (allF_cons (FactOk.arrLd hl (getSome (show i < l.length by omega)) rfl rfl aggSt sizeSt rfl rfl rfl) (allF_cons (FactOk.arrIxa hl (show k < l.length by omega) rfl rfl rfl under27 sizeSt rfl rfl rfl) (allF_cons (FactOk.arrLd hl (getSome (show k < l.length by omega)) rfl rfl aggSt sizeSt rfl rfl rfl) (allF_cons (FactOk.bi rfl rfl rfl rfl rfl rfl (nboolF (by omega))) (allF_cons (FactOk.bi rfl rfl rfl rfl rfl rfl (boolT (by omega))) (allF_cons (neqS rfl rfl rfl rfl (by rw [decide_eq_true q3]; rfl)) (allF_cons (FactOk.bi rfl rfl rfl rfl rfl rfl (boolT (by omega))) (allF_cons (FactOk.bi rfl rfl rfl rfl rfl rfl (boolF (by omega))) (allF_cons (FactOk.bi rfl rfl rfl rfl rfl rfl (boolT (by omega))) allF_nil)))))))))))) allC_nil ?_ hh
                    refine walk_leave (F := F0) (T := C0) (fuel := 1000) (d := 10) mixed allF_nil allC_nil ?_
                    refine walk_leave (F := F0) (T := C0) (fuel := 1000) (d := 10) mixed allF_nil allC_nil ?_
                    exact ostop_end e3 fun w2 hLow hIn => ⟨(by refine congrArg (fun z => Ending.returned (.bool z)) ?_; first | exact ordB_true (fun j hj => hI.2 j (by omega)) | exact ordB_noV (show i < l.length by omega) p1 | (exact ordB_noP (show i < l.length by omega) (show k < l.length by omega) (fun h => by have h2 := h (by omega); first | omega | (exact q3 (h2.1 (by omega)))))), hLow⟩   -- returns .bool false
                  · refine walk_to (F := F4) (T := C4) (fuel := 1000) (d := 10) mixed (allF_cons (FactOk.arrLen hl rfl rfl under27 rfl rfl) (allF_cons (FactOk.bi rfl rfl rfl rfl rfl rfl (boolT (by omega))) (allF_cons (FactOk.arrIxa hl (show i < l.length by omega) rfl rfl rfl under27 sizeSt rfl rfl rfl) (allF_cons (FactOk.arrLd hl (getSome (show i < l.length by omega)) rfl rfl aggSt sizeSt rfl rfl rfl) (allF_cons (FactOk.arrIxa hl (show k < l.length by omega) rfl rfl rfl under27 sizeSt rfl rfl rfl) (allF_cons (FactOk.arrLd hl (getSome (show k < l.length by omega)) rfl rfl aggSt sizeSt rfl rfl rfl) (allF_cons (FactOk.bi rfl rfl rfl rfl rfl rfl (nboolF (by omega))) (allF_cons (FactOk.bi rfl rfl rfl rfl rfl rfl (boolT (by omega))) (allF_cons (neqS rfl rfl rfl rfl (by rw [decide_eq_true q3]; rfl)) (allF_cons (FactOk.bi rfl rfl rfl rfl rfl rfl (boolT (by omega))) (allF_cons (FactOk.bi rfl rfl rfl rfl rfl rfl (boolF (by omega))) (allF_cons (FactOk.bi rfl rfl rfl rfl rfl rfl (boolF (by omega))) (allF_cons (FactOk.bi rfl rfl rfl rfl rfl rfl (intI (by omega) (by omega) (by omega))) allF_nil))))))))))))) allC_nil ?_ hh
                    exact ostop_backM (s1 := (sg (heapOf W) l a_l c_l i k)) (sg := (fun k => sg (heapOf W) l a_l c_l i k)) (I := fun k => k ≤ l.length ∧ (∀ j, j < k → pairOk (l.getD i default) (l.getD j default))) (μ := fun k => l.length - k) (x := k) (k + 1) e4 (meet_cons (by exact meetV (.slice a_l l.length c_l) rfl rfl) (meet_cons (by exact meetV (.int .i64 ((i : Nat) : Int)) rfl rfl) (meet_cons (by exact meetV (.int .i64 ((k + 1 : Nat) : Int)) rfl rfl) meet_nil))) (fun _ _ h => h) (by exact ⟨by omega, fun j hj => by rcases Nat.lt_succ_iff_lt_or_eq.1 hj with h | rfl; exact hI.2 j h; exact fun hs => ⟨fun hq => by first | omega | exact q3 | (exact absurd hs q1), fun hq => by omega⟩⟩) (by (try dsimp only); omega)
              · refine walk_to (F := F5) (T := C5) (fuel := 1000) (d := 10) mixed (allF_cons (FactOk.arrLen hl rfl rfl under27 rfl rfl) (allF_cons (FactOk.bi rfl rfl rfl rfl rfl rfl (boolT (by omega))) (allF_cons (FactOk.arrIxa hl (show i < l.length by omega) rfl rfl rfl under27 sizeSt rfl rfl rfl) (allF_cons (FactOk.arrLd hl (getSome (show i < l.length by omega)) rfl rfl aggSt sizeSt rfl rfl rfl) (allF_cons (FactOk.arrIxa hl (show k < l.length by omega) rfl rfl rfl under27 sizeSt rfl rfl rfl) (allF_cons (FactOk.arrLd hl (getSome (show k < l.length by omega)) rfl rfl aggSt sizeSt rfl rfl rfl) (allF_cons (FactOk.bi rfl rfl rfl rfl rfl rfl (nboolF (by omega))) (allF_cons (FactOk.bi rfl rfl rfl rfl rfl rfl (boolT (by omega))) (allF_cons (neqS rfl rfl rfl rfl (by rw [decide_eq_true q3]; rfl)) (allF_cons (FactOk.bi rfl rfl rfl rfl rfl rfl (boolF (by omega))) (allF_cons (FactOk.bi rfl rfl rfl rfl rfl rfl (intI (by omega) (by omega) (by omega))) allF_nil))))))))))) allC_nil ?_ hh
                exact ostop_backM (s1 := (sg (heapOf W) l a_l c_l i k)) (sg := (fun k => sg (heapOf W) l a_l c_l i k)) (I := fun k => k ≤ l.length ∧ (∀ j, j < k → pairOk (l.getD i default) (l.getD j default))) (μ := fun k => l.length - k) (x := k) (k + 1) e5 (meet_cons (by exact meetV (.slice a_l l.length c_l) rfl rfl) (meet_cons (by exact meetV (.int .i64 ((i : Nat) : Int)) rfl rfl) (meet_cons (by exact meetV (.int .i64 ((k + 1 : Nat) : Int)) rfl rfl) meet_nil))) (fun _ _ h => h) (by exact ⟨by omega, fun j hj => by rcases Nat.lt_succ_iff_lt_or_eq.1 hj with h | rfl; exact hI.2 j h; exact fun hs => ⟨fun hq => by first | omega | exact q3 | (exact absurd hs q1), fun hq => by omega⟩⟩) (by (try dsimp only); omega)
            · refine walk_to (F := F6) (T := C6) (fuel := 1000) (d := 10) mixed (allF_cons (FactOk.arrLen hl rfl rfl under27 rfl rfl) (allF_cons (FactOk.bi rfl rfl rfl rfl rfl rfl (boolT (by omega))) (allF_cons (FactOk.arrIxa hl (show i < l.length by omega) rfl rfl rfl under27 sizeSt rfl rfl rfl) (allF_cons (FactOk.arrLd hl (getSome (show i < l.length by omega)) rfl rfl aggSt sizeSt rfl rfl rfl) (allF_cons (FactOk.arrIxa hl (show k < l.length by omega) rfl rfl rfl under27 sizeSt rfl rfl rfl) (allF_cons (FactOk.arrLd hl (getSome (show k < l.length by omega)) rfl rfl aggSt sizeSt rfl rfl rfl) (allF_cons (FactOk.bi rfl rfl rfl rfl rfl rfl (nboolF (by omega))) (allF_cons (FactOk.bi rfl rfl rfl rfl rfl rfl (boolT (by omega))) (allF_cons (neqS rfl rfl rfl rfl (by rw [decide_eq_false q3]; rfl)) allF_nil))))))))) allC_nil ?_ hh
              refine walk_leave (F := F0) (T := C0) (fuel := 1000) (d := 10) mixed allF_nil allC_nil ?_
              refine walk_leave (F := F0) (T := C0) (fuel := 1000) (d := 10) mixed allF_nil allC_nil ?_
              exact ostop_end e6 fun w2 hLow hIn => ⟨(by refine congrArg (fun z => Ending.returned (.bool z)) ?_; first | exact ordB_true (fun j hj => hI.2 j (by omega)) | exact ordB_noV (show i < l.length by omega) p1 | (exact ordB_noP (show i < l.length by omega) (show k < l.length by omega) (fun h => by have h2 := h (by omega); first | omega | (exact q3 (h2.1 (by omega)))))), hLow⟩   -- returns .bool false
          · by_cases q3 : (l.getD (i) default).2.2.2 < (l.getD (k) default).2.2.2
            · by_cases q4 : (l.getD (k) default).2.1 ≤ (l.getD (i) default).2.1
              · refine walk_to (F := F7) (T := C7) (fuel := 1000) (d := 10) mixed (allF_cons (FactOk.arrLen hl rfl rfl under27 rfl rfl) (allF_cons (FactOk.bi rfl rfl rfl rfl rfl rfl (boolT (by omega))) (allF_cons (FactOk.arrIxa hl (show i < l.length by omega) rfl rfl rfl under27 sizeSt rfl rfl rfl) (allF_cons (FactOk.arrLd hl (getSome (show i < l.length by omega)) rfl rfl aggSt sizeSt rfl rfl rfl) (allF_cons (FactOk.arrIxa hl (show k < l.length by omega) rfl rfl rfl under27 sizeSt rfl rfl rfl) (allF_cons (FactOk.arrLd hl (getSome (show k < l.length by omega)) rfl rfl aggSt sizeSt rfl rfl rfl) (allF_cons (FactOk.bi rfl rfl rfl rfl rfl rfl (nboolF (by omega))) (allF_cons (FactOk.bi rfl rfl rfl rfl rfl rfl (boolF (by omega))) (allF_cons (FactOk.bi rfl rfl rfl rfl rfl rfl (boolT (by omega))) (allF_cons (FactOk.bi rfl rfl rfl rfl rfl rfl (boolT (by omega))) allF_nil)))))))))) allC_nil ?_ hh
                refine walk_leave (F := F0) (T := C0) (fuel := 1000) (d := 10) mixed allF_nil allC_nil ?_
                refine walk_leave (F := F0) (T := C0) (fuel := 1000) (d := 10) mixed allF_nil allC_nil ?_
                exact ostop_end e7 fun w2 hLow hIn => ⟨(by refine congrArg (fun z => Ending.returned (.bool z)) ?_; first | exact ordB_true (fun j hj => hI.2 j (by omega)) | exact ordB_noV (show i < l.length by omega) p1 | (exact ordB_noP (show i < l.length by omega) (show k < l.length by omega) (fun h => by have h2 := h (by omega); first | omega | (exact q3 (h2.1 (by omega)))))), hLow⟩   -- returns .bool false
              · by_cases q5 : (l.getD (k) default).1 < (l.getD (i) default).1
                · refine walk_to (F := F8) (T := C8) (fuel := 1000) (d := 10) mixed (allF_cons (FactOk.arrLen hl rfl rfl under27 rfl rfl) (allF_cons (FactOk.bi rfl rfl rfl rfl rfl rfl (boolT (by omega))) (allF_cons (FactOk.arrIxa hl (show i < l.length by omega) rfl rfl rfl under27 sizeSt rfl rfl rfl) (allF_cons (FactOk.arrLd hl (getSome (show i < l.length by omega)) rfl rfl aggSt sizeSt rfl rfl rfl) (allF_cons (FactOk.arrIxa hl (show k < l.length by omega) rfl rfl rfl under27 sizeSt rfl rfl rfl) (allF_cons (FactOk.arrLd hl (getSome (show k < l.length by omega)) rfl rfl aggSt sizeSt rfl rfl rfl) (allF_cons (FactOk.bi rfl rfl rfl rfl rfl rfl (nboolF (by omega))) (allF_cons (FactOk.bi rfl rfl rfl rfl rfl rfl (boolF (by omega))) (allF_cons (FactOk.bi rfl rfl rfl rfl rfl rfl (boolT (by omega))) (allF_cons (FactOk.bi rfl rfl rfl rfl rfl rfl (boolF (by omega))) (allF_cons (FactOk.bi rfl rfl rfl rfl rfl rfl (boolT (by omega))) allF_nil))))))))))) allC_nil ?_ hh
                  refine walk_leave (F := F0) (T := C0) (fuel := 1000) (d := 10) mixed allF_nil allC_nil ?_
                  refine walk_leave (F := F0) (T := C0) (fuel := 1000) (d := 10) mixed allF_nil allC_nil ?_
                  exact ostop_end e8 fun w2 hLow hIn => ⟨(by refine congrArg (fun z => Ending.returned (.bool z)) ?_; first | exact ordB_true (fun j hj => hI.2 j (by omega)) | exact ordB_noV (show i < l.length by omega) p1 | (exact ordB_noP (show i < l.length by omega) (show k < l.length by omega) (fun h => by have h2 := h (by omega); first | omega | (exact q3 (h2.1 (by omega)))))), hLow⟩   -- returns .bool false
                · refine walk_to (F := F9) (T := C9) (fuel := 1000) (d := 10) mixed (allF_cons (FactOk.arrLen hl rfl rfl under27 rfl rfl) (allF_cons (FactOk.bi rfl rfl rfl rfl rfl rfl (boolT (by omega))) (allF_cons (FactOk.arrIxa hl (show i < l.length by omega) rfl rfl rfl under27 sizeSt rfl rfl rfl) (allF_cons (FactOk.arrLd hl (getSome (show i < l.length by omega)) rfl rfl aggSt sizeSt rfl rfl rfl) (allF_cons (FactOk.arrIxa hl (show k < l.length by omega) rfl rfl rfl under27 sizeSt rfl rfl rfl) (allF_cons (FactOk.arrLd hl (getSome (show k < l.length by omega)) rfl rfl aggSt sizeSt rfl rfl rfl) (allF_cons (FactOk.bi rfl rfl rfl rfl rfl rfl (nboolF (by omega))) (allF_cons (FactOk.bi rfl rfl rfl rfl rfl rfl (boolF (by omega))) (allF_cons (FactOk.bi rfl rfl rfl rfl rfl rfl (boolT (by omega))) (allF_cons (FactOk.bi rfl rfl rfl rfl rfl rfl (boolF (by omega))) (allF_cons (FactOk.bi rfl rfl rfl rfl rfl rfl (boolF (by omega))) (allF_cons (FactOk.bi rfl rfl rfl rfl rfl rfl (intI (by omega) (by omega) (by omega))) allF_nil)))))))))))) allC_nil ?_ hh
                  exact ostop_backM (s1 := (sg (heapOf W) l a_l c_l i k)) (sg := (fun k => sg (heapOf W) l a_l c_l i k)) (I := fun k => k ≤ l.length ∧ (∀ j, j < k → pairOk (l.getD i default) (l.getD j default))) (μ := fun k => l.length - k) (x := k) (k + 1) e9 (meet_cons (by exact meetV (.slice a_l l.length c_l) rfl rfl) (meet_cons (by exact meetV (.int .i64 ((i : Nat) : Int)) rfl rfl) (meet_cons (by exact meetV (.int .i64 ((k + 1 : Nat) : Int)) rfl rfl) meet_nil))) (fun _ _ h => h) (by exact ⟨by omega, fun j hj => by rcases Nat.lt_succ_iff_lt_or_eq.1 hj with h | rfl; exact hI.2 j h; exact fun hs => ⟨fun hq => by first | omega | exact q3 | (exact absurd hs q1), fun hq => by omega⟩⟩) (by (try dsimp only); omega)
            · refine walk_to (F := F10) (T := C10) (fuel := 1000) (d := 10) mixed (allF_cons (FactOk.arrLen hl rfl rfl under27 rfl rfl) (allF_cons (FactOk.bi rfl rfl rfl rfl rfl rfl (boolT (by omega))) (allF_cons (FactOk.arrIxa hl (show i < l.length by omega) rfl rfl rfl under27 sizeSt rfl rfl rfl) (allF_cons (FactOk.arrLd hl (getSome (show i < l.length by omega)) rfl rfl aggSt sizeSt rfl rfl rfl) (allF_cons (FactOk.arrIxa hl (show k < l.length by omega) rfl rfl rfl under27 sizeSt rfl rfl rfl) (allF_cons (FactOk.arrLd hl (getSome (show k < l.length by omega)) rfl rfl aggSt sizeSt rfl rfl rfl) (allF_cons (FactOk.bi rfl rfl rfl rfl rfl rfl (nboolF (by omega))) (allF_cons (FactOk.bi rfl rfl rfl rfl rfl rfl (boolF (by omega))) (allF_cons (FactOk.bi rfl rfl rfl rfl rfl rfl (boolF (by omega))) (allF_cons (FactOk.bi rfl rfl rfl rfl rfl rfl (intI (by omega) (by omega) (by omega))) allF_nil)))))))))) allC_nil ?_ hh
              exact ostop_backM (s1 := (sg (heapOf W) l a_l c_l i k)) (sg := (fun k => sg (heapOf W) l a_l c_l i k)) (I := fun k => k ≤ l.length ∧ (∀ j, j < k → pairOk (l.getD i default) (l.getD j default))) (μ := fun k => l.length - k) (x := k) (k + 1) e10 (meet_cons (by exact meetV (.slice a_l l.length c_l) rfl rfl) (meet_cons (by exact meetV (.int .i64 ((i : Nat) : Int)) rfl rfl) (meet_cons (by exact meetV (.int .i64 ((k + 1 : Nat) : Int)) rfl rfl) meet_nil))) (fun _ _ h => h) (by exact ⟨by omega, fun j hj => by rcases Nat.lt_succ_iff_lt_or_eq.1 hj with h | rfl; exact hI.2 j h; exact fun hs => ⟨fun hq => by first | omega | exact q3 | (exact absurd hs q1), fun hq => by omega⟩⟩) (by (try dsimp only); omega)
        · refine walk_to (F := F11) (T := C11) (fuel := 1000) (d := 10) mixed (allF_cons (FactOk.arrLen hl rfl rfl under27 rfl rfl) (allF_cons (FactOk.bi rfl rfl rfl rfl rfl rfl (boolT (by omega))) (allF_cons (FactOk.arrIxa hl (show i < l.length by omega) rfl rfl rfl under27 sizeSt rfl rfl rfl) (allF_cons (FactOk.arrLd hl (getSome (show i < l.length by omega)) rfl rfl aggSt sizeSt rfl rfl rfl) (allF_cons (FactOk.arrIxa hl (show k < l.length by omega) rfl rfl rfl under27 sizeSt rfl rfl rfl) (allF_cons (FactOk.arrLd hl (getSome (show k < l.length by omega)) rfl rfl aggSt sizeSt rfl rfl rfl) (allF_cons (FactOk.bi rfl rfl rfl rfl rfl rfl (nboolT (by omega))) (allF_cons (FactOk.bi rfl rfl rfl rfl rfl rfl (intI (by omega) (by omega) (by omega))) allF_nil)))))))) allC_nil ?_ hh
          exact ostop_backM (s1 := (sg (heapOf W) l a_l c_l i k)) (sg := (fun k => sg (heapOf W) l a_l c_l i k)) (I := fun k => k ≤ l.length ∧ (∀ j, j < k → pairOk (l.getD i default) (l.getD j default))) (μ := fun k => l.length - k) (x := k) (k + 1) e11 (meet_cons (by exact meetV (.slice a_l l.length c_l) rfl rfl) (meet_cons (by exact meetV (.int .i64 ((i : Nat) : Int)) rfl rfl) (meet_cons (by exact meetV (.int .i64 ((k + 1 : Nat) : Int)) rfl rfl) meet_nil))) (fun _ _ h => h) (by exact ⟨by omega, fun j hj => by rcases Nat.lt_succ_iff_lt_or_eq.1 hj with h | rfl; exact hI.2 j h; exact fun hs => ⟨fun hq => by first | omega | exact q3 | (exact absurd hs q1), fun hq => by omega⟩⟩) (by (try dsimp only); omega)
      · refine walk_to (F := F12) (T := C12) (fuel := 1000) (d := 10) mixed (allF_cons (FactOk.arrLen hl rfl rfl under27 rfl rfl) (allF_cons (FactOk.bi rfl rfl rfl rfl rfl rfl (boolF (by omega))) allF_nil)) allC_nil ?_ hh
        refine walk_leave (F := F13) (T := C13) (fuel := 1000) (d := 10) mixed (allF_cons (FactOk.bi rfl rfl rfl rfl rfl rfl (intI (by omega) (by omega) (by omega))) allF_nil) allC_nil ?_
        exact ostop_backM (s1 := (sg (heapOf W) l a_l c_l i k)) (sg := (fun i => sg (heapOf W) l a_l c_l i 0)) (I := fun i => i ≤ l.length ∧ (∀ j, j < i → ValidP (l.getD j default) ∧ ∀ k, k < l.length → pairOk (l.getD j default) (l.getD k default))) (μ := fun i => l.length - i) (x := i) (i + 1) e12 (meet_cons (by exact meetV (.slice a_l l.length c_l) rfl rfl) (meet_cons (by exact meetV (.int .i64 ((i + 1 : Nat) : Int)) rfl rfl) meet_nil)) (fun _ _ h => h) (by exact ⟨by omega, fun j hj => by rcases Nat.lt_succ_iff_lt_or_eq.1 hj with h | rfl; exact hI0.2 j h; exact ⟨p1, fun k hk => hI.2 k (by omega)⟩⟩) (by (try dsimp only); omega)
    · refine walk_to (F := F14) (T := C14) (fuel := 1000) (d := 10) mixed (allF_cons (FactOk.arrLen hl rfl rfl under27 rfl rfl) (allF_cons (FactOk.bi rfl rfl rfl rfl rfl rfl (boolT (by omega))) (allF_cons (FactOk.arrIxa hl (show i < l.length by omega) rfl rfl rfl under27 sizeSt rfl rfl rfl) (allF_cons (FactOk.arrLd hl (getSome (show i < l.length by omega)) rfl rfl aggSt sizeSt rfl rfl rfl) allF_nil)))) (allC_cons (callRValidF rfl rfl p1) allC_nil) ?_ hh
      refine walk_leave (F := F0) (T := C0) (fuel := 1000) (d := 10) mixed allF_nil allC_nil ?_
      exact ostop_end e13 fun w2 hLow hIn => ⟨(by refine congrArg (fun z => Ending.returned (.bool z)) ?_; first | exact ordB_true (fun j hj => hI.2 j (by omega)) | exact ordB_noV (show i < l.length by omega) p1 | (exact ordB_noP (show i < l.length by omega) (show k < l.length by omega) (fun h => by have h2 := h (by omega); first | omega | (exact q3 (h2.1 (by omega)))))), hLow⟩   -- returns .bool false
  · refine walk_to (F := F15) (T := C15) (fuel := 1000) (d := 10) mixed (allF_cons (FactOk.arrLen hl rfl rfl under27 rfl rfl) (allF_cons (FactOk.bi rfl rfl rfl rfl rfl rfl (boolF (by omega))) allF_nil)) allC_nil ?_ hh
    refine walk_leave (F := F0) (T := C0) (fuel := 1000) (d := 10) mixed allF_nil allC_nil ?_
    exact ostop_end e14 fun w2 hLow hIn => ⟨(by refine congrArg (fun z => Ending.returned (.bool z)) ?_; first | exact ordB_true (fun j hj => hI.2 j (by omega)) | exact ordB_noV (show i < l.length by omega) p1 | (exact ordB_noP (show i < l.length by omega) (show k < l.length by omega) (fun h => by have h2 := h (by omega); first | omega | (exact q3 (h2.1 (by omega)))))), hLow⟩   -- returns .bool true
end ROrd
end AE
end Go.Proofs.YtheaofepenbcgaaGreatDoor

/- The reference's Compare and Orderly by contract. -/
namespace Go.Proofs.YtheaofepenbcgaaGreatDoor
open Go Go.Proofs Go.RowKit
namespace AE
variable [Sig]
theorem callROrdT {v : Value} {u : Value} {l : List St} (hp : plainSL [v] = true) (ev : interpL [v] = [u]) (hl : Arr Sig.imm 4 encS u l) (hn : l.length ≤ 100000) (h : ordB l = true) : CallFactOk Tryz.prog (15, [v], .bool true) :=
  callAny (a := #[u]) hp rfl ev rfl fun w hw => (ROrd.any w (hl.mono hw) hn).mono fun e w' h' => by rw [h] at h'; exact h'
theorem callROrdF {v : Value} {u : Value} {l : List St} (hp : plainSL [v] = true) (ev : interpL [v] = [u]) (hl : Arr Sig.imm 4 encS u l) (hn : l.length ≤ 100000) (h : ¬ ordB l = true) : CallFactOk Tryz.prog (15, [v], .bool false) :=
  callAny (a := #[u]) hp rfl ev rfl fun w hw => (ROrd.any w (hl.mono hw) hn).mono fun e w' h' => by rw [Bool.not_eq_true] at h; rw [h] at h'; exact h'
end AE
end Go.Proofs.YtheaofepenbcgaaGreatDoor

/- Sorted of the reference -/
namespace Go.Proofs.YtheaofepenbcgaaGreatDoor
open Go Go.Proofs Go.RowKit
namespace AE
-- stops at: voxel/voxelref24.Sorted: STUCK ref.go:54 operands [.slice (some ⟨0, 0, none⟩) 0 0, symv 19]
-- stops at: voxel/voxelref24.Sorted: STUCK ref.go:55 operands [symv 20, .slice (some ⟨0, 0, none⟩) 1 1]
-- stops at: voxel/voxelref24.Sorted: STUCK ref.go:56 operands [symv 21, symv 22]
-- stops at: voxel/voxelref24.Sorted: STUCK ref.go:54 operands [.slice (some ⟨0, 0, none⟩) 0 0, symv 19]
-- stops at: voxel/voxelref24.Sorted: STUCK ref.go:55 operands [symv 20, .slice (some ⟨0, 0, none⟩) 1 1]
-- stops at: voxel/voxelref24.Sorted: STUCK ref.go:56 operands [symv 21, symv 22]
namespace RSort
noncomputable def body : Code := (Tryz.f9.body).getD .skip
def N : Nat := 64
noncomputable abbrev at' (N : Nat) (F : List (FOp × Value)) (C : List (FuncId × List Value × Value)) (c : Code) (s : ASt) : Option Stop := evalTo Tryz.prog F C N 1000 10 c s
noncomputable abbrev leave' (N : Nat) (F : List (FOp × Value)) (C : List (FuncId × List Value × Value)) (ks : List KI) (o : Option Stop) : Option Stop := evalLeave Tryz.prog F C N 1000 10 ks o
noncomputable abbrev unr' (N : Nat) (F : List (FOp × Value)) (C : List (FuncId × List Value × Value)) (m : Nat) (o : Option Stop) : Option Stop := evalUnroll Tryz.prog F C N 1000 10 m o
noncomputable abbrev res' (N : Nat) (F : List (FOp × Value)) (C : List (FuncId × List Value × Value)) (ks : List KI) (x : AX) (s : ASt) : Option Stop := evalRes Tryz.prog F C N 1000 10 ks x s
noncomputable abbrev ops' (N : Nat) (F : List (FOp × Value)) (C : List (FuncId × List Value × Value)) (r : List Oper) (ops : Array Oper) (ks : List KI) (s : ASt) : Option Stop := evalOps Tryz.prog F C N 1000 10 r ops ks s
def s0 : ASt := { sl := slots [(0, symv 0)], ms := [], A := start }
def F0 : List (FOp × Value) := []
def C0 : List (FuncId × List Value × Value) := []
-- loop 0: slots [(4, .int .i64 0), (3, .slice none 0 0), (2, .slice none 0 0), (0, symv 0)] blocks 0 ms [] []
noncomputable def bks0 : List Bk := []
def head0 : Sl := slots [(4, symv 2), (3, symv 1), (2, .slice none 0 0), (0, symv 0)]
noncomputable abbrev at0 := at' 64 F0 C0 body s0
set_option maxRecDepth 100000 in
theorem e0 : headObs head0 bks0 at0 = some [(symv 0, symv 0), (.slice none 0 0, symv 1), (.int .i64 0, symv 2)] := by kernel_rfl
def F1 : List (FOp × Value) := [(.len #[22] 3 (symv 0), symv 3),
    (.bin .lss 3 (symv 2) (symv 3), .bool true)]
def C1 : List (FuncId × List Value × Value) := []
-- loop 1: slots [(10, .bool true), (9, symv 3), (8, symv 0), (7, symv 2), (5, .int .i64 0), (4, symv 2), (3, symv 1), (2, .slice none 0 0), (0, symv 0)] blocks 0 ms [] []
noncomputable def bks1 : List Bk := []
def head1 : Sl := slots [(5, symv 4), (4, symv 2), (3, symv 1), (2, .slice none 0 0), (0, symv 0)]
noncomputable abbrev at1 := at' 64 F1 C1 (stopCode at0) (headSt head0 bks0)
set_option maxRecDepth 100000 in
theorem e1 : headObs head1 bks1 at1 = some [(symv 0, symv 0), (symv 1, symv 1), (.int .i64 0, symv 4), (symv 2, symv 2)] := by kernel_rfl
def F2 : List (FOp × Value) := [(.len #[22] 3 (symv 1), symv 5),
    (.bin .lss 3 (symv 4) (symv 5), .bool true),
    (.ixa 22 (symv 1) (symv 4), symv 6),
    (.ld 24 (symv 6), .agg ⟨[symv 7, symv 8, symv 9, symv 10]⟩),
    (.ixa 22 (symv 0) (symv 2), symv 11),
    (.ld 24 (symv 11), .agg ⟨[symv 12, symv 13, symv 14, symv 15]⟩),
    (.bin .lss 3 (symv 16) (.int .i64 0), .bool true),
    (.bin .add 3 (symv 4) (.int .i64 1), symv 17)]
def C2 : List (FuncId × List Value × Value) := [(13, [.agg ⟨[symv 7, symv 8, symv 9, symv 10]⟩, .agg ⟨[symv 12, symv 13, symv 14, symv 15]⟩], symv 16)]
set_option maxRecDepth 100000 in
theorem e2 : backObs head1 bks1 (at' 64 F2 C2 (stopCode at1) (headSt head1 bks1)) = some [(symv 0, symv 0), (symv 1, symv 1), (symv 17, symv 4), (symv 2, symv 2)] := by kernel_rfl
def F3 : List (FOp × Value) := [(.len #[22] 3 (symv 1), symv 5),
    (.bin .lss 3 (symv 4) (symv 5), .bool true),
    (.ixa 22 (symv 1) (symv 4), symv 6),
    (.ld 24 (symv 6), .agg ⟨[symv 7, symv 8, symv 9, symv 10]⟩),
    (.ixa 22 (symv 0) (symv 2), symv 11),
    (.ld 24 (symv 11), .agg ⟨[symv 12, symv 13, symv 14, symv 15]⟩),
    (.bin .lss 3 (symv 16) (.int .i64 0), .bool false)]
def C3 : List (FuncId × List Value × Value) := [(13, [.agg ⟨[symv 7, symv 8, symv 9, symv 10]⟩, .agg ⟨[symv 12, symv 13, symv 14, symv 15]⟩], symv 16)]
def F4 : List (FOp × Value) := [(.len #[22] 3 (symv 1), symv 5),
    (.bin .lss 3 (symv 4) (symv 5), .bool true),
    (.ixa 22 (symv 1) (symv 4), symv 6),
    (.ld 24 (symv 6), .agg ⟨[symv 7, symv 8, symv 9, symv 10]⟩),
    (.ixa 22 (symv 0) (symv 2), symv 11),
    (.ld 24 (symv 11), .agg ⟨[symv 12, symv 13, symv 14, symv 15]⟩),
    (.bin .eql 24 (.agg ⟨[symv 7, symv 8, symv 9, symv 10]⟩) (.agg ⟨[symv 12, symv 13, symv 14, symv 15]⟩), .bool true),
    (.bin .add 3 (symv 2) (.int .i64 1), symv 18)]
def C4 : List (FuncId × List Value × Value) := []
set_option maxRecDepth 100000 in
theorem e3 : backObs head0 bks0 (leave' 64 F4 C4 (stopKs at1) (at' 64 F3 C3 (stopCode at1) (headSt head1 bks1))) = some [(symv 0, symv 0), (symv 1, symv 1), (symv 18, symv 2)] := by kernel_rfl
def F5 : List (FOp × Value) := [(.len #[22] 3 (symv 1), symv 5),
    (.bin .lss 3 (symv 4) (symv 5), .bool true),
    (.ixa 22 (symv 1) (symv 4), symv 6),
    (.ld 24 (symv 6), .agg ⟨[symv 7, symv 8, symv 9, symv 10]⟩),
    (.ixa 22 (symv 0) (symv 2), symv 11),
    (.ld 24 (symv 11), .agg ⟨[symv 12, symv 13, symv 14, symv 15]⟩),
    (.bin .eql 24 (.agg ⟨[symv 7, symv 8, symv 9, symv 10]⟩) (.agg ⟨[symv 12, symv 13, symv 14, symv 15]⟩), .bool false),
    (.slc 22 (symv 1) none (some (symv 4)) none, symv 19)]
def C5 : List (FuncId × List Value × Value) := []
set_option maxRecDepth 100000 in
theorem e4 : appOf 22 (leave' 64 F5 C5 (stopKs at1) (at' 64 F3 C3 (stopCode at1) (headSt head1 bks1))) = some (.slice (some ⟨0, 0, none⟩) 0 0, symv 19) := by kernel_rfl
noncomputable abbrev so0 := leave' 64 F5 C5 (stopKs at1) (at' 64 F3 C3 (stopCode at1) (headSt head1 bks1))
noncomputable def bk0 : List Bk := []
def hd0 : Sl := slots [(5, symv 4), (4, symv 2), (3, symv 1), (2, .slice none 0 0), (0, symv 0)]
def hp0 : Sl := match aput 64 hd0 (some 50) (symv 20) with | some s => s | none => .nil
set_option maxRecDepth 100000 in
theorem e5 : trAll (stopSt so0) hd0 bk0 = some [(symv 0, symv 0), (symv 1, symv 1), (symv 4, symv 4), (symv 2, symv 2)] := by kernel_rfl
set_option maxRecDepth 100000 in
theorem e6 : aput 64 hd0 (stopDst so0) (symv 20) = some hp0 := by kernel_rfl
def F6 : List (FOp × Value) := [(.ixa 22 (symv 0) (symv 2), symv 11),
    (.ld 24 (symv 11), .agg ⟨[symv 12, symv 13, symv 14, symv 15]⟩)]
def C6 : List (FuncId × List Value × Value) := []
set_option maxRecDepth 100000 in
theorem e7 : cellsAt (stopSt (ops' 64 F6 C6 (stopRest so0) (stopOps so0) (stopKs so0) { sl := hp0, ms := [], A := mkAS bk0 })).A 4 (.slice (some ⟨0, 0, none⟩) 1 1) = some [symv 12, symv 13, symv 14, symv 15] := by kernel_rfl
set_option maxRecDepth 100000 in
theorem e8 : appOf 22 (ops' 64 F6 C6 (stopRest so0) (stopOps so0) (stopKs so0) { sl := hp0, ms := [], A := mkAS bk0 }) = some (symv 20, .slice (some ⟨0, 0, none⟩) 1 1) := by kernel_rfl
noncomputable abbrev so1 := ops' 64 F6 C6 (stopRest so0) (stopOps so0) (stopKs so0) { sl := hp0, ms := [], A := mkAS bk0 }
noncomputable def bk1 : List Bk := []
def hd1 : Sl := slots [(6, symv 20), (5, symv 4), (4, symv 2), (3, symv 1), (2, .slice none 0 0), (0, symv 0)]
def hp1 : Sl := match aput 64 hd1 (some 57) (symv 21) with | some s => s | none => .nil
set_option maxRecDepth 100000 in
theorem e9 : trAll (stopSt so1) hd1 bk1 = some [(symv 0, symv 0), (symv 1, symv 1), (symv 4, symv 4), (symv 2, symv 2), (symv 20, symv 20)] := by kernel_rfl
set_option maxRecDepth 100000 in
theorem e10 : aput 64 hd1 (stopDst so1) (symv 21) = some hp1 := by kernel_rfl
def F7 : List (FOp × Value) := [(.slc 22 (symv 1) (some (symv 4)) none none, symv 22)]
def C7 : List (FuncId × List Value × Value) := []
set_option maxRecDepth 100000 in
theorem e11 : appOf 22 (ops' 64 F7 C7 (stopRest so1) (stopOps so1) (stopKs so1) { sl := hp1, ms := [], A := mkAS bk1 }) = some (symv 21, symv 22) := by kernel_rfl
noncomputable abbrev so2 := ops' 64 F7 C7 (stopRest so1) (stopOps so1) (stopKs so1) { sl := hp1, ms := [], A := mkAS bk1 }
noncomputable def bk2 : List Bk := []
def hd2 : Sl := slots [(4, symv 2), (3, symv 1), (2, .slice none 0 0), (0, symv 0)]
def hp2 : Sl := match aput 64 hd2 (some 62) (symv 23) with | some s => s | none => .nil
set_option maxRecDepth 100000 in
theorem e12 : trAll (stopSt so2) hd2 bk2 = some [(symv 0, symv 0), (symv 1, symv 1), (symv 2, symv 2)] := by kernel_rfl
set_option maxRecDepth 100000 in
theorem e13 : aput 64 hd2 (stopDst so2) (symv 23) = some hp2 := by kernel_rfl
def F8 : List (FOp × Value) := [(.bin .add 3 (symv 2) (.int .i64 1), symv 18)]
def C8 : List (FuncId × List Value × Value) := []
set_option maxRecDepth 100000 in
theorem e14 : backObs head0 bks0 (ops' 64 F8 C8 (stopRest so2) (stopOps so2) (stopKs so2) { sl := hp2, ms := [], A := mkAS bk2 }) = some [(symv 0, symv 0), (symv 23, symv 1), (symv 18, symv 2)] := by kernel_rfl
def F9 : List (FOp × Value) := [(.len #[22] 3 (symv 1), symv 5),
    (.bin .lss 3 (symv 4) (symv 5), .bool false)]
def C9 : List (FuncId × List Value × Value) := []
def F10 : List (FOp × Value) := [(.len #[22] 3 (symv 1), symv 5),
    (.bin .lss 3 (symv 4) (symv 5), .bool false),
    (.slc 22 (symv 1) none (some (symv 4)) none, symv 19)]
def C10 : List (FuncId × List Value × Value) := []
set_option maxRecDepth 100000 in
theorem e15 : appOf 22 (leave' 64 F10 C10 (stopKs at1) (at' 64 F9 C9 (stopCode at1) (headSt head1 bks1))) = some (.slice (some ⟨0, 0, none⟩) 0 0, symv 19) := by kernel_rfl
noncomputable abbrev so3 := leave' 64 F10 C10 (stopKs at1) (at' 64 F9 C9 (stopCode at1) (headSt head1 bks1))
noncomputable def bk3 : List Bk := []
def hd3 : Sl := slots [(5, symv 4), (4, symv 2), (3, symv 1), (2, .slice none 0 0), (0, symv 0)]
def hp3 : Sl := match aput 64 hd3 (some 50) (symv 20) with | some s => s | none => .nil
set_option maxRecDepth 100000 in
theorem e16 : trAll (stopSt so3) hd3 bk3 = some [(symv 0, symv 0), (symv 1, symv 1), (symv 4, symv 4), (symv 2, symv 2)] := by kernel_rfl
set_option maxRecDepth 100000 in
theorem e17 : aput 64 hd3 (stopDst so3) (symv 20) = some hp3 := by kernel_rfl
set_option maxRecDepth 100000 in
theorem e18 : cellsAt (stopSt (ops' 64 F6 C6 (stopRest so3) (stopOps so3) (stopKs so3) { sl := hp3, ms := [], A := mkAS bk3 })).A 4 (.slice (some ⟨0, 0, none⟩) 1 1) = some [symv 12, symv 13, symv 14, symv 15] := by kernel_rfl
set_option maxRecDepth 100000 in
theorem e19 : appOf 22 (ops' 64 F6 C6 (stopRest so3) (stopOps so3) (stopKs so3) { sl := hp3, ms := [], A := mkAS bk3 }) = some (symv 20, .slice (some ⟨0, 0, none⟩) 1 1) := by kernel_rfl
noncomputable abbrev so4 := ops' 64 F6 C6 (stopRest so3) (stopOps so3) (stopKs so3) { sl := hp3, ms := [], A := mkAS bk3 }
noncomputable def bk4 : List Bk := []
def hd4 : Sl := slots [(6, symv 20), (5, symv 4), (4, symv 2), (3, symv 1), (2, .slice none 0 0), (0, symv 0)]
def hp4 : Sl := match aput 64 hd4 (some 57) (symv 21) with | some s => s | none => .nil
set_option maxRecDepth 100000 in
theorem e20 : trAll (stopSt so4) hd4 bk4 = some [(symv 0, symv 0), (symv 1, symv 1), (symv 4, symv 4), (symv 2, symv 2), (symv 20, symv 20)] := by kernel_rfl
set_option maxRecDepth 100000 in
theorem e21 : aput 64 hd4 (stopDst so4) (symv 21) = some hp4 := by kernel_rfl
set_option maxRecDepth 100000 in
theorem e22 : appOf 22 (ops' 64 F7 C7 (stopRest so4) (stopOps so4) (stopKs so4) { sl := hp4, ms := [], A := mkAS bk4 }) = some (symv 21, symv 22) := by kernel_rfl
noncomputable abbrev so5 := ops' 64 F7 C7 (stopRest so4) (stopOps so4) (stopKs so4) { sl := hp4, ms := [], A := mkAS bk4 }
noncomputable def bk5 : List Bk := []
def hd5 : Sl := slots [(4, symv 2), (3, symv 1), (2, .slice none 0 0), (0, symv 0)]
def hp5 : Sl := match aput 64 hd5 (some 62) (symv 23) with | some s => s | none => .nil
set_option maxRecDepth 100000 in
theorem e23 : trAll (stopSt so5) hd5 bk5 = some [(symv 0, symv 0), (symv 1, symv 1), (symv 2, symv 2)] := by kernel_rfl
set_option maxRecDepth 100000 in
theorem e24 : aput 64 hd5 (stopDst so5) (symv 23) = some hp5 := by kernel_rfl
set_option maxRecDepth 100000 in
theorem e25 : backObs head0 bks0 (ops' 64 F8 C8 (stopRest so5) (stopOps so5) (stopKs so5) { sl := hp5, ms := [], A := mkAS bk5 }) = some [(symv 0, symv 0), (symv 23, symv 1), (symv 18, symv 2)] := by kernel_rfl
def F11 : List (FOp × Value) := [(.len #[22] 3 (symv 0), symv 3),
    (.bin .lss 3 (symv 2) (symv 3), .bool false)]
def C11 : List (FuncId × List Value × Value) := []
set_option maxRecDepth 100000 in
theorem e26 : endVal Tryz.prog Tryz.f9 (leave' 64 F0 C0 (stopKs at0) (at' 64 F11 C11 (stopCode at0) (headSt head0 bks0))) = some (symv 1) := by kernel_rfl
@[reducible] noncomputable def vL (l : List St) (a_l : Option Addr) (c_l : Nat) (b : List St) (a : Option Addr) (c : Nat) (i : Nat) (k : Nat) (b0 : List St) (a0 : Option Addr) (c0 : Nat) (b1 : List St) (a1 : Option Addr) (c1 : Nat) (b2 : List St) (a2 : Option Addr) (c2 : Nat) : List Value := [.slice a_l l.length c_l, .slice a b.length c, .int .i64 ((i : Nat) : Int), .int .i64 ((l.length : Nat) : Int), .int .i64 ((k : Nat) : Int), .int .i64 ((b.length : Nat) : Int), cellPtr (.slice a b.length c) (k * 4), .int .i64 (b.getD (k) default).1, .int .i64 (b.getD (k) default).2.1, .int .i64 (b.getD (k) default).2.2.1, .int .i64 (b.getD (k) default).2.2.2, cellPtr (.slice a_l l.length c_l) (i * 4), .int .i64 (l.getD (i) default).1, .int .i64 (l.getD (i) default).2.1, .int .i64 (l.getD (i) default).2.2.1, .int .i64 (l.getD (i) default).2.2.2, .int .i64 (cmpS (b.getD (k) default) (l.getD (i) default)), .int .i64 ((k + 1 : Nat) : Int), .int .i64 ((i + 1 : Nat) : Int), .slice a k c, .slice a0 b0.length c0, .slice a1 b1.length c1, .slice (dropA a c k 4) (b.length - k) (c - k), .slice a2 b2.length c2]
@[reducible] noncomputable def sg (M : Mem) (l : List St) (a_l : Option Addr) (c_l : Nat) (b : List St) (a : Option Addr) (c : Nat) (i : Nat) (k : Nat) (b0 : List St) (a0 : Option Addr) (c0 : Nat) (b1 : List St) (a1 : Option Addr) (c1 : Nat) (b2 : List St) (a2 : Option Addr) (c2 : Nat) : Sig := sgL M (vL l a_l c_l b a c i k b0 a0 c0 b1 a1 c1 b2 a2 c2)
set_option maxHeartbeats 4000000 in
set_option maxRecDepth 100000 in
theorem any (W : World) {v_l : Value} {l : List St} (hl : Arr (heapOf W) 4 encS v_l l) (hn : l.length ≤ 100000) : Calls Tryz.prog 9 #[v_l] W fun e w' => (∃ a c, e = .returned (.slice a (sortedS l).length c) ∧ OArr W.heap.size (heapOf w') elS 4 encS (.slice a (sortedS l).length c) (sortedS l)) ∧ Low W.heap.size W w' := by
  obtain ⟨a_l, c_l, rfl⟩ := hl.slice
  refine @walk_enter (sg (heapOf W) l a_l c_l [] none 0 0 0 [] none 0 [] none 0 [] none 0) Tryz.prog 9 Tryz.f9 body [symv 0] (slots [(0, symv 0)]) N W _ Tryz.func9 (by kernel_rfl) (by kernel_rfl) (by kernel_rfl) (by kernel_rfl) (immW_sgL W _) fun a hh => ?_
  letI := (sg (heapOf W) l a_l c_l [] none 0 0 0 [] none 0 [] none 0 [] none 0)
  refine walk_to (F := F0) (T := C0) (fuel := 1000) (d := 10) mixed allF_nil allC_nil ?_ hh
  refine ostop_loop (sg := (fun (⟨M, b, a, c, i⟩ : Mem × List St × Option Addr × Nat × Nat) => sg M l a_l c_l b a c i 0 [] none 0 [] none 0 [] none 0)) (fun (⟨M, b, a, c, i⟩ : Mem × List St × Option Addr × Nat × Nat) => OArr W.heap.size M elS 4 encS (.slice a b.length c) b ∧ (∀ j o, heapOf W j = some o → M j = some o) ∧ i ≤ l.length ∧ b.length ≤ i ∧ InsOk l i b) (fun (⟨M, b, a, c, i⟩ : Mem × List St × Option Addr × Nat × Nat) => l.length - i) ⟨heapOf W, [], none, 0, 0⟩ e0 (meet_cons (by exact meetV (.slice a_l l.length c_l) rfl rfl) (meet_cons rfl (meet_cons rfl meet_nil))) (fun _ _ h => h) (by exact ⟨OArr.nil _ _ _ _ _ _, fun _ _ h => h, Nat.zero_le _, Nat.le_refl _, InsOk.start l⟩) ?_
  intro ⟨M, b, a, c, i⟩ hI aC w hh
  letI := (sg M l a_l c_l b a c i 0 [] none 0 [] none 0 [] none 0)
  have hI0 := hI
  have hO := hI.1
  have hM := hI.2.1
  have hi1 := hI.2.2.1
  have hi2 := hI.2.2.2.1
  have hcap := hO.cap
  by_cases p0 : ((i : Nat) : Int) < ((l.length : Nat) : Int)
  · refine walk_to (F := F1) (T := C1) (fuel := 1000) (d := 10) mixed (allF_cons (FactOk.arrLen (hl.mono hM) rfl rfl under27 rfl rfl) (allF_cons (FactOk.bi rfl rfl rfl rfl rfl rfl (boolT (by omega))) allF_nil)) allC_nil ?_ hh
    refine ostop_loop (sg := (fun k => sg M l a_l c_l b a c i k [] none 0 [] none 0 [] none 0)) (fun k => k ≤ b.length ∧ (∀ j, j < k → cmpS (b.getD j default) (l.getD i default) < 0)) (fun k => b.length - k) 0 e1 (meet_cons (by exact meetV (.slice a_l l.length c_l) rfl rfl) (meet_cons (by exact meetV (.slice a b.length c) rfl rfl) (meet_cons rfl (meet_cons (by exact meetV (.int .i64 ((i : Nat) : Int)) rfl rfl) meet_nil)))) (fun _ _ h => h) (by exact ⟨Nat.zero_le _, fun j h => absurd h (Nat.not_lt_zero _)⟩) ?_
    intro k hI aC w hh
    letI := (sg M l a_l c_l b a c i k [] none 0 [] none 0 [] none 0)
    have hlt : (b.take k).length = k := by rw [List.length_take]; omega
    have hld : (b.drop k).length = b.length - k := List.length_drop
    by_cases q0 : ((k : Nat) : Int) < ((b.length : Nat) : Int)
    · by_cases q1 : (cmpS (b.getD (k) default) (l.getD (i) default)) < 0
      · refine walk_to (F := F2) (T := C2) (fuel := 1000) (d := 10) mixed (allF_cons (FactOk.arrLen (hO.arr hkS) rfl rfl under27 rfl rfl) (allF_cons (FactOk.bi rfl rfl rfl rfl rfl rfl (boolT (by omega))) (allF_cons (FactOk.arrIxa (hO.arr hkS) (show k < b.length by omega) rfl rfl rfl under27 sizeSt rfl rfl rfl) (allF_cons (FactOk.arrLd (hO.arr hkS) (getSome (show k < b.length by omega)) rfl rfl aggSt sizeSt rfl rfl rfl) (allF_cons (FactOk.arrIxa (hl.mono hM) (show i < l.length by omega) rfl rfl rfl under27 sizeSt rfl rfl rfl) (allF_cons (FactOk.arrLd (hl.mono hM) (getSome (show i < l.length by omega)) rfl rfl aggSt sizeSt rfl rfl rfl) (allF_cons (FactOk.bi rfl rfl rfl rfl rfl rfl (boolT (by omega))) (allF_cons (FactOk.bi rfl rfl rfl rfl rfl rfl (intI (by omega) (by omega) (by omega))) allF_nil)))))))) (allC_cons (callRCmp rfl rfl rfl rfl) allC_nil) ?_ hh
        exact ostop_backM (s1 := (sg M l a_l c_l b a c i k [] none 0 [] none 0 [] none 0)) (sg := (fun k => sg M l a_l c_l b a c i k [] none 0 [] none 0 [] none 0)) (I := fun k => k ≤ b.length ∧ (∀ j, j < k → cmpS (b.getD j default) (l.getD i default) < 0)) (μ := fun k => b.length - k) (x := k) (k + 1) e2 (meet_cons (by exact meetV (.slice a_l l.length c_l) rfl rfl) (meet_cons (by exact meetV (.slice a b.length c) rfl rfl) (meet_cons (by exact meetV (.int .i64 ((k + 1 : Nat) : Int)) rfl rfl) (meet_cons (by exact meetV (.int .i64 ((i : Nat) : Int)) rfl rfl) meet_nil)))) (fun _ _ h => h) (by exact ⟨by omega, fun j hj => by rcases Nat.lt_succ_iff_lt_or_eq.1 hj with h | rfl; exact hI.2 j h; omega⟩) (by (try dsimp only); omega)
      · refine walk_to (F := F3) (T := C3) (fuel := 1000) (d := 10) mixed (allF_cons (FactOk.arrLen (hO.arr hkS) rfl rfl under27 rfl rfl) (allF_cons (FactOk.bi rfl rfl rfl rfl rfl rfl (boolT (by omega))) (allF_cons (FactOk.arrIxa (hO.arr hkS) (show k < b.length by omega) rfl rfl rfl under27 sizeSt rfl rfl rfl) (allF_cons (FactOk.arrLd (hO.arr hkS) (getSome (show k < b.length by omega)) rfl rfl aggSt sizeSt rfl rfl rfl) (allF_cons (FactOk.arrIxa (hl.mono hM) (show i < l.length by omega) rfl rfl rfl under27 sizeSt rfl rfl rfl) (allF_cons (FactOk.arrLd (hl.mono hM) (getSome (show i < l.length by omega)) rfl rfl aggSt sizeSt rfl rfl rfl) (allF_cons (FactOk.bi rfl rfl rfl rfl rfl rfl (boolF (by omega))) allF_nil))))))) (allC_cons (callRCmp rfl rfl rfl rfl) allC_nil) ?_ hh
        by_cases r0 : (b.getD (k) default) = (l.getD (i) default)
        · refine walk_leave (F := F4) (T := C4) (fuel := 1000) (d := 10) mixed (allF_cons (FactOk.arrLen (hO.arr hkS) rfl rfl under27 rfl rfl) (allF_cons (FactOk.bi rfl rfl rfl rfl rfl rfl (boolT (by omega))) (allF_cons (FactOk.arrIxa (hO.arr hkS) (show k < b.length by omega) rfl rfl rfl under27 sizeSt rfl rfl rfl) (allF_cons (FactOk.arrLd (hO.arr hkS) (getSome (show k < b.length by omega)) rfl rfl aggSt sizeSt rfl rfl rfl) (allF_cons (FactOk.arrIxa (hl.mono hM) (show i < l.length by omega) rfl rfl rfl under27 sizeSt rfl rfl rfl) (allF_cons (FactOk.arrLd (hl.mono hM) (getSome (show i < l.length by omega)) rfl rfl aggSt sizeSt rfl rfl rfl) (allF_cons (eqS rfl rfl rfl rfl (decide_eq_true r0).symm) (allF_cons (FactOk.bi rfl rfl rfl rfl rfl rfl (intI (by omega) (by omega) (by omega))) allF_nil)))))))) allC_nil ?_
          exact ostop_backM (s1 := (sg M l a_l c_l b a c i k [] none 0 [] none 0 [] none 0)) (sg := (fun (⟨M, b, a, c, i⟩ : Mem × List St × Option Addr × Nat × Nat) => sg M l a_l c_l b a c i 0 [] none 0 [] none 0 [] none 0)) (I := fun (⟨M, b, a, c, i⟩ : Mem × List St × Option Addr × Nat × Nat) => OArr W.heap.size M elS 4 encS (.slice a b.length c) b ∧ (∀ j o, heapOf W j = some o → M j = some o) ∧ i ≤ l.length ∧ b.length ≤ i ∧ InsOk l i b) (μ := fun (⟨M, b, a, c, i⟩ : Mem × List St × Option Addr × Nat × Nat) => l.length - i) (x := ⟨M, b, a, c, i⟩) ⟨M, b, a, c, i + 1⟩ e3 (meet_cons (by exact meetV (.slice a_l l.length c_l) rfl rfl) (meet_cons (by exact meetV (.slice a b.length c) rfl rfl) (meet_cons (by exact meetV (.int .i64 ((i + 1 : Nat) : Int)) rfl rfl) meet_nil))) (fun _ _ h => h) (by first | exact ⟨hO, hM, by omega, by omega, hI0.2.2.2.2.same (by omega) (show k < b.length by omega) r0⟩ | exact ⟨hO2, hM2, by omega, by omega, hI0.2.2.2.2.ins (by omega) hI.1 hI.2 (fun _ => q1) (fun _ => r0) hb0 hb1 hb2⟩ | exact ⟨hO2, hM2, by omega, by omega, hI0.2.2.2.2.ins (by omega) hI.1 hI.2 (fun h => absurd h (by omega)) (fun h => absurd h (by omega)) hb0 hb1 hb2⟩) (by (try dsimp only); omega)
        · refine walk_leave (F := F5) (T := C5) (fuel := 1000) (d := 10) mixed (allF_cons (FactOk.arrLen (hO.arr hkS) rfl rfl under27 rfl rfl) (allF_cons (FactOk.bi rfl rfl rfl rfl rfl rfl (boolT (by omega))) (allF_cons (FactOk.arrIxa (hO.arr hkS) (show k < b.length by omega) rfl rfl rfl under27 sizeSt rfl rfl rfl) (allF_cons (FactOk.arrLd (hO.arr hkS) (getSome (show k < b.length by omega)) rfl rfl aggSt sizeSt rfl rfl rfl) (allF_cons (FactOk.arrIxa (hl.mono hM) (show i < l.length by omega) rfl rfl rfl under27 sizeSt rfl rfl rfl) (allF_cons (FactOk.arrLd (hl.mono hM) (getSome (show i < l.length by omega)) rfl rfl aggSt sizeSt rfl rfl rfl) (allF_cons (eqS rfl rfl rfl rfl (decide_eq_false r0).symm) (allF_cons (FactOk.slcHi rfl rfl rfl under27 sizeSt rfl rfl (show k ≤ c by omega) rfl) allF_nil)))))))) allC_nil ?_
          obtain ⟨b0, hb0⟩ : ∃ b0 : List St, b0 = [] ++ (b.take k) := ⟨_, rfl⟩
          have hn0 : b0.length = 0 + (b.take k).length := by rw [hb0]; first | rfl | simp
          refine ostop_appendF (l := []) (lx := (b.take k)) (l' := b0) (vals2 := fun aV cV => (vL l a_l c_l b a c i k b0 aV cV [] none 0 [] none 0)) (T := none) hb0 e4 underSl infoS zeroS iszS ibyS zszS (by decide) hkS honeS e5 e6 rfl (appTo_blk (by kernel_rfl)) (app_sym rfl rfl fun w hw => ((hO.arr hkS).take (show k ≤ b.length by omega)).reads hkS hw) (lenMax (show 0 + (b.take k).length ≤ 1000000 by omega)) (show (0 + (b.take k).length) * bytesS ≤ 140737488355328 by unfold bytesS; omega) (fun _ _ _ => (meet_cons (by exact meetV (.slice a_l l.length c_l) rfl rfl) (meet_cons (by exact meetV (.slice a b.length c) rfl rfl) (meet_cons (by exact meetV (.int .i64 ((k : Nat) : Int)) rfl rfl) (meet_cons (by exact meetV (.int .i64 ((i : Nat) : Int)) rfl rfl) meet_nil))))) (fun _ _ _ => rfl) ?_
          intro M0 a0 c0 hO0 hK0 hT0 hF0 aC w hh
          have hM0 := hK0.up hT0 (Nat.le_refl _) hM
          have hOk0 := hK0.own hO (by first | assumption | exact fun _ _ h => by cases h)
          have hOq0 := apart_new hO (by first | assumption | exact fun _ _ h => by cases h) hF0
          letI := (sg M0 l a_l c_l b a c i k b0 a0 c0 [] none 0 [] none 0)
          refine walk_ops (F := F6) (T := C6) (fuel := 1000) (d := 10) mixed (allF_cons (FactOk.arrIxa (hl.mono hM0) (show i < l.length by omega) rfl rfl rfl under27 sizeSt rfl rfl rfl) (allF_cons (FactOk.arrLd (hl.mono hM0) (getSome (show i < l.length by omega)) rfl rfl aggSt sizeSt rfl rfl rfl) allF_nil)) allC_nil ?_ hh
          obtain ⟨b1, hb1⟩ : ∃ b1 : List St, b1 = b0 ++ [(l.getD (i) default)] := ⟨_, rfl⟩
          have hn1 : b1.length = b0.length + 1 := by rw [hb1]; first | rfl | simp
          refine ostop_appendF (l := b0) (lx := [(l.getD (i) default)]) (l' := b1) (vals2 := fun aV cV => (vL l a_l c_l b a c i k b0 a0 c0 b1 aV cV [] none 0)) (T := (obl (.slice a0 b0.length c0))) hb1 e8 underSl infoS zeroS iszS ibyS zszS (by decide) hkS honeS e9 e10 rfl (appTo_sym rfl rfl hO0) (app_cells e7 hkS (by decide) rfl) (lenMax (show b0.length + 1 ≤ 1000000 by omega)) (show (b0.length + 1) * bytesS ≤ 140737488355328 by unfold bytesS; omega) (fun _ _ _ => (meet_cons (by exact meetV (.slice a_l l.length c_l) rfl rfl) (meet_cons (by exact meetV (.slice a b.length c) rfl rfl) (meet_cons (by exact meetV (.int .i64 ((k : Nat) : Int)) rfl rfl) (meet_cons (by exact meetV (.int .i64 ((i : Nat) : Int)) rfl rfl) (meet_cons (by exact meetV (.slice a0 b0.length c0) rfl rfl) meet_nil)))))) (fun _ _ _ => rfl) ?_
          intro M1 a1 c1 hO1 hK1 hT1 hF1 aC w hh
          have hM1 := hK1.up hT1 (Nat.le_refl _) hM0
          have hOk0k1 := hK1.own hOk0 (by first | assumption | exact fun _ _ h => by cases h)
          have hOk0q1 := apart_new hOk0 (by first | assumption | exact fun _ _ h => by cases h) hF1
          letI := (sg M1 l a_l c_l b a c i k b0 a0 c0 b1 a1 c1 [] none 0)
          refine walk_ops (F := F7) (T := C7) (fuel := 1000) (d := 10) mixed (allF_cons (FactOk.slcLo rfl rfl rfl under27 sizeSt rfl rfl (show k ≤ b.length by omega) rfl) allF_nil) allC_nil ?_ hh
          obtain ⟨b2, hb2⟩ : ∃ b2 : List St, b2 = b1 ++ (b.drop k) := ⟨_, rfl⟩
          have hn2 : b2.length = b1.length + (b.drop k).length := by rw [hb2]; first | rfl | simp
          refine ostop_appendF (l := b1) (lx := (b.drop k)) (l' := b2) (vals2 := fun aV cV => (vL l a_l c_l b a c i k b0 a0 c0 b1 a1 c1 b2 aV cV)) (T := (obl (.slice a1 b1.length c1))) hb2 e11 underSl infoS zeroS iszS ibyS zszS (by decide) hkS honeS e12 e13 rfl (appTo_sym rfl rfl hO1) (app_sym rfl rfl fun w hw => ((hOk0k1.arr hkS).drop (show k ≤ b.length by omega)).reads hkS hw) (lenMax (show b1.length + (b.drop k).length ≤ 1000000 by omega)) (show (b1.length + (b.drop k).length) * bytesS ≤ 140737488355328 by unfold bytesS; omega) (fun _ _ _ => (meet_cons (by exact meetV (.slice a_l l.length c_l) rfl rfl) (meet_cons (by exact meetV (.slice a b.length c) rfl rfl) (meet_cons (by exact meetV (.int .i64 ((i : Nat) : Int)) rfl rfl) meet_nil)))) (fun _ _ _ => rfl) ?_
          intro M2 a2 c2 hO2 hK2 hT2 hF2 aC w hh
          have hM2 := hK2.up hT2 (Nat.le_refl _) hM1
          have hOk0k1k2 := hK2.own hOk0k1 (by first | assumption | exact fun _ _ h => by cases h)
          have hOk0k1q2 := apart_new hOk0k1 (by first | assumption | exact fun _ _ h => by cases h) hF2
          letI := (sg M2 l a_l c_l b a c i k b0 a0 c0 b1 a1 c1 b2 a2 c2)
          refine walk_ops (F := F8) (T := C8) (fuel := 1000) (d := 10) mixed (allF_cons (FactOk.bi rfl rfl rfl rfl rfl rfl (intI (by omega) (by omega) (by omega))) allF_nil) allC_nil ?_ hh
          exact ostop_backM (s1 := (sg M2 l a_l c_l b a c i k b0 a0 c0 b1 a1 c1 b2 a2 c2)) (sg := (fun (⟨M, b, a, c, i⟩ : Mem × List St × Option Addr × Nat × Nat) => sg M l a_l c_l b a c i 0 [] none 0 [] none 0 [] none 0)) (I := fun (⟨M, b, a, c, i⟩ : Mem × List St × Option Addr × Nat × Nat) => OArr W.heap.size M elS 4 encS (.slice a b.length c) b ∧ (∀ j o, heapOf W j = some o → M j = some o) ∧ i ≤ l.length ∧ b.length ≤ i ∧ InsOk l i b) (μ := fun (⟨M, b, a, c, i⟩ : Mem × List St × Option Addr × Nat × Nat) => l.length - i) (x := ⟨M, b, a, c, i⟩) ⟨M2, b2, a2, c2, i + 1⟩ e14 (meet_cons (by exact meetV (.slice a_l l.length c_l) rfl rfl) (meet_cons (by exact meetV (.slice a2 b2.length c2) rfl rfl) (meet_cons (by exact meetV (.int .i64 ((i + 1 : Nat) : Int)) rfl rfl) meet_nil))) (fun _ _ h => h) (by first | exact ⟨hO, hM, by omega, by omega, hI0.2.2.2.2.same (by omega) (show k < b.length by omega) r0⟩ | exact ⟨hO2, hM2, by omega, by omega, hI0.2.2.2.2.ins (by omega) hI.1 hI.2 (fun _ => q1) (fun _ => r0) hb0 hb1 hb2⟩ | exact ⟨hO2, hM2, by omega, by omega, hI0.2.2.2.2.ins (by omega) hI.1 hI.2 (fun h => absurd h (by omega)) (fun h => absurd h (by omega)) hb0 hb1 hb2⟩) (by (try dsimp only); omega)
    · refine walk_to (F := F9) (T := C9) (fuel := 1000) (d := 10) mixed (allF_cons (FactOk.arrLen (hO.arr hkS) rfl rfl under27 rfl rfl) (allF_cons (FactOk.bi rfl rfl rfl rfl rfl rfl (boolF (by omega))) allF_nil)) allC_nil ?_ hh
      refine walk_leave (F := F10) (T := C10) (fuel := 1000) (d := 10) mixed (allF_cons (FactOk.arrLen (hO.arr hkS) rfl rfl under27 rfl rfl) (allF_cons (FactOk.bi rfl rfl rfl rfl rfl rfl (boolF (by omega))) (allF_cons (FactOk.slcHi rfl rfl rfl under27 sizeSt rfl rfl (show k ≤ c by omega) rfl) allF_nil))) allC_nil ?_
      obtain ⟨b0, hb0⟩ : ∃ b0 : List St, b0 = [] ++ (b.take k) := ⟨_, rfl⟩
      have hn0 : b0.length = 0 + (b.take k).length := by rw [hb0]; first | rfl | simp
      refine ostop_appendF (l := []) (lx := (b.take k)) (l' := b0) (vals2 := fun aV cV => (vL l a_l c_l b a c i k b0 aV cV [] none 0 [] none 0)) (T := none) hb0 e15 underSl infoS zeroS iszS ibyS zszS (by decide) hkS honeS e16 e17 rfl (appTo_blk (by kernel_rfl)) (app_sym rfl rfl fun w hw => ((hO.arr hkS).take (show k ≤ b.length by omega)).reads hkS hw) (lenMax (show 0 + (b.take k).length ≤ 1000000 by omega)) (show (0 + (b.take k).length) * bytesS ≤ 140737488355328 by unfold bytesS; omega) (fun _ _ _ => (meet_cons (by exact meetV (.slice a_l l.length c_l) rfl rfl) (meet_cons (by exact meetV (.slice a b.length c) rfl rfl) (meet_cons (by exact meetV (.int .i64 ((k : Nat) : Int)) rfl rfl) (meet_cons (by exact meetV (.int .i64 ((i : Nat) : Int)) rfl rfl) meet_nil))))) (fun _ _ _ => rfl) ?_
      intro M0 a0 c0 hO0 hK0 hT0 hF0 aC w hh
      have hM0 := hK0.up hT0 (Nat.le_refl _) hM
      have hOk0 := hK0.own hO (by first | assumption | exact fun _ _ h => by cases h)
      have hOq0 := apart_new hO (by first | assumption | exact fun _ _ h => by cases h) hF0
      letI := (sg M0 l a_l c_l b a c i k b0 a0 c0 [] none 0 [] none 0)
      refine walk_ops (F := F6) (T := C6) (fuel := 1000) (d := 10) mixed (allF_cons (FactOk.arrIxa (hl.mono hM0) (show i < l.length by omega) rfl rfl rfl under27 sizeSt rfl rfl rfl) (allF_cons (FactOk.arrLd (hl.mono hM0) (getSome (show i < l.length by omega)) rfl rfl aggSt sizeSt rfl rfl rfl) allF_nil)) allC_nil ?_ hh
      obtain ⟨b1, hb1⟩ : ∃ b1 : List St, b1 = b0 ++ [(l.getD (i) default)] := ⟨_, rfl⟩
      have hn1 : b1.length = b0.length + 1 := by rw [hb1]; first | rfl | simp
      refine ostop_appendF (l := b0) (lx := [(l.getD (i) default)]) (l' := b1) (vals2 := fun aV cV => (vL l a_l c_l b a c i k b0 a0 c0 b1 aV cV [] none 0)) (T := (obl (.slice a0 b0.length c0))) hb1 e19 underSl infoS zeroS iszS ibyS zszS (by decide) hkS honeS e20 e21 rfl (appTo_sym rfl rfl hO0) (app_cells e18 hkS (by decide) rfl) (lenMax (show b0.length + 1 ≤ 1000000 by omega)) (show (b0.length + 1) * bytesS ≤ 140737488355328 by unfold bytesS; omega) (fun _ _ _ => (meet_cons (by exact meetV (.slice a_l l.length c_l) rfl rfl) (meet_cons (by exact meetV (.slice a b.length c) rfl rfl) (meet_cons (by exact meetV (.int .i64 ((k : Nat) : Int)) rfl rfl) (meet_cons (by exact meetV (.int .i64 ((i : Nat) : Int)) rfl rfl) (meet_cons (by exact meetV (.slice a0 b0.length c0) rfl rfl) meet_nil)))))) (fun _ _ _ => rfl) ?_
      intro M1 a1 c1 hO1 hK1 hT1 hF1 aC w hh
      have hM1 := hK1.up hT1 (Nat.le_refl _) hM0
      have hOk0k1 := hK1.own hOk0 (by first | assumption | exact fun _ _ h => by cases h)
      have hOk0q1 := apart_new hOk0 (by first | assumption | exact fun _ _ h => by cases h) hF1
      letI := (sg M1 l a_l c_l b a c i k b0 a0 c0 b1 a1 c1 [] none 0)
      refine walk_ops (F := F7) (T := C7) (fuel := 1000) (d := 10) mixed (allF_cons (FactOk.slcLo rfl rfl rfl under27 sizeSt rfl rfl (show k ≤ b.length by omega) rfl) allF_nil) allC_nil ?_ hh
      obtain ⟨b2, hb2⟩ : ∃ b2 : List St, b2 = b1 ++ (b.drop k) := ⟨_, rfl⟩
      have hn2 : b2.length = b1.length + (b.drop k).length := by rw [hb2]; first | rfl | simp
      refine ostop_appendF (l := b1) (lx := (b.drop k)) (l' := b2) (vals2 := fun aV cV => (vL l a_l c_l b a c i k b0 a0 c0 b1 a1 c1 b2 aV cV)) (T := (obl (.slice a1 b1.length c1))) hb2 e22 underSl infoS zeroS iszS ibyS zszS (by decide) hkS honeS e23 e24 rfl (appTo_sym rfl rfl hO1) (app_sym rfl rfl fun w hw => ((hOk0k1.arr hkS).drop (show k ≤ b.length by omega)).reads hkS hw) (lenMax (show b1.length + (b.drop k).length ≤ 1000000 by omega)) (show (b1.length + (b.drop k).length) * bytesS ≤ 140737488355328 by unfold bytesS; omega) (fun _ _ _ => (meet_cons (by exact meetV (.slice a_l l.length c_l) rfl rfl) (meet_cons (by exact meetV (.slice a b.length c) rfl rfl) (meet_cons (by exact meetV (.int .i64 ((i : Nat) : Int)) rfl rfl) meet_nil)))) (fun _ _ _ => rfl) ?_
      intro M2 a2 c2 hO2 hK2 hT2 hF2 aC w hh
      have hM2 := hK2.up hT2 (Nat.le_refl _) hM1
      have hOk0k1k2 := hK2.own hOk0k1 (by first | assumption | exact fun _ _ h => by cases h)
      have hOk0k1q2 := apart_new hOk0k1 (by first | assumption | exact fun _ _ h => by cases h) hF2
      letI := (sg M2 l a_l c_l b a c i k b0 a0 c0 b1 a1 c1 b2 a2 c2)
      refine walk_ops (F := F8) (T := C8) (fuel := 1000) (d := 10) mixed (allF_cons (FactOk.bi rfl rfl rfl rfl rfl rfl (intI (by omega) (by omega) (by omega))) allF_nil) allC_nil ?_ hh
      exact ostop_backM (s1 := (sg M2 l a_l c_l b a c i k b0 a0 c0 b1 a1 c1 b2 a2 c2)) (sg := (fun (⟨M, b, a, c, i⟩ : Mem × List St × Option Addr × Nat × Nat) => sg M l a_l c_l b a c i 0 [] none 0 [] none 0 [] none 0)) (I := fun (⟨M, b, a, c, i⟩ : Mem × List St × Option Addr × Nat × Nat) => OArr W.heap.size M elS 4 encS (.slice a b.length c) b ∧ (∀ j o, heapOf W j = some o → M j = some o) ∧ i ≤ l.length ∧ b.length ≤ i ∧ InsOk l i b) (μ := fun (⟨M, b, a, c, i⟩ : Mem × List St × Option Addr × Nat × Nat) => l.length - i) (x := ⟨M, b, a, c, i⟩) ⟨M2, b2, a2, c2, i + 1⟩ e25 (meet_cons (by exact meetV (.slice a_l l.length c_l) rfl rfl) (meet_cons (by exact meetV (.slice a2 b2.length c2) rfl rfl) (meet_cons (by exact meetV (.int .i64 ((i + 1 : Nat) : Int)) rfl rfl) meet_nil))) (fun _ _ h => h) (by first | exact ⟨hO, hM, by omega, by omega, hI0.2.2.2.2.same (by omega) (show k < b.length by omega) r0⟩ | exact ⟨hO2, hM2, by omega, by omega, hI0.2.2.2.2.ins (by omega) hI.1 hI.2 (fun _ => q1) (fun _ => r0) hb0 hb1 hb2⟩ | exact ⟨hO2, hM2, by omega, by omega, hI0.2.2.2.2.ins (by omega) hI.1 hI.2 (fun h => absurd h (by omega)) (fun h => absurd h (by omega)) hb0 hb1 hb2⟩) (by (try dsimp only); omega)
  · refine walk_to (F := F11) (T := C11) (fuel := 1000) (d := 10) mixed (allF_cons (FactOk.arrLen (hl.mono hM) rfl rfl under27 rfl rfl) (allF_cons (FactOk.bi rfl rfl rfl rfl rfl rfl (boolF (by omega))) allF_nil)) allC_nil ?_ hh
    refine walk_leave (F := F0) (T := C0) (fuel := 1000) (d := 10) mixed allF_nil allC_nil ?_
    exact ostop_end e26 fun w2 hLow hIn => ⟨(by exact newEnd hO (insEnd hI.2.2.2.2 hi1 (by omega)) hIn), hLow⟩   -- returns symv 1
end RSort
end AE
end Go.Proofs.YtheaofepenbcgaaGreatDoor

/- StampComparesAsSpecified: the law for all stamps -/
namespace Go.Proofs.YtheaofepenbcgaaGreatDoor
open Go Go.Proofs Go.RowKit
namespace AE
-- stops at: a call with an effect
-- stops at: a call with an effect
namespace CmpAsG
noncomputable def body : Code := (Tryz.f3.body).getD .skip
def N : Nat := 46
noncomputable abbrev at' (N : Nat) (F : List (FOp × Value)) (C : List (FuncId × List Value × Value)) (c : Code) (s : ASt) : Option Stop := evalTo Tryz.prog F C N 1000 10 c s
noncomputable abbrev leave' (N : Nat) (F : List (FOp × Value)) (C : List (FuncId × List Value × Value)) (ks : List KI) (o : Option Stop) : Option Stop := evalLeave Tryz.prog F C N 1000 10 ks o
noncomputable abbrev unr' (N : Nat) (F : List (FOp × Value)) (C : List (FuncId × List Value × Value)) (m : Nat) (o : Option Stop) : Option Stop := evalUnroll Tryz.prog F C N 1000 10 m o
noncomputable abbrev res' (N : Nat) (F : List (FOp × Value)) (C : List (FuncId × List Value × Value)) (ks : List KI) (x : AX) (s : ASt) : Option Stop := evalRes Tryz.prog F C N 1000 10 ks x s
noncomputable abbrev ops' (N : Nat) (F : List (FOp × Value)) (C : List (FuncId × List Value × Value)) (r : List Oper) (ops : Array Oper) (ks : List KI) (s : ASt) : Option Stop := evalOps Tryz.prog F C N 1000 10 r ops ks s
def s0 : ASt := { sl := slots [(2, .agg ⟨[symv 5, symv 6, symv 7, symv 8]⟩), (1, .agg ⟨[symv 1, symv 2, symv 3, symv 4]⟩), (0, symv 0)], ms := [], A := start }
def F0 : List (FOp × Value) := [(.len #[22] 3 (symv 0), symv 9),
    (.bin .gtr 3 (symv 9) (.int .i64 60), .bool true)]
def C0 : List (FuncId × List Value × Value) := [(6, [], .bool true)]
set_option maxRecDepth 100000 in
theorem e0 : endVal Tryz.prog Tryz.f3 (at' 46 F0 C0 body s0) = some (.bool true) := by kernel_rfl
def F1 : List (FOp × Value) := [(.len #[22] 3 (symv 0), symv 9),
    (.bin .gtr 3 (symv 9) (.int .i64 60), .bool false)]
def C1 : List (FuncId × List Value × Value) := [(6, [], .bool true)]
set_option maxRecDepth 100000 in
theorem e1 : callAt Tryz.prog (at' 46 F1 C1 body s0) = some (8, [symv 0]) := by kernel_rfl
noncomputable abbrev so0 := at' 46 F1 C1 body s0
noncomputable def bk0 : List Bk := [⟨.cells [symv 1, symv 2, symv 3, symv 4], 24, 0⟩, ⟨.cells [symv 5, symv 6, symv 7, symv 8], 24, 0⟩]
def hd0 : Sl := slots [(7, .bool true), (6, .bool false), (5, .pointer (some ⟨1, 0, none⟩)), (4, .pointer (some ⟨0, 0, none⟩)), (0, symv 0)]
def hp0 : Sl := match aput 46 hd0 (some 15) (symv 10) with | some s => s | none => .nil
set_option maxRecDepth 100000 in
theorem e2 : trAll (stopSt so0) hd0 bk0 = some [(symv 0, symv 0), (symv 1, symv 1), (symv 2, symv 2), (symv 3, symv 3), (symv 4, symv 4), (symv 5, symv 5), (symv 6, symv 6), (symv 7, symv 7), (symv 8, symv 8)] := by kernel_rfl
set_option maxRecDepth 100000 in
theorem e3 : aput 46 hd0 (stopDst so0) (symv 10) = some hp0 := by kernel_rfl
def F2 : List (FOp × Value) := []
def C2 : List (FuncId × List Value × Value) := []
set_option maxRecDepth 100000 in
theorem e4 : callAt Tryz.prog (ops' 46 F2 C2 (stopRest so0) (stopOps so0) (stopKs so0) { sl := hp0, ms := [], A := mkAS bk0 }) = some (9, [symv 0]) := by kernel_rfl
noncomputable abbrev so1 := ops' 46 F2 C2 (stopRest so0) (stopOps so0) (stopKs so0) { sl := hp0, ms := [], A := mkAS bk0 }
noncomputable def bk1 : List Bk := [⟨.cells [symv 1, symv 2, symv 3, symv 4], 24, 0⟩, ⟨.cells [symv 5, symv 6, symv 7, symv 8], 24, 0⟩]
def hd1 : Sl := slots [(15, symv 10), (7, .bool true), (6, .bool false), (5, .pointer (some ⟨1, 0, none⟩)), (4, .pointer (some ⟨0, 0, none⟩)), (0, symv 0)]
def hp1 : Sl := match aput 46 hd1 (some 17) (symv 11) with | some s => s | none => .nil
set_option maxRecDepth 100000 in
theorem e5 : trAll (stopSt so1) hd1 bk1 = some [(symv 0, symv 0), (symv 10, symv 10), (symv 1, symv 1), (symv 2, symv 2), (symv 3, symv 3), (symv 4, symv 4), (symv 5, symv 5), (symv 6, symv 6), (symv 7, symv 7), (symv 8, symv 8)] := by kernel_rfl
set_option maxRecDepth 100000 in
theorem e6 : aput 46 hd1 (stopDst so1) (symv 11) = some hp1 := by kernel_rfl
def F3 : List (FOp × Value) := [(.bin .eql 3 (symv 12) (symv 12), .bool true)]
def C3 : List (FuncId × List Value × Value) := [(7, [symv 10, symv 11], .bool true),
    (10, [.agg ⟨[symv 1, symv 2, symv 3, symv 4]⟩], .bool true),
    (11, [.agg ⟨[symv 1, symv 2, symv 3, symv 4]⟩], .bool true),
    (12, [.agg ⟨[symv 1, symv 2, symv 3, symv 4]⟩, .agg ⟨[symv 5, symv 6, symv 7, symv 8]⟩], symv 12),
    (13, [.agg ⟨[symv 1, symv 2, symv 3, symv 4]⟩, .agg ⟨[symv 5, symv 6, symv 7, symv 8]⟩], symv 12),
    (14, [symv 0], .bool true),
    (15, [symv 0], .bool true)]
set_option maxRecDepth 100000 in
theorem e7 : endVal Tryz.prog Tryz.f3 (ops' 46 F3 C3 (stopRest so1) (stopOps so1) (stopKs so1) { sl := hp1, ms := [], A := mkAS bk1 }) = some (.bool true) := by kernel_rfl
def F4 : List (FOp × Value) := [(.bin .eql 3 (symv 12) (symv 12), .bool true)]
def C4 : List (FuncId × List Value × Value) := [(7, [symv 10, symv 11], .bool true),
    (10, [.agg ⟨[symv 1, symv 2, symv 3, symv 4]⟩], .bool true),
    (11, [.agg ⟨[symv 1, symv 2, symv 3, symv 4]⟩], .bool true),
    (12, [.agg ⟨[symv 1, symv 2, symv 3, symv 4]⟩, .agg ⟨[symv 5, symv 6, symv 7, symv 8]⟩], symv 12),
    (13, [.agg ⟨[symv 1, symv 2, symv 3, symv 4]⟩, .agg ⟨[symv 5, symv 6, symv 7, symv 8]⟩], symv 12),
    (14, [symv 0], .bool false),
    (15, [symv 0], .bool false)]
set_option maxRecDepth 100000 in
theorem e8 : endVal Tryz.prog Tryz.f3 (ops' 46 F4 C4 (stopRest so1) (stopOps so1) (stopKs so1) { sl := hp1, ms := [], A := mkAS bk1 }) = some (.bool true) := by kernel_rfl
def F5 : List (FOp × Value) := [(.bin .eql 3 (symv 12) (symv 12), .bool true)]
def C5 : List (FuncId × List Value × Value) := [(7, [symv 10, symv 11], .bool true),
    (10, [.agg ⟨[symv 1, symv 2, symv 3, symv 4]⟩], .bool false),
    (11, [.agg ⟨[symv 1, symv 2, symv 3, symv 4]⟩], .bool false),
    (12, [.agg ⟨[symv 1, symv 2, symv 3, symv 4]⟩, .agg ⟨[symv 5, symv 6, symv 7, symv 8]⟩], symv 12),
    (13, [.agg ⟨[symv 1, symv 2, symv 3, symv 4]⟩, .agg ⟨[symv 5, symv 6, symv 7, symv 8]⟩], symv 12),
    (14, [symv 0], .bool true),
    (15, [symv 0], .bool true)]
set_option maxRecDepth 100000 in
theorem e9 : endVal Tryz.prog Tryz.f3 (ops' 46 F5 C5 (stopRest so1) (stopOps so1) (stopKs so1) { sl := hp1, ms := [], A := mkAS bk1 }) = some (.bool true) := by kernel_rfl
def F6 : List (FOp × Value) := [(.bin .eql 3 (symv 12) (symv 12), .bool true)]
def C6 : List (FuncId × List Value × Value) := [(7, [symv 10, symv 11], .bool true),
    (10, [.agg ⟨[symv 1, symv 2, symv 3, symv 4]⟩], .bool false),
    (11, [.agg ⟨[symv 1, symv 2, symv 3, symv 4]⟩], .bool false),
    (12, [.agg ⟨[symv 1, symv 2, symv 3, symv 4]⟩, .agg ⟨[symv 5, symv 6, symv 7, symv 8]⟩], symv 12),
    (13, [.agg ⟨[symv 1, symv 2, symv 3, symv 4]⟩, .agg ⟨[symv 5, symv 6, symv 7, symv 8]⟩], symv 12),
    (14, [symv 0], .bool false),
    (15, [symv 0], .bool false)]
set_option maxRecDepth 100000 in
theorem e10 : endVal Tryz.prog Tryz.f3 (ops' 46 F6 C6 (stopRest so1) (stopOps so1) (stopKs so1) { sl := hp1, ms := [], A := mkAS bk1 }) = some (.bool true) := by kernel_rfl
@[reducible] noncomputable def vL (l : List St) (a_l : Option Addr) (c_l : Nat) (x : St) (y : St) (b0 : List St) (a0 : Option Addr) (c0 : Nat) (b1 : List St) (a1 : Option Addr) (c1 : Nat) : List Value := [.slice a_l l.length c_l, .int .i64 x.1, .int .i64 x.2.1, .int .i64 x.2.2.1, .int .i64 x.2.2.2, .int .i64 y.1, .int .i64 y.2.1, .int .i64 y.2.2.1, .int .i64 y.2.2.2, .int .i64 ((l.length : Nat) : Int), .slice a0 b0.length c0, .slice a1 b1.length c1, .int .i64 (cmpS x y)]
@[reducible] noncomputable def sg (M : Mem) (l : List St) (a_l : Option Addr) (c_l : Nat) (x : St) (y : St) (b0 : List St) (a0 : Option Addr) (c0 : Nat) (b1 : List St) (a1 : Option Addr) (c1 : Nat) : Sig := sgL M (vL l a_l c_l x y b0 a0 c0 b1 a1 c1)
set_option maxHeartbeats 4000000 in
set_option maxRecDepth 100000 in
theorem any (W : World) {v_l : Value} {l : List St} (hl : Arr (heapOf W) 4 encS v_l l) (x : St) (y : St)  : Calls Tryz.prog 3 #[v_l, St.val x, St.val y] W fun e w' => e = .returned (.bool true) ∧ Low W.heap.size W w' := by
  obtain ⟨a_l, c_l, rfl⟩ := hl.slice
  refine @walk_enter (sg (heapOf W) l a_l c_l x y [] none 0 [] none 0) Tryz.prog 3 Tryz.f3 body [symv 0, .agg ⟨[symv 1, symv 2, symv 3, symv 4]⟩, .agg ⟨[symv 5, symv 6, symv 7, symv 8]⟩] (slots [(2, .agg ⟨[symv 5, symv 6, symv 7, symv 8]⟩), (1, .agg ⟨[symv 1, symv 2, symv 3, symv 4]⟩), (0, symv 0)]) N W _ Tryz.func3 (by kernel_rfl) (by kernel_rfl) (by kernel_rfl) (by kernel_rfl) (immW_sgL W _) fun a hh => ?_
  letI := (sg (heapOf W) l a_l c_l x y [] none 0 [] none 0)
  by_cases h0 : 60 < ((l.length : Nat) : Int)
  · refine walk_to (F := F0) (T := C0) (fuel := 1000) (d := 10) mixed (allF_cons (FactOk.arrLen hl rfl rfl under27 rfl rfl) (allF_cons (FactOk.bi rfl rfl rfl rfl rfl rfl (boolT (by omega))) allF_nil)) (allC_cons (callSanity) allC_nil) ?_ hh
    exact ostop_end e0 fun w2 hLow hIn => ⟨(by rfl), hLow⟩   -- returns .bool true
  · refine walk_to (F := F1) (T := C1) (fuel := 1000) (d := 10) mixed (allF_cons (FactOk.arrLen hl rfl rfl under27 rfl rfl) (allF_cons (FactOk.bi rfl rfl rfl rfl rfl rfl (boolF (by omega))) allF_nil)) (allC_cons (callSanity) allC_nil) ?_ hh
    obtain ⟨b0, hb0⟩ : ∃ b0 : List St, b0 = sortedS l := ⟨_, rfl⟩
    refine ostop_callT (Y := Option Addr × Nat) (vals2 := fun yV => (vL l a_l c_l x y b0 yV.1 yV.2 [] none 0)) (T := none) (R := fun y M' => OArr W.heap.size M' elS 4 encS (.slice y.1 b0.length y.2) b0 ∧ Keeps (heapOf W) M' none) e1 e2 e3 rfl (fun w hw hB => by subst hb0; exact newOf hw hB (fun y M' => rfl) (SortedG.any w (hl.mono hw) (by omega))) (fun _ _ _ => (meet_cons (by exact meetV (.slice a_l l.length c_l) rfl rfl) (meet_cons (by exact meetV (.int .i64 x.1) rfl rfl) (meet_cons (by exact meetV (.int .i64 x.2.1) rfl rfl) (meet_cons (by exact meetV (.int .i64 x.2.2.1) rfl rfl) (meet_cons (by exact meetV (.int .i64 x.2.2.2) rfl rfl) (meet_cons (by exact meetV (.int .i64 y.1) rfl rfl) (meet_cons (by exact meetV (.int .i64 y.2.1) rfl rfl) (meet_cons (by exact meetV (.int .i64 y.2.2.1) rfl rfl) (meet_cons (by exact meetV (.int .i64 y.2.2.2) rfl rfl) meet_nil)))))))))) ?_
    intro M0 ⟨a0, c0⟩ hR0 aC w hh
    obtain ⟨hO0, hK0⟩ := hR0
    have hM0 := hK0.up (fun _ h => by cases h) (Nat.le_refl _) (fun _ _ h => h)
    have hn0 : b0.length ≤ l.length := by rw [hb0]; first | done | exact sortedS_len l
    letI := (sg M0 l a_l c_l x y b0 a0 c0 [] none 0)
    refine walk_ops (F := F2) (T := C2) (fuel := 1000) (d := 10) mixed allF_nil allC_nil ?_ hh
    obtain ⟨b1, hb1⟩ : ∃ b1 : List St, b1 = sortedS l := ⟨_, rfl⟩
    refine ostop_callT (Y := Option Addr × Nat) (vals2 := fun yV => (vL l a_l c_l x y b0 a0 c0 b1 yV.1 yV.2)) (T := none) (R := fun y M' => OArr W.heap.size M' elS 4 encS (.slice y.1 b1.length y.2) b1 ∧ Keeps M0 M' none) e4 e5 e6 rfl (fun w hw hB => by subst hb1; exact newOf hw hB (fun y M' => rfl) (RSort.any w ((hl.mono hM0).mono hw) (by omega))) (fun _ _ _ => (meet_cons (by exact meetV (.slice a_l l.length c_l) rfl rfl) (meet_cons (by exact meetV (.slice a0 b0.length c0) rfl rfl) (meet_cons (by exact meetV (.int .i64 x.1) rfl rfl) (meet_cons (by exact meetV (.int .i64 x.2.1) rfl rfl) (meet_cons (by exact meetV (.int .i64 x.2.2.1) rfl rfl) (meet_cons (by exact meetV (.int .i64 x.2.2.2) rfl rfl) (meet_cons (by exact meetV (.int .i64 y.1) rfl rfl) (meet_cons (by exact meetV (.int .i64 y.2.1) rfl rfl) (meet_cons (by exact meetV (.int .i64 y.2.2.1) rfl rfl) (meet_cons (by exact meetV (.int .i64 y.2.2.2) rfl rfl) meet_nil))))))))))) ?_
    intro M1 ⟨a1, c1⟩ hR1 aC w hh
    obtain ⟨hO1, hK1⟩ := hR1
    have hM1 := hK1.up (fun _ h => by cases h) (Nat.le_refl _) hM0
    have hO0k1 := hK1.own hO0 (fun _ _ h => by cases h)
    have hn1 : b1.length ≤ l.length := by rw [hb1]; first | done | exact sortedS_len l
    letI := (sg M1 l a_l c_l x y b0 a0 c0 b1 a1 c1)
    by_cases q0 : ValidP x
    · by_cases q1 : ordB l = true
      · refine walk_ops (F := F3) (T := C3) (fuel := 1000) (d := 10) mixed (allF_cons (FactOk.bi rfl rfl rfl rfl rfl rfl (boolT (by omega))) allF_nil) (allC_cons (callSameT rfl rfl (hO0k1.arr hkS) (hO1.arr hkS) (by omega) (by rw [hb0, hb1])) (allC_cons (callValidT rfl rfl q0) (allC_cons (callRValidT rfl rfl q0) (allC_cons (callCmpS rfl rfl rfl rfl) (allC_cons (callRCmp rfl rfl rfl rfl) (allC_cons (callOrdT rfl rfl (hl.mono hM1) (by omega) q1) (allC_cons (callROrdT rfl rfl (hl.mono hM1) (by omega) q1) allC_nil))))))) ?_ hh
        exact ostop_end e7 fun w2 hLow hIn => ⟨(by rfl), hLow⟩   -- returns .bool true
      · refine walk_ops (F := F4) (T := C4) (fuel := 1000) (d := 10) mixed (allF_cons (FactOk.bi rfl rfl rfl rfl rfl rfl (boolT (by omega))) allF_nil) (allC_cons (callSameT rfl rfl (hO0k1.arr hkS) (hO1.arr hkS) (by omega) (by rw [hb0, hb1])) (allC_cons (callValidT rfl rfl q0) (allC_cons (callRValidT rfl rfl q0) (allC_cons (callCmpS rfl rfl rfl rfl) (allC_cons (callRCmp rfl rfl rfl rfl) (allC_cons (callOrdF rfl rfl (hl.mono hM1) (by omega) q1) (allC_cons (callROrdF rfl rfl (hl.mono hM1) (by omega) q1) allC_nil))))))) ?_ hh
        exact ostop_end e8 fun w2 hLow hIn => ⟨(by rfl), hLow⟩   -- returns .bool true
    · by_cases q1 : ordB l = true
      · refine walk_ops (F := F5) (T := C5) (fuel := 1000) (d := 10) mixed (allF_cons (FactOk.bi rfl rfl rfl rfl rfl rfl (boolT (by omega))) allF_nil) (allC_cons (callSameT rfl rfl (hO0k1.arr hkS) (hO1.arr hkS) (by omega) (by rw [hb0, hb1])) (allC_cons (callValidF rfl rfl q0) (allC_cons (callRValidF rfl rfl q0) (allC_cons (callCmpS rfl rfl rfl rfl) (allC_cons (callRCmp rfl rfl rfl rfl) (allC_cons (callOrdT rfl rfl (hl.mono hM1) (by omega) q1) (allC_cons (callROrdT rfl rfl (hl.mono hM1) (by omega) q1) allC_nil))))))) ?_ hh
        exact ostop_end e9 fun w2 hLow hIn => ⟨(by rfl), hLow⟩   -- returns .bool true
      · refine walk_ops (F := F6) (T := C6) (fuel := 1000) (d := 10) mixed (allF_cons (FactOk.bi rfl rfl rfl rfl rfl rfl (boolT (by omega))) allF_nil) (allC_cons (callSameT rfl rfl (hO0k1.arr hkS) (hO1.arr hkS) (by omega) (by rw [hb0, hb1])) (allC_cons (callValidF rfl rfl q0) (allC_cons (callRValidF rfl rfl q0) (allC_cons (callCmpS rfl rfl rfl rfl) (allC_cons (callRCmp rfl rfl rfl rfl) (allC_cons (callOrdF rfl rfl (hl.mono hM1) (by omega) q1) (allC_cons (callROrdF rfl rfl (hl.mono hM1) (by omega) q1) allC_nil))))))) ?_ hh
        exact ostop_end e10 fun w2 hLow hIn => ⟨(by rfl), hLow⟩   -- returns .bool true
end CmpAsG
end AE
end Go.Proofs.YtheaofepenbcgaaGreatDoor

namespace Go.Proofs.YtheaofepenbcgaaGreatDoor
open Go Go.ChangeShapes Go.WideShapes Go.ChangeAt Go.RowKit
set_option maxRecDepth 100000

theorem stampComparesAsSpecified_laid (os : Os) (args : Array Value) : laidMetH Tryz.prog Rows.stampComparesAsSpecifiedRow.laid ((World.laidAll Tryz.prog os Rows.stampComparesAsSpecifiedRow.laid).forCall (fun _ _ => 0) ⟨#[], args, []⟩).memory := by
  rw [MakeChecks.laidMetH_plain _ _ _ (by kernel_rfl)]
  exact laidMet_laidAll _ (by kernel_rfl) (by kernel_rfl)

theorem stampComparesAsSpecified_lifted (os : Os) (started : os.Started) (H : Type) (enc : TypeId × Value → H) :
    ReturnsInHanded {} Tryz.checked os 3 .any (fun w args => (Rows.stampComparesAsSpecifiedSpec.pre enc Tryz.prog Tryz.f3 [] false w args ∧ laidMetH Tryz.prog Rows.stampComparesAsSpecifiedRow.laid w) ∧ sizedMet enc Tryz.prog Tryz.f3 (OpenSpec.ofChange Rows.stampComparesAsSpecifiedSpec) false w args)
      (Rows.stampComparesAsSpecifiedSpec.post enc Tryz.prog Tryz.f3 false true false false) := by
  refine returnsInHanded_of_change_and (C := Tryz.checked) (X := fun w _ => laidMetH Tryz.prog Rows.stampComparesAsSpecifiedRow.laid w) (fun _ _ _ hh h => h.of_heap hh) own started (by kernel_rfl) Tryz.func3
    (ChangeSpec.witness_shaped (enc := enc) (C := Tryz.checked) (os := os) (X := fun w _ => laidMetH Tryz.prog Rows.stampComparesAsSpecifiedRow.laid w) false (World.laidAll Tryz.prog os Rows.stampComparesAsSpecifiedRow.laid) #[.slice none 0 0, AE.stV 0 0 0 0, AE.stV 0 0 0 0] 8 (World.laidAll_os _ _ _)
      (World.shaped_of_ZipB (by kernel_rfl) (by kernel_rfl)) (by kernel_rfl) (by kernel_rfl) (by kernel_rfl) (stampComparesAsSpecified_laid os _)) ?_
  intro W base args ds gs before hval0 hW _ _ _ _
  have hval : ∀ (j : Nat) t v, Tryz.f3.params[j]? = some t → args[j]? = some v → Value.okWide Tryz.prog W .any base t v := hval0
  have hW' := hW
  obtain ⟨p, q, hA0, hV, rfl, _, _⟩ := hW
  have hA : DataW.TrodAll enc Tryz.prog W 0 (fun _ => true) true Tryz.f3.params.toList args.toList ds p := hA0
  rw [Tryz.params3] at hA hval
  have hAk := hA
  obtain ⟨v0, v1, v2, d0, d1, d2, p0, p1, p2, rfl, rfl, rfl, h0, h1, h2⟩ := trodAll_three hA
  obtain ⟨rfl, rfl⟩ := trodVars_none hV
  obtain ⟨l0, hl0⟩ := open_stamps (hval 0 22 v0 rfl rfl) h0
  obtain ⟨t1, c1, s1, q1, rfl⟩ := open_stamp (hval 1 24 v1 rfl rfl) h1
  obtain ⟨t2, c2, s2, q2, rfl⟩ := open_stamp (hval 2 24 v2 rfl rfl) h2
  simp only [List.append_nil] at hW'
  have hlt : ∀ x ∈ p0 ++ p1 ++ p2, x.block < W.heap.size := fun x hx => by simpa using hW'.lt x hx
  refine (AE.CmpAsG.any W hl0 (t1, c1, s1, q1) (t2, c2, s2, q2)).mono fun e W' ⟨he, hb⟩ => ?_
  subst he
  exact ⟨_, rfl, _, _, _, [], p0 ++ p1 ++ p2, [], hW', trodAll_mk1 (shut_bool Tryz.underlying4 _), trodAll_below laidOut hb.below _ _ _ _ (by kernel_rfl) hAk hlt, rfl, hb.below.frame _, fun h => by cases h⟩

theorem stampComparesAsSpecified_row : Rows.StampComparesAsSpecifiedSaid :=
  OpenClaim.holds_of_wide 3 Tryz.f3 rfl rfl rfl rfl rfl rfl rfl ⟨rfl, rfl, rfl, rfl, rfl⟩ rfl rfl rfl rfl rfl (by kernel_rfl) Tryz.func3 (by kernel_rfl)
    (of_decide_eq_true (by kernel_rfl)) (by unfold Func.isWrapper; first | (rw [if_pos (by decide +kernel)]; kernel_rfl) | (rw [if_neg (by decide +kernel)]; exact ⟨rfl, rfl⟩))
    (fun os started H enc _ => stampComparesAsSpecified_lifted os started H enc)

theorem stampComparesAsSpecified_card : Rows.StampComparesAsSpecifiedCardSaid :=
  Claim7.holds_tied_plain_at .later [] [.data, .data, .data, .data, .sentinel, .sentinel, .pinned] true (true, "8876499d230eb0fd6c8639e00a990afc07c2c11a9d87cf5b2cc2f45ab4d42669") true stampComparesAsSpecified_row (fun _ h => by cases h) (by kernel_rfl) (fun _ h => by cases h) stampComparesAsSpecified_row_tie rfl ⟨rfl, rfl⟩ (by kernel_rfl) rfl
    (fun f fn hf hfn => by
      obtain rfl : f = 3 := Option.some.inj ((show Tryz.prog.funcNamed "voxel/voxellaw24.StampComparesAsSpecified" = some 3 by kernel_rfl).symm.trans hf) |>.symm
      obtain rfl : fn = Tryz.f3 := (Option.some.inj (Tryz.func3.symm.trans hfn)).symm
      exact ⟨by kernel_rfl, fun j t ht => by
        rw [Tryz.params3] at ht
        have hm := Array.mem_of_getElem? ht
        have hall : (Tryz.f3.params.toList.all fun u => !Tryz.prog.wantsStandIn u) = true := by kernel_rfl
        rw [Tryz.params3] at hall
        have hw := List.all_eq_true.1 hall t (by simpa using hm)
        exact (show Tryz.prog.wantsStandIn t = false by simpa using hw)⟩)
    (by kernel_rfl)
#print axioms stampComparesAsSpecified_card

end Go.Proofs.YtheaofepenbcgaaGreatDoor

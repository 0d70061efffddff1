/- Proved: the tied card of MaterialParsesAsSpecified: for every text of at most 2000 bytes, Parse of the program returns the table, or the error with its line, that the reference returns. No condition beyond the own cells of the row. -/
import Derived.Test.YtblhndlmgibljaaDoorPsCard5
import Derived.Test.YtblhndlmgibljaaDoorTie
import Derived.Test.YtblhndlmgibljaaDoorCards

/- The walk of the reference's words. -/
namespace Go.Proofs.YtblhndlmgibljaaDoor
open Go Go.Proofs Go.RowKit
set_option maxRecDepth 100000
namespace AE
namespace RWordG
noncomputable def body : Code := (Tryd.f58.body).getD .skip
def N : Nat := 32
noncomputable abbrev at' (N : Nat) (F : List (FOp × Value)) (C : List (FuncId × List Value × Value)) (c : Code) (s : ASt) : Option Stop := evalTo Tryd.prog F C N 1000 10 c s
noncomputable abbrev leave' (N : Nat) (F : List (FOp × Value)) (C : List (FuncId × List Value × Value)) (ks : List KI) (o : Option Stop) : Option Stop := evalLeave Tryd.prog F C N 1000 10 ks o
noncomputable abbrev ops' (N : Nat) (F : List (FOp × Value)) (C : List (FuncId × List Value × Value)) (r : List Oper) (ops : Array Oper) (ks : List KI) (s : ASt) : Option Stop := evalOps Tryd.prog F C N 1000 10 r ops ks s
def s0 : ASt := { sl := slots [(0, symv 0)], ms := [], A := start }
def F0 : List (FOp × Value) := []
def C0 : List (FuncId × List Value × Value) := []
noncomputable def bks0 : List Bk := []
def head0 : Sl := slots [(5, symv 3), (4, symv 2), (3, symv 1), (2, .slice none 0 0), (0, symv 0)]
noncomputable abbrev at0 := at' 32 F0 C0 body s0
theorem e0 : headObs head0 bks0 at0 = some [(symv 0, symv 0), (.slice none 0 0, symv 1), (.int .i64 0, symv 3), (.int .i64 0, symv 2)] := by kernel_rfl
noncomputable def lc0 : Code := loopAt body [1, 1, 1, 0, 1, 4]
noncomputable def lk0 : List KI := ksAt body [1, 1, 1, 0, 1, 4] []
theorem e1 : stopCode at0 = lc0 := by kernel_rfl
theorem e2 : stopKs at0 = lk0 := by kernel_rfl
def F1 : List (FOp × Value) := [(.len #[9] 3 (symv 0), symv 4),
    (.bin .leq 3 (symv 3) (symv 4), .bool true),
    (.bin .eql 3 (symv 3) (symv 4), .bool true),
    (.slc 9 (symv 0) (some (symv 2)) (some (symv 3)) none, symv 5)]
def C1 : List (FuncId × List Value × Value) := []
theorem e3 : cellsAt (stopSt (at' 32 F1 C1 lc0 (headSt head0 bks0))).A 1 (.slice (some ⟨0, 0, none⟩) 1 1) = some [symv 5] := by kernel_rfl
theorem e4 : appOf 68 (at' 32 F1 C1 lc0 (headSt head0 bks0)) = some (symv 1, .slice (some ⟨0, 0, none⟩) 1 1) := by kernel_rfl
noncomputable abbrev so0 := at' 32 F1 C1 lc0 (headSt head0 bks0)
noncomputable def bk0 : List Bk := []
def hd0 : Sl := slots [(5, symv 3), (4, symv 2), (3, symv 1), (2, .slice none 0 0), (0, symv 0)]
def hp0 : Sl := match aput 32 hd0 (some 28) (symv 8) with | some s => s | none => .nil
theorem e5 : trAll (stopSt so0) hd0 bk0 = some [(symv 0, symv 0), (symv 1, symv 1), (symv 3, symv 3), (symv 2, symv 2)] := by kernel_rfl
theorem e6 : aput 32 hd0 (stopDst so0) (symv 8) = some hp0 := by kernel_rfl
noncomputable def po0 : Array Oper := opsAt lc0 [1, 0, 4, 1, 2, 0]
noncomputable def pk0 : List KI := ksAt lc0 [1, 0, 4, 1, 2, 0] []
noncomputable def pr0 : List Oper := po0.toList.drop 7
theorem e7 : stopRest so0 = pr0 := by kernel_rfl
theorem e8 : stopOps so0 = po0 := by kernel_rfl
theorem e9 : stopKs so0 = pk0 := by kernel_rfl
def F2 : List (FOp × Value) := [(.bin .add 3 (symv 3) (.int .i64 1), symv 7)]
def C2 : List (FuncId × List Value × Value) := []
theorem e10 : backObs head0 bks0 (ops' 32 F2 C2 pr0 po0 pk0 { sl := hp0, ms := [], A := mkAS bk0 }) = some [(symv 0, symv 0), (symv 8, symv 1), (symv 7, symv 3), (symv 7, symv 2)] := by kernel_rfl
def F3 : List (FOp × Value) := [(.len #[9] 3 (symv 0), symv 4),
    (.bin .leq 3 (symv 3) (symv 4), .bool true),
    (.bin .eql 3 (symv 3) (symv 4), .bool false),
    (.ix 9 (symv 0) (symv 3), symv 6),
    (.bin .eql 5 (symv 6) (.int .u8 32), .bool true),
    (.slc 9 (symv 0) (some (symv 2)) (some (symv 3)) none, symv 5)]
def C3 : List (FuncId × List Value × Value) := []
theorem e11 : cellsAt (stopSt (at' 32 F3 C3 lc0 (headSt head0 bks0))).A 1 (.slice (some ⟨0, 0, none⟩) 1 1) = some [symv 5] := by kernel_rfl
theorem e12 : appOf 68 (at' 32 F3 C3 lc0 (headSt head0 bks0)) = some (symv 1, .slice (some ⟨0, 0, none⟩) 1 1) := by kernel_rfl
noncomputable abbrev so1 := at' 32 F3 C3 lc0 (headSt head0 bks0)
noncomputable def bk1 : List Bk := []
def hd1 : Sl := slots [(5, symv 3), (4, symv 2), (3, symv 1), (2, .slice none 0 0), (0, symv 0)]
def hp1 : Sl := match aput 32 hd1 (some 28) (symv 8) with | some s => s | none => .nil
theorem e13 : trAll (stopSt so1) hd1 bk1 = some [(symv 0, symv 0), (symv 1, symv 1), (symv 3, symv 3), (symv 2, symv 2)] := by kernel_rfl
theorem e14 : aput 32 hd1 (stopDst so1) (symv 8) = some hp1 := by kernel_rfl
noncomputable def po1 : Array Oper := opsAt lc0 [1, 0, 4, 1, 2, 0]
noncomputable def pk1 : List KI := ksAt lc0 [1, 0, 4, 1, 2, 0] []
noncomputable def pr1 : List Oper := po1.toList.drop 7
theorem e15 : stopRest so1 = pr1 := by kernel_rfl
theorem e16 : stopOps so1 = po1 := by kernel_rfl
theorem e17 : stopKs so1 = pk1 := by kernel_rfl
theorem e18 : backObs head0 bks0 (ops' 32 F2 C2 pr1 po1 pk1 { sl := hp1, ms := [], A := mkAS bk1 }) = some [(symv 0, symv 0), (symv 8, symv 1), (symv 7, symv 3), (symv 7, symv 2)] := by kernel_rfl
def F4 : List (FOp × Value) := [(.len #[9] 3 (symv 0), symv 4),
    (.bin .leq 3 (symv 3) (symv 4), .bool true),
    (.bin .eql 3 (symv 3) (symv 4), .bool false),
    (.ix 9 (symv 0) (symv 3), symv 6),
    (.bin .eql 5 (symv 6) (.int .u8 32), .bool false),
    (.bin .add 3 (symv 3) (.int .i64 1), symv 7)]
def C4 : List (FuncId × List Value × Value) := []
theorem e19 : backObs head0 bks0 (at' 32 F4 C4 lc0 (headSt head0 bks0)) = some [(symv 0, symv 0), (symv 1, symv 1), (symv 7, symv 3), (symv 2, symv 2)] := by kernel_rfl
def F5 : List (FOp × Value) := [(.len #[9] 3 (symv 0), symv 4),
    (.bin .leq 3 (symv 3) (symv 4), .bool false)]
def C5 : List (FuncId × List Value × Value) := []
theorem e20 : endVal Tryd.prog Tryd.f58 (leave' 32 F0 C0 lk0 (at' 32 F5 C5 lc0 (headSt head0 bks0))) = some (symv 1) := by kernel_rfl
@[reducible] noncomputable def vL (t : Bs) (b : List Bs) (a : Option Addr) (c : Nat) (f : Nat) (i : Nat) (b0 : List Bs) (a0 : Option Addr) (c0 : Nat) : List Value := [strV t, .slice a b.length c, .int .i64 ((f : Nat) : Int), .int .i64 ((i : Nat) : Int), .int .i64 ((t.length : Nat) : Int), strV ((t.drop f).take (i - f)), .int .u8 (((t.getD i 0).toNat : Nat) : Int), .int .i64 ((i + 1 : Nat) : Int), .slice a0 b0.length c0]
@[reducible] noncomputable def sg (M : Mem) (t : Bs) (b : List Bs) (a : Option Addr) (c : Nat) (f : Nat) (i : Nat) (b0 : List Bs) (a0 : Option Addr) (c0 : Nat) : Sig := sgL M (vL t b a c f i b0 a0 c0)
set_option maxHeartbeats 4000000 in
theorem any (W : World) (t : Bs) (hlen : t.length ≤ 100000) : Calls Tryd.prog 58 #[strV t] W fun e w' => (∃ a c, e = .returned (.slice a (splL 32 t).length c) ∧ OArr W.heap.size (heapOf w') elT 1 encT (.slice a (splL 32 t).length c) (splL 32 t)) ∧ Low W.heap.size W w' := by
  refine @walk_enter (sg (heapOf W) t [] none 0 0 0 [] none 0) Tryd.prog 58 Tryd.f58 body [symv 0] (slots [(0, symv 0)]) N W _ Tryd.func58 (by kernel_rfl) (by kernel_rfl) (by kernel_rfl) (by kernel_rfl) (immW_sgL W _) fun a hh => ?_
  letI := (sg (heapOf W) t [] none 0 0 0 [] none 0)
  refine walk_to (F := F0) (T := C0) (fuel := 1000) (d := 10) mixed aFn aCn ?_ hh
  refine ostop_loop (sg := (fun (⟨M, b, a, c, f, i⟩ : Mem × List Bs × Option Addr × Nat × Nat × Nat) => sg M t b a c f i [] none 0)) (fun (⟨M, b, a, c, f, i⟩ : Mem × List Bs × Option Addr × Nat × Nat × Nat) => OArr W.heap.size M elT 1 encT (.slice a b.length c) b ∧ (∀ i o, heapOf W i = some o → M i = some o) ∧ wordsTo 32 t b f i) (fun (⟨M, b, a, c, f, i⟩ : Mem × List Bs × Option Addr × Nat × Nat × Nat) => t.length + 1 - i) ⟨heapOf W, [], none, 0, 0, 0⟩ e0 (meet_cons (by exact meetV (strV t) rfl rfl) (meet_cons (by first | rfl | exact meetInt (by omega)) (meet_cons (by first | rfl | exact meetInt (by omega)) (meet_cons (by first | rfl | exact meetInt (by omega)) meet_nil)))) (fun _ _ h => h) (by exact ⟨OArr.nil _ _ _ _ _ _, fun _ _ h => h, wordsTo_zero 32 t⟩) ?_
  intro ⟨M, b, a, c, f, i⟩ hI aC w hh
  letI := (sg M t b a c f i [] none 0)
  refine walk_loopE e1 e2 ?_
  have hO := hI.1
  have hM := hI.2.1
  have hwb := hI.2.2.bounds
  by_cases p0 : ((i : Nat) : Int) ≤ ((t.length : Nat) : Int)
  · by_cases p1 : ((i : Nat) : Int) = ((t.length : Nat) : Int)
    · refine walk_to (F := F1) (T := C1) (fuel := 1000) (d := 10) mixed (aFc (FactOk.strLen rfl rfl underStr rfl rfl) (aFc (FactOk.bi rfl rfl rfl rfl rfl rfl (boolT (by omega))) (aFc (FactOk.bi rfl rfl rfl rfl rfl rfl (boolT (by omega))) (aFc (FactOk.strLH (l := t) (j := f) (j' := i) (show f ≤ i by omega) (show i ≤ t.length by omega) rfl rfl rfl rfl rfl underStr rfl rfl rfl rfl) aFn)))) aCn ?_ hh
      obtain ⟨b0, hb0⟩ : ∃ b0 : List Bs, b0 = b ++ [((((t.drop f).take (i - f))) : Bs)] := ⟨_, rfl⟩
      have hn0 : b0.length = b.length + 1 := by rw [hb0]; first | rfl | simp
      refine ostop_appendO (l := b) (lx := [((((t.drop f).take (i - f))) : Bs)]) (l' := b0) (vals2 := fun aV cV => (vL t b a c f i b0 aV cV)) (T := (obl (.slice a b.length c))) hb0 e4 underTl infoT zeroT iszT ibyT zszT (by decide) hkT honeT e5 e6 rfl (appTo_sym rfl rfl hO) (app_cells e3 hkT (by decide) rfl) (lenMax (show b.length + 1 ≤ 1000000 by omega)) (show (b.length + 1) * bytesT ≤ 140737488355328 by unfold bytesT; omega) (fun _ _ _ => (meet_cons (by exact meetV (strV t) rfl rfl) (meet_cons (by first | exact meetV (.slice a b.length c) rfl rfl | exact meetI rfl rfl (by omega)) (meet_cons (by first | exact meetV (.int .i64 ((i : Nat) : Int)) rfl rfl | exact meetI rfl rfl (by omega)) (meet_cons (by first | exact meetV (.int .i64 ((f : Nat) : Int)) rfl rfl | exact meetI rfl rfl (by omega)) meet_nil))))) (fun _ _ _ => rfl) ?_
      intro M0 a0 c0 hO0 hK0 hT0 aC w hh
      have hM0 := hK0.up hT0 (Nat.le_refl _) hM
      letI := (sg M0 t b a c f i b0 a0 c0)
      refine walk_opsE e7 e8 e9 (F := F2) (T := C2) (fuel := 1000) (d := 10) mixed (aFc (FactOk.bi rfl rfl rfl rfl rfl rfl (intI (by omega) (by omega) (by omega))) aFn) aCn ?_ hh
      exact ostop_backM (s1 := (sg M0 t b a c f i b0 a0 c0)) (sg := (fun (⟨M, b, a, c, f, i⟩ : Mem × List Bs × Option Addr × Nat × Nat × Nat) => sg M t b a c f i [] none 0)) (I := fun (⟨M, b, a, c, f, i⟩ : Mem × List Bs × Option Addr × Nat × Nat × Nat) => OArr W.heap.size M elT 1 encT (.slice a b.length c) b ∧ (∀ i o, heapOf W i = some o → M i = some o) ∧ wordsTo 32 t b f i) (μ := fun (⟨M, b, a, c, f, i⟩ : Mem × List Bs × Option Addr × Nat × Nat × Nat) => t.length + 1 - i) (x := ⟨M, b, a, c, f, i⟩) ⟨M0, b0, a0, c0, i + 1, i + 1⟩ e10 (meet_cons (by exact meetV (strV t) rfl rfl) (meet_cons (by first | exact meetV (.slice a0 b0.length c0) rfl rfl | exact meetI rfl rfl (by omega)) (meet_cons (by first | exact meetV (.int .i64 ((i + 1 : Nat) : Int)) rfl rfl | exact meetI rfl rfl (by omega)) (meet_cons (by first | exact meetV (.int .i64 ((i + 1 : Nat) : Int)) rfl rfl | exact meetI rfl rfl (by omega)) meet_nil)))) (fun _ _ h => h) (by exact ⟨by assumption, by assumption, by first | exact hI.2.2.hit (by omega) (by rw [b32]; assumption) hb0 | exact hI.2.2.fin (by omega) hb0 | exact hI.2.2.miss (by omega) (by rw [b32]; assumption)⟩) (by (try dsimp only); omega)
    · by_cases p2 : (((t.getD i 0).toNat : Nat) : Int) = 32
      · refine walk_to (F := F3) (T := C3) (fuel := 1000) (d := 10) mixed (aFc (FactOk.strLen rfl rfl underStr rfl rfl) (aFc (FactOk.bi rfl rfl rfl rfl rfl rfl (boolT (by omega))) (aFc (FactOk.bi rfl rfl rfl rfl rfl rfl (boolF (by omega))) (aFc (FactOk.strIx (l := t) (j := i) (show i < t.length by omega) rfl rfl rfl underStr rfl rfl rfl) (aFc (FactOk.bi rfl rfl rfl rfl rfl rfl (boolT (by omega))) (aFc (FactOk.strLH (l := t) (j := f) (j' := i) (show f ≤ i by omega) (show i ≤ t.length by omega) rfl rfl rfl rfl rfl underStr rfl rfl rfl rfl) aFn)))))) aCn ?_ hh
        obtain ⟨b0, hb0⟩ : ∃ b0 : List Bs, b0 = b ++ [((((t.drop f).take (i - f))) : Bs)] := ⟨_, rfl⟩
        have hn0 : b0.length = b.length + 1 := by rw [hb0]; first | rfl | simp
        refine ostop_appendO (l := b) (lx := [((((t.drop f).take (i - f))) : Bs)]) (l' := b0) (vals2 := fun aV cV => (vL t b a c f i b0 aV cV)) (T := (obl (.slice a b.length c))) hb0 e12 underTl infoT zeroT iszT ibyT zszT (by decide) hkT honeT e13 e14 rfl (appTo_sym rfl rfl hO) (app_cells e11 hkT (by decide) rfl) (lenMax (show b.length + 1 ≤ 1000000 by omega)) (show (b.length + 1) * bytesT ≤ 140737488355328 by unfold bytesT; omega) (fun _ _ _ => (meet_cons (by exact meetV (strV t) rfl rfl) (meet_cons (by first | exact meetV (.slice a b.length c) rfl rfl | exact meetI rfl rfl (by omega)) (meet_cons (by first | exact meetV (.int .i64 ((i : Nat) : Int)) rfl rfl | exact meetI rfl rfl (by omega)) (meet_cons (by first | exact meetV (.int .i64 ((f : Nat) : Int)) rfl rfl | exact meetI rfl rfl (by omega)) meet_nil))))) (fun _ _ _ => rfl) ?_
        intro M0 a0 c0 hO0 hK0 hT0 aC w hh
        have hM0 := hK0.up hT0 (Nat.le_refl _) hM
        letI := (sg M0 t b a c f i b0 a0 c0)
        refine walk_opsE e15 e16 e17 (F := F2) (T := C2) (fuel := 1000) (d := 10) mixed (aFc (FactOk.bi rfl rfl rfl rfl rfl rfl (intI (by omega) (by omega) (by omega))) aFn) aCn ?_ hh
        exact ostop_backM (s1 := (sg M0 t b a c f i b0 a0 c0)) (sg := (fun (⟨M, b, a, c, f, i⟩ : Mem × List Bs × Option Addr × Nat × Nat × Nat) => sg M t b a c f i [] none 0)) (I := fun (⟨M, b, a, c, f, i⟩ : Mem × List Bs × Option Addr × Nat × Nat × Nat) => OArr W.heap.size M elT 1 encT (.slice a b.length c) b ∧ (∀ i o, heapOf W i = some o → M i = some o) ∧ wordsTo 32 t b f i) (μ := fun (⟨M, b, a, c, f, i⟩ : Mem × List Bs × Option Addr × Nat × Nat × Nat) => t.length + 1 - i) (x := ⟨M, b, a, c, f, i⟩) ⟨M0, b0, a0, c0, i + 1, i + 1⟩ e18 (meet_cons (by exact meetV (strV t) rfl rfl) (meet_cons (by first | exact meetV (.slice a0 b0.length c0) rfl rfl | exact meetI rfl rfl (by omega)) (meet_cons (by first | exact meetV (.int .i64 ((i + 1 : Nat) : Int)) rfl rfl | exact meetI rfl rfl (by omega)) (meet_cons (by first | exact meetV (.int .i64 ((i + 1 : Nat) : Int)) rfl rfl | exact meetI rfl rfl (by omega)) meet_nil)))) (fun _ _ h => h) (by exact ⟨by assumption, by assumption, by first | exact hI.2.2.hit (by omega) (by rw [b32]; assumption) hb0 | exact hI.2.2.fin (by omega) hb0 | exact hI.2.2.miss (by omega) (by rw [b32]; assumption)⟩) (by (try dsimp only); omega)
      · refine walk_to (F := F4) (T := C4) (fuel := 1000) (d := 10) mixed (aFc (FactOk.strLen rfl rfl underStr rfl rfl) (aFc (FactOk.bi rfl rfl rfl rfl rfl rfl (boolT (by omega))) (aFc (FactOk.bi rfl rfl rfl rfl rfl rfl (boolF (by omega))) (aFc (FactOk.strIx (l := t) (j := i) (show i < t.length by omega) rfl rfl rfl underStr rfl rfl rfl) (aFc (FactOk.bi rfl rfl rfl rfl rfl rfl (boolF (by omega))) (aFc (FactOk.bi rfl rfl rfl rfl rfl rfl (intI (by omega) (by omega) (by omega))) aFn)))))) aCn ?_ hh
        exact ostop_backM (s1 := (sg M t b a c f i [] none 0)) (sg := (fun (⟨M, b, a, c, f, i⟩ : Mem × List Bs × Option Addr × Nat × Nat × Nat) => sg M t b a c f i [] none 0)) (I := fun (⟨M, b, a, c, f, i⟩ : Mem × List Bs × Option Addr × Nat × Nat × Nat) => OArr W.heap.size M elT 1 encT (.slice a b.length c) b ∧ (∀ i o, heapOf W i = some o → M i = some o) ∧ wordsTo 32 t b f i) (μ := fun (⟨M, b, a, c, f, i⟩ : Mem × List Bs × Option Addr × Nat × Nat × Nat) => t.length + 1 - i) (x := ⟨M, b, a, c, f, i⟩) ⟨M, b, a, c, f, i + 1⟩ e19 (meet_cons (by exact meetV (strV t) rfl rfl) (meet_cons (by first | exact meetV (.slice a b.length c) rfl rfl | exact meetI rfl rfl (by omega)) (meet_cons (by first | exact meetV (.int .i64 ((i + 1 : Nat) : Int)) rfl rfl | exact meetI rfl rfl (by omega)) (meet_cons (by first | exact meetV (.int .i64 ((f : Nat) : Int)) rfl rfl | exact meetI rfl rfl (by omega)) meet_nil)))) (fun _ _ h => h) (by exact ⟨by assumption, by assumption, by first | exact hI.2.2.hit (by omega) (by rw [b32]; assumption) hb0 | exact hI.2.2.fin (by omega) hb0 | exact hI.2.2.miss (by omega) (by rw [b32]; assumption)⟩) (by (try dsimp only); omega)
  · refine walk_to (F := F5) (T := C5) (fuel := 1000) (d := 10) mixed (aFc (FactOk.strLen rfl rfl underStr rfl rfl) (aFc (FactOk.bi rfl rfl rfl rfl rfl rfl (boolF (by omega))) aFn)) aCn ?_ hh
    refine walk_leave (F := F0) (T := C0) (fuel := 1000) (d := 10) mixed aFn aCn ?_
    exact ostop_end e20 fun w2 hLow hIn => ⟨(by have hd := hI.2.2.done (by omega); exact ⟨a, c, by rw [← hd]; rfl, by rw [← hd]; exact hO.mono (Nat.le_refl _) fun i _ o ho => hIn i o ho⟩), hLow⟩
end RWordG
end AE
end Go.Proofs.YtblhndlmgibljaaDoor

/- The walk of the reference's number. -/
namespace Go.Proofs.YtblhndlmgibljaaDoor
open Go Go.Proofs Go.RowKit
set_option maxRecDepth 100000
namespace AE
namespace RNumG
noncomputable def body : Code := (Tryd.f59.body).getD .skip
def N : Nat := 48
noncomputable abbrev at' (N : Nat) (F : List (FOp × Value)) (C : List (FuncId × List Value × Value)) (c : Code) (s : ASt) : Option Stop := evalTo Tryd.prog F C N 1000 10 c s
noncomputable abbrev leave' (N : Nat) (F : List (FOp × Value)) (C : List (FuncId × List Value × Value)) (ks : List KI) (o : Option Stop) : Option Stop := evalLeave Tryd.prog F C N 1000 10 ks o
def s0 : ASt := { sl := slots [(0, symv 0)], ms := [], A := start }
def F0 : List (FOp × Value) := [(.len #[9] 3 (symv 0), symv 1),
    (.bin .lss 3 (symv 1) (.int .i64 1), .bool true)]
def C0 : List (FuncId × List Value × Value) := []
theorem e0 : endVal Tryd.prog Tryd.f59 (at' 48 F0 C0 body s0) = some (.int .i64 (-1)) := by kernel_rfl
def F1 : List (FOp × Value) := [(.len #[9] 3 (symv 0), symv 1),
    (.bin .lss 3 (symv 1) (.int .i64 1), .bool false),
    (.bin .gtr 3 (symv 1) (.int .i64 3), .bool true)]
def C1 : List (FuncId × List Value × Value) := []
theorem e1 : endVal Tryd.prog Tryd.f59 (at' 48 F1 C1 body s0) = some (.int .i64 (-1)) := by kernel_rfl
def F2 : List (FOp × Value) := [(.len #[9] 3 (symv 0), symv 1),
    (.bin .lss 3 (symv 1) (.int .i64 1), .bool false),
    (.bin .gtr 3 (symv 1) (.int .i64 3), .bool false),
    (.bin .gtr 3 (symv 1) (.int .i64 1), .bool true),
    (.ix 9 (symv 0) (.int .i64 0), symv 2),
    (.bin .eql 5 (symv 2) (.int .u8 48), .bool true)]
def C2 : List (FuncId × List Value × Value) := []
theorem e2 : endVal Tryd.prog Tryd.f59 (at' 48 F2 C2 body s0) = some (.int .i64 (-1)) := by kernel_rfl
def F3 : List (FOp × Value) := [(.len #[9] 3 (symv 0), symv 1),
    (.bin .lss 3 (symv 1) (.int .i64 1), .bool false),
    (.bin .gtr 3 (symv 1) (.int .i64 3), .bool false),
    (.bin .gtr 3 (symv 1) (.int .i64 1), .bool true),
    (.ix 9 (symv 0) (.int .i64 0), symv 2),
    (.bin .eql 5 (symv 2) (.int .u8 48), .bool false)]
def C3 : List (FuncId × List Value × Value) := []
noncomputable def bks0 : List Bk := []
def head0 : Sl := slots [(4, symv 4), (3, symv 3), (0, symv 0)]
noncomputable abbrev at0 := at' 48 F3 C3 body s0
theorem e3 : headObs head0 bks0 at0 = some [(symv 0, symv 0), (.int .i64 0, symv 3), (.int .i64 0, symv 4)] := by kernel_rfl
noncomputable def lc0 : Code := loopAt body [1, 1, 1, 0, 1, 4]
noncomputable def lk0 : List KI := ksAt body [1, 1, 1, 0, 1, 4] []
theorem e4 : stopCode at0 = lc0 := by kernel_rfl
theorem e5 : stopKs at0 = lk0 := by kernel_rfl
def F4 : List (FOp × Value) := [(.len #[9] 3 (symv 0), symv 1),
    (.bin .lss 3 (symv 4) (symv 1), .bool true),
    (.ix 9 (symv 0) (symv 4), symv 5),
    (.bin .lss 5 (symv 5) (.int .u8 48), .bool true)]
def C4 : List (FuncId × List Value × Value) := []
def F5 : List (FOp × Value) := []
def C5 : List (FuncId × List Value × Value) := []
theorem e6 : endVal Tryd.prog Tryd.f59 (leave' 48 F5 C5 lk0 (at' 48 F4 C4 lc0 (headSt head0 bks0))) = some (.int .i64 (-1)) := by kernel_rfl
def F6 : List (FOp × Value) := [(.len #[9] 3 (symv 0), symv 1),
    (.bin .lss 3 (symv 4) (symv 1), .bool true),
    (.ix 9 (symv 0) (symv 4), symv 5),
    (.bin .lss 5 (symv 5) (.int .u8 48), .bool false),
    (.bin .gtr 5 (symv 5) (.int .u8 57), .bool true)]
def C6 : List (FuncId × List Value × Value) := []
theorem e7 : endVal Tryd.prog Tryd.f59 (leave' 48 F5 C5 lk0 (at' 48 F6 C6 lc0 (headSt head0 bks0))) = some (.int .i64 (-1)) := by kernel_rfl
def F7 : List (FOp × Value) := [(.len #[9] 3 (symv 0), symv 1),
    (.bin .lss 3 (symv 4) (symv 1), .bool true),
    (.ix 9 (symv 0) (symv 4), symv 5),
    (.bin .lss 5 (symv 5) (.int .u8 48), .bool false),
    (.bin .gtr 5 (symv 5) (.int .u8 57), .bool false),
    (.bin .mul 3 (.int .i64 10) (symv 3), symv 6),
    (.conv 5 3 (symv 5), symv 7),
    (.bin .add 3 (symv 6) (symv 7), symv 8),
    (.bin .sub 3 (symv 8) (.int .i64 48), symv 9),
    (.bin .add 3 (symv 4) (.int .i64 1), symv 10)]
def C7 : List (FuncId × List Value × Value) := []
theorem e8 : backObs head0 bks0 (at' 48 F7 C7 lc0 (headSt head0 bks0)) = some [(symv 0, symv 0), (symv 9, symv 3), (symv 10, symv 4)] := by kernel_rfl
def F8 : List (FOp × Value) := [(.len #[9] 3 (symv 0), symv 1),
    (.bin .lss 3 (symv 4) (symv 1), .bool false)]
def C8 : List (FuncId × List Value × Value) := []
theorem e9 : endVal Tryd.prog Tryd.f59 (leave' 48 F5 C5 lk0 (at' 48 F8 C8 lc0 (headSt head0 bks0))) = some (symv 3) := by kernel_rfl
def F9 : List (FOp × Value) := [(.len #[9] 3 (symv 0), symv 1),
    (.bin .lss 3 (symv 1) (.int .i64 1), .bool false),
    (.bin .gtr 3 (symv 1) (.int .i64 3), .bool false),
    (.bin .gtr 3 (symv 1) (.int .i64 1), .bool false)]
def C9 : List (FuncId × List Value × Value) := []
noncomputable def bks1 : List Bk := []
def head1 : Sl := slots [(4, symv 4), (3, symv 3), (0, symv 0)]
noncomputable abbrev at1 := at' 48 F9 C9 body s0
theorem e10 : headObs head1 bks1 at1 = some [(symv 0, symv 0), (.int .i64 0, symv 3), (.int .i64 0, symv 4)] := by kernel_rfl
noncomputable def lc1 : Code := loopAt body [1, 1, 1, 0, 1, 4]
noncomputable def lk1 : List KI := ksAt body [1, 1, 1, 0, 1, 4] []
theorem e11 : stopCode at1 = lc1 := by kernel_rfl
theorem e12 : stopKs at1 = lk1 := by kernel_rfl
theorem e13 : endVal Tryd.prog Tryd.f59 (leave' 48 F5 C5 lk1 (at' 48 F4 C4 lc1 (headSt head1 bks1))) = some (.int .i64 (-1)) := by kernel_rfl
theorem e14 : endVal Tryd.prog Tryd.f59 (leave' 48 F5 C5 lk1 (at' 48 F6 C6 lc1 (headSt head1 bks1))) = some (.int .i64 (-1)) := by kernel_rfl
theorem e15 : backObs head1 bks1 (at' 48 F7 C7 lc1 (headSt head1 bks1)) = some [(symv 0, symv 0), (symv 9, symv 3), (symv 10, symv 4)] := by kernel_rfl
theorem e16 : endVal Tryd.prog Tryd.f59 (leave' 48 F5 C5 lk1 (at' 48 F8 C8 lc1 (headSt head1 bks1))) = some (symv 3) := by kernel_rfl
@[reducible] noncomputable def vL (s : Bs) (n : Int) (i : Nat) (n : Int) (i : Nat) : List Value := [strV s, .int .i64 ((s.length : Nat) : Int), .int .u8 (((s.getD 0 0).toNat : Nat) : Int), .int .i64 n, .int .i64 ((i : Nat) : Int), .int .u8 (((s.getD i 0).toNat : Nat) : Int), .int .i64 (10 * n), .int .i64 (((s.getD i 0).toNat : Nat) : Int), .int .i64 ((10 * n) + (((s.getD i 0).toNat : Nat) : Int)), .int .i64 (((10 * n) + (((s.getD i 0).toNat : Nat) : Int)) - 48), .int .i64 ((i + 1 : Nat) : Int)]
@[reducible] noncomputable def sg (M : Mem) (s : Bs) (n : Int) (i : Nat) (n : Int) (i : Nat) : Sig := sgL M (vL s n i n i)
set_option maxHeartbeats 4000000 in
theorem any (W : World) (s : Bs)  : Calls Tryd.prog 59 #[strV s] W fun e w' => e = .returned (.int .i64 (rnumF s)) ∧ Low W.heap.size W w' := by
  refine @walk_enter (sg (heapOf W) s 0 0 0 0) Tryd.prog 59 Tryd.f59 body [symv 0] (slots [(0, symv 0)]) N W _ Tryd.func59 (by kernel_rfl) (by kernel_rfl) (by kernel_rfl) (by kernel_rfl) (immW_sgL W _) fun a hh => ?_
  letI := (sg (heapOf W) s 0 0 0 0)
  by_cases h0 : ((s.length : Nat) : Int) < 1
  · refine walk_to (F := F0) (T := C0) (fuel := 1000) (d := 10) mixed (aFc (FactOk.strLen rfl rfl underStr rfl rfl) (aFc (FactOk.bi rfl rfl rfl rfl rfl rfl (boolT (by omega))) aFn)) aCn ?_ hh
    exact ostop_end e0 fun w2 hLow hIn => ⟨(by refine congrArg (fun z => Ending.returned (.int .i64 z)) ?_; first | (rw [rnum_no fun h => by have h1 := h.2.2.2; first | omega | exact h1 (by omega) (UInt8.toNat_inj.1 (by show _ = 48; omega))]) | (rw [rnum_no fun h => by have h1 := h.2.2.1 i (by omega); unfold dg dv at h1; omega]) | (rw [rnum_yes (n := n) (by rw [show s.length = i by omega]; exact hI.1) (by omega) (fun h => by first | omega | assumption)])), hLow⟩
  · by_cases h1 : 3 < ((s.length : Nat) : Int)
    · refine walk_to (F := F1) (T := C1) (fuel := 1000) (d := 10) mixed (aFc (FactOk.strLen rfl rfl underStr rfl rfl) (aFc (FactOk.bi rfl rfl rfl rfl rfl rfl (boolF (by omega))) (aFc (FactOk.bi rfl rfl rfl rfl rfl rfl (boolT (by omega))) aFn))) aCn ?_ hh
      exact ostop_end e1 fun w2 hLow hIn => ⟨(by refine congrArg (fun z => Ending.returned (.int .i64 z)) ?_; first | (rw [rnum_no fun h => by have h1 := h.2.2.2; first | omega | exact h1 (by omega) (UInt8.toNat_inj.1 (by show _ = 48; omega))]) | (rw [rnum_no fun h => by have h1 := h.2.2.1 i (by omega); unfold dg dv at h1; omega]) | (rw [rnum_yes (n := n) (by rw [show s.length = i by omega]; exact hI.1) (by omega) (fun h => by first | omega | assumption)])), hLow⟩
    · by_cases h2 : 1 < ((s.length : Nat) : Int)
      · by_cases h3 : (((s.getD 0 0).toNat : Nat) : Int) = 48
        · refine walk_to (F := F2) (T := C2) (fuel := 1000) (d := 10) mixed (aFc (FactOk.strLen rfl rfl underStr rfl rfl) (aFc (FactOk.bi rfl rfl rfl rfl rfl rfl (boolF (by omega))) (aFc (FactOk.bi rfl rfl rfl rfl rfl rfl (boolF (by omega))) (aFc (FactOk.bi rfl rfl rfl rfl rfl rfl (boolT (by omega))) (aFc (FactOk.strIx (l := s) (j := 0) (show 0 < s.length by omega) rfl rfl rfl underStr rfl rfl rfl) (aFc (FactOk.bi rfl rfl rfl rfl rfl rfl (boolT (by omega))) aFn)))))) aCn ?_ hh
          exact ostop_end e2 fun w2 hLow hIn => ⟨(by refine congrArg (fun z => Ending.returned (.int .i64 z)) ?_; first | (rw [rnum_no fun h => by have h1 := h.2.2.2; first | omega | exact h1 (by omega) (UInt8.toNat_inj.1 (by show _ = 48; omega))]) | (rw [rnum_no fun h => by have h1 := h.2.2.1 i (by omega); unfold dg dv at h1; omega]) | (rw [rnum_yes (n := n) (by rw [show s.length = i by omega]; exact hI.1) (by omega) (fun h => by first | omega | assumption)])), hLow⟩
        · refine walk_to (F := F3) (T := C3) (fuel := 1000) (d := 10) mixed (aFc (FactOk.strLen rfl rfl underStr rfl rfl) (aFc (FactOk.bi rfl rfl rfl rfl rfl rfl (boolF (by omega))) (aFc (FactOk.bi rfl rfl rfl rfl rfl rfl (boolF (by omega))) (aFc (FactOk.bi rfl rfl rfl rfl rfl rfl (boolT (by omega))) (aFc (FactOk.strIx (l := s) (j := 0) (show 0 < s.length by omega) rfl rfl rfl underStr rfl rfl rfl) (aFc (FactOk.bi rfl rfl rfl rfl rfl rfl (boolF (by omega))) aFn)))))) aCn ?_ hh
          refine ostop_loop (sg := (fun (⟨n, i⟩ : Int × Nat) => sg (heapOf W) s n i n i)) (fun (⟨n, i⟩ : Int × Nat) => numTo s i n ∧ i ≤ s.length) (fun (⟨n, i⟩ : Int × Nat) => s.length - i) ⟨0, 0⟩ e3 (meet_cons (by exact meetV (strV s) rfl rfl) (meet_cons (by first | rfl | exact meetInt (by omega)) (meet_cons (by first | rfl | exact meetInt (by omega)) meet_nil))) (fun _ _ h => h) (by exact ⟨.inl ⟨rfl, rfl⟩, Nat.zero_le _⟩) ?_
          intro ⟨n, i⟩ hI aC w hh
          letI := (sg (heapOf W) s n i n i)
          refine walk_loopE e4 e5 ?_
          have hnb := numTo_bound hI.1
          by_cases p0 : ((i : Nat) : Int) < ((s.length : Nat) : Int)
          · by_cases p1 : (((s.getD i 0).toNat : Nat) : Int) < 48
            · refine walk_to (F := F4) (T := C4) (fuel := 1000) (d := 10) mixed (aFc (FactOk.strLen rfl rfl underStr rfl rfl) (aFc (FactOk.bi rfl rfl rfl rfl rfl rfl (boolT (by omega))) (aFc (FactOk.strIx (l := s) (j := i) (show i < s.length by omega) rfl rfl rfl underStr rfl rfl rfl) (aFc (FactOk.bi rfl rfl rfl rfl rfl rfl (boolT (by omega))) aFn)))) aCn ?_ hh
              refine walk_leave (F := F5) (T := C5) (fuel := 1000) (d := 10) mixed aFn aCn ?_
              exact ostop_end e6 fun w2 hLow hIn => ⟨(by refine congrArg (fun z => Ending.returned (.int .i64 z)) ?_; first | (rw [rnum_no fun h => by have h1 := h.2.2.2; first | omega | exact h1 (by omega) (UInt8.toNat_inj.1 (by show _ = 48; omega))]) | (rw [rnum_no fun h => by have h1 := h.2.2.1 i (by omega); unfold dg dv at h1; omega]) | (rw [rnum_yes (n := n) (by rw [show s.length = i by omega]; exact hI.1) (by omega) (fun h => by first | omega | assumption)])), hLow⟩
            · by_cases p2 : 57 < (((s.getD i 0).toNat : Nat) : Int)
              · refine walk_to (F := F6) (T := C6) (fuel := 1000) (d := 10) mixed (aFc (FactOk.strLen rfl rfl underStr rfl rfl) (aFc (FactOk.bi rfl rfl rfl rfl rfl rfl (boolT (by omega))) (aFc (FactOk.strIx (l := s) (j := i) (show i < s.length by omega) rfl rfl rfl underStr rfl rfl rfl) (aFc (FactOk.bi rfl rfl rfl rfl rfl rfl (boolF (by omega))) (aFc (FactOk.bi rfl rfl rfl rfl rfl rfl (boolT (by omega))) aFn))))) aCn ?_ hh
                refine walk_leave (F := F5) (T := C5) (fuel := 1000) (d := 10) mixed aFn aCn ?_
                exact ostop_end e7 fun w2 hLow hIn => ⟨(by refine congrArg (fun z => Ending.returned (.int .i64 z)) ?_; first | (rw [rnum_no fun h => by have h1 := h.2.2.2; first | omega | exact h1 (by omega) (UInt8.toNat_inj.1 (by show _ = 48; omega))]) | (rw [rnum_no fun h => by have h1 := h.2.2.1 i (by omega); unfold dg dv at h1; omega]) | (rw [rnum_yes (n := n) (by rw [show s.length = i by omega]; exact hI.1) (by omega) (fun h => by first | omega | assumption)])), hLow⟩
              · refine walk_to (F := F7) (T := C7) (fuel := 1000) (d := 10) mixed (aFc (FactOk.strLen rfl rfl underStr rfl rfl) (aFc (FactOk.bi rfl rfl rfl rfl rfl rfl (boolT (by omega))) (aFc (FactOk.strIx (l := s) (j := i) (show i < s.length by omega) rfl rfl rfl underStr rfl rfl rfl) (aFc (FactOk.bi rfl rfl rfl rfl rfl rfl (boolF (by omega))) (aFc (FactOk.bi rfl rfl rfl rfl rfl rfl (boolF (by omega))) (aFc (FactOk.bi rfl rfl rfl rfl rfl rfl (intI (by omega) (by omega) (by omega))) (aFc (convB rfl rfl rfl rfl) (aFc (FactOk.bi rfl rfl rfl rfl rfl rfl (intI (by omega) (by omega) (by omega))) (aFc (FactOk.bi rfl rfl rfl rfl rfl rfl (intI (by omega) (by omega) (by omega))) (aFc (FactOk.bi rfl rfl rfl rfl rfl rfl (intI (by omega) (by omega) (by omega))) aFn)))))))))) aCn ?_ hh
                exact ostop_backM (s1 := (sg (heapOf W) s n i n i)) (sg := (fun (⟨n, i⟩ : Int × Nat) => sg (heapOf W) s n i n i)) (I := fun (⟨n, i⟩ : Int × Nat) => numTo s i n ∧ i ≤ s.length) (μ := fun (⟨n, i⟩ : Int × Nat) => s.length - i) (x := ⟨n, i⟩) ⟨(((10 * n) + (((s.getD i 0).toNat : Nat) : Int)) - 48), i + 1⟩ e8 (meet_cons (by exact meetV (strV s) rfl rfl) (meet_cons (by first | exact meetV (.int .i64 (((10 * n) + (((s.getD i 0).toNat : Nat) : Int)) - 48)) rfl rfl | exact meetI rfl rfl (by omega)) (meet_cons (by first | exact meetV (.int .i64 ((i + 1 : Nat) : Int)) rfl rfl | exact meetI rfl rfl (by omega)) meet_nil))) (fun _ _ h => h) (by exact ⟨numTo_succ hI.1 (by omega) (by omega) (by omega), by omega⟩) (by (try dsimp only); omega)
          · refine walk_to (F := F8) (T := C8) (fuel := 1000) (d := 10) mixed (aFc (FactOk.strLen rfl rfl underStr rfl rfl) (aFc (FactOk.bi rfl rfl rfl rfl rfl rfl (boolF (by omega))) aFn)) aCn ?_ hh
            refine walk_leave (F := F5) (T := C5) (fuel := 1000) (d := 10) mixed aFn aCn ?_
            exact ostop_end e9 fun w2 hLow hIn => ⟨(by refine congrArg (fun z => Ending.returned (.int .i64 z)) ?_; first | (rw [rnum_no fun h => by have h1 := h.2.2.2; first | omega | exact h1 (by omega) (UInt8.toNat_inj.1 (by show _ = 48; omega))]) | (rw [rnum_no fun h => by have h1 := h.2.2.1 i (by omega); unfold dg dv at h1; omega]) | (rw [rnum_yes (n := n) (by rw [show s.length = i by omega]; exact hI.1) (by omega) (fun h => by first | omega | assumption)])), hLow⟩
      · refine walk_to (F := F9) (T := C9) (fuel := 1000) (d := 10) mixed (aFc (FactOk.strLen rfl rfl underStr rfl rfl) (aFc (FactOk.bi rfl rfl rfl rfl rfl rfl (boolF (by omega))) (aFc (FactOk.bi rfl rfl rfl rfl rfl rfl (boolF (by omega))) (aFc (FactOk.bi rfl rfl rfl rfl rfl rfl (boolF (by omega))) aFn)))) aCn ?_ hh
        refine ostop_loop (sg := (fun (⟨n, i⟩ : Int × Nat) => sg (heapOf W) s n i n i)) (fun (⟨n, i⟩ : Int × Nat) => numTo s i n ∧ i ≤ s.length) (fun (⟨n, i⟩ : Int × Nat) => s.length - i) ⟨0, 0⟩ e10 (meet_cons (by exact meetV (strV s) rfl rfl) (meet_cons (by first | rfl | exact meetInt (by omega)) (meet_cons (by first | rfl | exact meetInt (by omega)) meet_nil))) (fun _ _ h => h) (by exact ⟨.inl ⟨rfl, rfl⟩, Nat.zero_le _⟩) ?_
        intro ⟨n, i⟩ hI aC w hh
        letI := (sg (heapOf W) s n i n i)
        refine walk_loopE e11 e12 ?_
        have hnb := numTo_bound hI.1
        by_cases p0 : ((i : Nat) : Int) < ((s.length : Nat) : Int)
        · by_cases p1 : (((s.getD i 0).toNat : Nat) : Int) < 48
          · refine walk_to (F := F4) (T := C4) (fuel := 1000) (d := 10) mixed (aFc (FactOk.strLen rfl rfl underStr rfl rfl) (aFc (FactOk.bi rfl rfl rfl rfl rfl rfl (boolT (by omega))) (aFc (FactOk.strIx (l := s) (j := i) (show i < s.length by omega) rfl rfl rfl underStr rfl rfl rfl) (aFc (FactOk.bi rfl rfl rfl rfl rfl rfl (boolT (by omega))) aFn)))) aCn ?_ hh
            refine walk_leave (F := F5) (T := C5) (fuel := 1000) (d := 10) mixed aFn aCn ?_
            exact ostop_end e13 fun w2 hLow hIn => ⟨(by refine congrArg (fun z => Ending.returned (.int .i64 z)) ?_; first | (rw [rnum_no fun h => by have h1 := h.2.2.2; first | omega | exact h1 (by omega) (UInt8.toNat_inj.1 (by show _ = 48; omega))]) | (rw [rnum_no fun h => by have h1 := h.2.2.1 i (by omega); unfold dg dv at h1; omega]) | (rw [rnum_yes (n := n) (by rw [show s.length = i by omega]; exact hI.1) (by omega) (fun h => by first | omega | assumption)])), hLow⟩
          · by_cases p2 : 57 < (((s.getD i 0).toNat : Nat) : Int)
            · refine walk_to (F := F6) (T := C6) (fuel := 1000) (d := 10) mixed (aFc (FactOk.strLen rfl rfl underStr rfl rfl) (aFc (FactOk.bi rfl rfl rfl rfl rfl rfl (boolT (by omega))) (aFc (FactOk.strIx (l := s) (j := i) (show i < s.length by omega) rfl rfl rfl underStr rfl rfl rfl) (aFc (FactOk.bi rfl rfl rfl rfl rfl rfl (boolF (by omega))) (aFc (FactOk.bi rfl rfl rfl rfl rfl rfl (boolT (by omega))) aFn))))) aCn ?_ hh
              refine walk_leave (F := F5) (T := C5) (fuel := 1000) (d := 10) mixed aFn aCn ?_
              exact ostop_end e14 fun w2 hLow hIn => ⟨(by refine congrArg (fun z => Ending.returned (.int .i64 z)) ?_; first | (rw [rnum_no fun h => by have h1 := h.2.2.2; first | omega | exact h1 (by omega) (UInt8.toNat_inj.1 (by show _ = 48; omega))]) | (rw [rnum_no fun h => by have h1 := h.2.2.1 i (by omega); unfold dg dv at h1; omega]) | (rw [rnum_yes (n := n) (by rw [show s.length = i by omega]; exact hI.1) (by omega) (fun h => by first | omega | assumption)])), hLow⟩
            · refine walk_to (F := F7) (T := C7) (fuel := 1000) (d := 10) mixed (aFc (FactOk.strLen rfl rfl underStr rfl rfl) (aFc (FactOk.bi rfl rfl rfl rfl rfl rfl (boolT (by omega))) (aFc (FactOk.strIx (l := s) (j := i) (show i < s.length by omega) rfl rfl rfl underStr rfl rfl rfl) (aFc (FactOk.bi rfl rfl rfl rfl rfl rfl (boolF (by omega))) (aFc (FactOk.bi rfl rfl rfl rfl rfl rfl (boolF (by omega))) (aFc (FactOk.bi rfl rfl rfl rfl rfl rfl (intI (by omega) (by omega) (by omega))) (aFc (convB rfl rfl rfl rfl) (aFc (FactOk.bi rfl rfl rfl rfl rfl rfl (intI (by omega) (by omega) (by omega))) (aFc (FactOk.bi rfl rfl rfl rfl rfl rfl (intI (by omega) (by omega) (by omega))) (aFc (FactOk.bi rfl rfl rfl rfl rfl rfl (intI (by omega) (by omega) (by omega))) aFn)))))))))) aCn ?_ hh
              exact ostop_backM (s1 := (sg (heapOf W) s n i n i)) (sg := (fun (⟨n, i⟩ : Int × Nat) => sg (heapOf W) s n i n i)) (I := fun (⟨n, i⟩ : Int × Nat) => numTo s i n ∧ i ≤ s.length) (μ := fun (⟨n, i⟩ : Int × Nat) => s.length - i) (x := ⟨n, i⟩) ⟨(((10 * n) + (((s.getD i 0).toNat : Nat) : Int)) - 48), i + 1⟩ e15 (meet_cons (by exact meetV (strV s) rfl rfl) (meet_cons (by first | exact meetV (.int .i64 (((10 * n) + (((s.getD i 0).toNat : Nat) : Int)) - 48)) rfl rfl | exact meetI rfl rfl (by omega)) (meet_cons (by first | exact meetV (.int .i64 ((i + 1 : Nat) : Int)) rfl rfl | exact meetI rfl rfl (by omega)) meet_nil))) (fun _ _ h => h) (by exact ⟨numTo_succ hI.1 (by omega) (by omega) (by omega), by omega⟩) (by (try dsimp only); omega)
        · refine walk_to (F := F8) (T := C8) (fuel := 1000) (d := 10) mixed (aFc (FactOk.strLen rfl rfl underStr rfl rfl) (aFc (FactOk.bi rfl rfl rfl rfl rfl rfl (boolF (by omega))) aFn)) aCn ?_ hh
          refine walk_leave (F := F5) (T := C5) (fuel := 1000) (d := 10) mixed aFn aCn ?_
          exact ostop_end e16 fun w2 hLow hIn => ⟨(by refine congrArg (fun z => Ending.returned (.int .i64 z)) ?_; first | (rw [rnum_no fun h => by have h1 := h.2.2.2; first | omega | exact h1 (by omega) (UInt8.toNat_inj.1 (by show _ = 48; omega))]) | (rw [rnum_no fun h => by have h1 := h.2.2.1 i (by omega); unfold dg dv at h1; omega]) | (rw [rnum_yes (n := n) (by rw [show s.length = i by omega]; exact hI.1) (by omega) (fun h => by first | omega | assumption)])), hLow⟩
end RNumG
end AE
end Go.Proofs.YtblhndlmgibljaaDoor

/- What the reference reads of a line; its words and numbers by contract. -/
namespace Go.Proofs.YtblhndlmgibljaaDoor
open Go Go.Proofs Go.RowKit
set_option maxRecDepth 100000
namespace AE
theorem con_rwords {t : Bs} {w : World} (hs : t.length ≤ 100000) :
    Calls Tryd.prog 58 #[strV t] w fun e w' => (∃ a c, e = .returned (.slice a (splL 32 t).length c) ∧ OArr w.heap.size (heapOf w') elT 1 encT (.slice a (splL 32 t).length c) (splL 32 t)) ∧ Low w.heap.size w w' := RWordG.any w t hs
theorem callRNum [Sig] {x r : Value} {s : Bs} (hp : plainSL [x] = true) (hr : plainS r = true) (ev : interpL [x] = [strV s]) (er : interp r = .int .i64 (rnumF s)) : CallFactOk Tryd.prog (59, [x], r) :=
  callAny (a := #[strV s]) hp hr ev er fun w _ => RNumG.any w s
def wz : Mt := ([], false, false, false, 0, 0, 0, 0)
def rkind (w : Bs) : Option (Bool × Bool × Bool) :=
  if w = [103, 97, 115] then some (false, false, false) else if w = [115, 111, 108, 105, 100] then some (true, false, false) else if w = [102, 97, 108, 108, 105, 110, 103] then some (true, false, true) else if w = [108, 105, 113, 117, 105, 100] then some (false, true, false) else none
def rmatW (w : List Bs) : Mt × Bool :=
  if ¬ w.length = 4 ∧ ¬ w.length = 8 then (wz, false)
  else if w.getD 0 default = [] then (wz, false)
  else if ¬ w.getD 2 default = [102, 97, 100, 101] then (wz, false)
  else match rkind (w.getD 1 default) with
    | none => (wz, false)
    | some (so, li, fa) =>
      if rnumF (w.getD 3 default) < 0 then (wz, false)
      else if w.length = 4 then ((w.getD 0 default, so, li, fa, rnumF (w.getD 3 default), 0, 0, 0), true)
      else if ¬ w.getD 4 default = [101, 109, 105, 116] then (wz, false)
      else if rnumF (w.getD 5 default) < 0 then (wz, false)
      else if rnumF (w.getD 6 default) < 0 then (wz, false)
      else if rnumF (w.getD 7 default) < 0 then (wz, false)
      else ((w.getD 0 default, so, li, fa, rnumF (w.getD 3 default), rnumF (w.getD 5 default), rnumF (w.getD 6 default), rnumF (w.getD 7 default)), !decide (((rnumF (w.getD 5 default), rnumF (w.getD 6 default), rnumF (w.getD 7 default)) : E3) = (0, 0, 0)))
def rmatF (t : Bs) : Mt × Bool := rmatW (splL 32 t)
end AE
end Go.Proofs.YtblhndlmgibljaaDoor

/- The walk of the reference's material. -/
namespace Go.Proofs.YtblhndlmgibljaaDoor
open Go Go.Proofs Go.RowKit
set_option maxRecDepth 100000
namespace AE
namespace RMatG
noncomputable def body : Code := (Tryd.f44.body).getD .skip
def N : Nat := 101
noncomputable abbrev at' (N : Nat) (F : List (FOp × Value)) (C : List (FuncId × List Value × Value)) (c : Code) (s : ASt) : Option Stop := evalTo Tryd.prog F C N 1000 10 c s
noncomputable abbrev unr' (N : Nat) (F : List (FOp × Value)) (C : List (FuncId × List Value × Value)) (m : Nat) (o : Option Stop) : Option Stop := evalUnroll Tryd.prog F C N 1000 10 m o
noncomputable abbrev ops' (N : Nat) (F : List (FOp × Value)) (C : List (FuncId × List Value × Value)) (r : List Oper) (ops : Array Oper) (ks : List KI) (s : ASt) : Option Stop := evalOps Tryd.prog F C N 1000 10 r ops ks s
def s0 : ASt := { sl := slots [(0, symv 0)], ms := [], A := start }
def F0 : List (FOp × Value) := []
def C0 : List (FuncId × List Value × Value) := []
theorem e0 : callAt Tryd.prog (at' 101 F0 C0 body s0) = some (58, [symv 0]) := by kernel_rfl
noncomputable abbrev so0 := at' 101 F0 C0 body s0
noncomputable def bk0 : List Bk := [⟨.cells [strV [], .bool false, .bool false, .bool false, .int .i64 0, .int .i64 0, .int .i64 0, .int .i64 0], 35, 0⟩]
def hd0 : Sl := slots [(3, .bool false), (2, .pointer (some ⟨0, 0, none⟩))]
def hp0 : Sl := match aput 101 hd0 (some 8) (symv 1) with | some s => s | none => .nil
theorem e1 : trAll (stopSt so0) hd0 bk0 = some [] := by kernel_rfl
theorem e2 : aput 101 hd0 (stopDst so0) (symv 1) = some hp0 := by kernel_rfl
noncomputable def po0 : Array Oper := opsAt body [1, 0]
noncomputable def pk0 : List KI := ksAt body [1, 0] []
noncomputable def pr0 : List Oper := po0.toList.drop 2
theorem e3 : stopRest so0 = pr0 := by kernel_rfl
theorem e4 : stopOps so0 = po0 := by kernel_rfl
theorem e5 : stopKs so0 = pk0 := by kernel_rfl
def F1 : List (FOp × Value) := [(.len #[68] 3 (symv 1), symv 2),
    (.bin .neq 3 (symv 2) (.int .i64 4), .bool false),
    (.ixa 68 (symv 1) (.int .i64 0), symv 3),
    (.ld 9 (symv 3), symv 4),
    (.bin .eql 9 (symv 4) (strV []), .bool true)]
def C1 : List (FuncId × List Value × Value) := []
theorem e6 : endVal Tryd.prog Tryd.f44 (ops' 101 F1 C1 pr0 po0 pk0 { sl := hp0, ms := [], A := mkAS bk0 }) = some (.tuple ⟨[.agg ⟨[strV [], .bool false, .bool false, .bool false, .int .i64 0, .int .i64 0, .int .i64 0, .int .i64 0]⟩, .bool false]⟩) := by kernel_rfl
def F2 : List (FOp × Value) := [(.len #[68] 3 (symv 1), symv 2),
    (.bin .neq 3 (symv 2) (.int .i64 4), .bool false),
    (.ixa 68 (symv 1) (.int .i64 0), symv 3),
    (.ld 9 (symv 3), symv 4),
    (.bin .eql 9 (symv 4) (strV []), .bool false),
    (.ixa 68 (symv 1) (.int .i64 2), symv 5),
    (.ld 9 (symv 5), symv 6),
    (.bin .neq 9 (symv 6) (strV [102, 97, 100, 101]), .bool false),
    (.ixa 68 (symv 1) (.int .i64 3), symv 7),
    (.ld 9 (symv 7), symv 8),
    (.ixa 68 (symv 1) (.int .i64 1), symv 10),
    (.ld 9 (symv 10), symv 11),
    (.bin .eql 9 (symv 11) (strV [103, 97, 115]), .bool true),
    (.bin .lss 3 (symv 9) (.int .i64 0), .bool true)]
def C2 : List (FuncId × List Value × Value) := [(59, [symv 8], symv 9)]
theorem e7 : endVal Tryd.prog Tryd.f44 (ops' 101 F2 C2 pr0 po0 pk0 { sl := hp0, ms := [], A := mkAS bk0 }) = some (.tuple ⟨[.agg ⟨[strV [], .bool false, .bool false, .bool false, .int .i64 0, .int .i64 0, .int .i64 0, .int .i64 0]⟩, .bool false]⟩) := by kernel_rfl
def F3 : List (FOp × Value) := [(.len #[68] 3 (symv 1), symv 2),
    (.bin .neq 3 (symv 2) (.int .i64 4), .bool false),
    (.ixa 68 (symv 1) (.int .i64 0), symv 3),
    (.ld 9 (symv 3), symv 4),
    (.bin .eql 9 (symv 4) (strV []), .bool false),
    (.ixa 68 (symv 1) (.int .i64 2), symv 5),
    (.ld 9 (symv 5), symv 6),
    (.bin .neq 9 (symv 6) (strV [102, 97, 100, 101]), .bool false),
    (.ixa 68 (symv 1) (.int .i64 3), symv 7),
    (.ld 9 (symv 7), symv 8),
    (.ixa 68 (symv 1) (.int .i64 1), symv 10),
    (.ld 9 (symv 10), symv 11),
    (.bin .eql 9 (symv 11) (strV [103, 97, 115]), .bool true),
    (.bin .lss 3 (symv 9) (.int .i64 0), .bool false),
    (.bin .eql 3 (symv 2) (.int .i64 8), .bool false)]
def C3 : List (FuncId × List Value × Value) := [(59, [symv 8], symv 9)]
def F4 : List (FOp × Value) := [(.len #[68] 3 (symv 1), symv 2),
    (.bin .lss 3 (.int .i64 5) (symv 2), .bool false),
    (.bin .eql 3 (symv 2) (.int .i64 4), .bool true)]
def C4 : List (FuncId × List Value × Value) := []
theorem e8 : endVal Tryd.prog Tryd.f44 (unr' 101 F4 C4 5 (ops' 101 F3 C3 pr0 po0 pk0 { sl := hp0, ms := [], A := mkAS bk0 })) = some (.tuple ⟨[.agg ⟨[symv 4, .bool false, .bool false, .bool false, symv 9, .int .i64 0, .int .i64 0, .int .i64 0]⟩, .bool true]⟩) := by kernel_rfl
def F5 : List (FOp × Value) := [(.len #[68] 3 (symv 1), symv 2),
    (.bin .neq 3 (symv 2) (.int .i64 4), .bool false),
    (.ixa 68 (symv 1) (.int .i64 0), symv 3),
    (.ld 9 (symv 3), symv 4),
    (.bin .eql 9 (symv 4) (strV []), .bool false),
    (.ixa 68 (symv 1) (.int .i64 2), symv 5),
    (.ld 9 (symv 5), symv 6),
    (.bin .neq 9 (symv 6) (strV [102, 97, 100, 101]), .bool false),
    (.ixa 68 (symv 1) (.int .i64 3), symv 7),
    (.ld 9 (symv 7), symv 8),
    (.ixa 68 (symv 1) (.int .i64 1), symv 10),
    (.ld 9 (symv 10), symv 11),
    (.bin .eql 9 (symv 11) (strV [103, 97, 115]), .bool false),
    (.bin .eql 9 (symv 11) (strV [115, 111, 108, 105, 100]), .bool true),
    (.bin .lss 3 (symv 9) (.int .i64 0), .bool true)]
def C5 : List (FuncId × List Value × Value) := [(59, [symv 8], symv 9)]
theorem e9 : endVal Tryd.prog Tryd.f44 (ops' 101 F5 C5 pr0 po0 pk0 { sl := hp0, ms := [], A := mkAS bk0 }) = some (.tuple ⟨[.agg ⟨[strV [], .bool false, .bool false, .bool false, .int .i64 0, .int .i64 0, .int .i64 0, .int .i64 0]⟩, .bool false]⟩) := by kernel_rfl
def F6 : List (FOp × Value) := [(.len #[68] 3 (symv 1), symv 2),
    (.bin .neq 3 (symv 2) (.int .i64 4), .bool false),
    (.ixa 68 (symv 1) (.int .i64 0), symv 3),
    (.ld 9 (symv 3), symv 4),
    (.bin .eql 9 (symv 4) (strV []), .bool false),
    (.ixa 68 (symv 1) (.int .i64 2), symv 5),
    (.ld 9 (symv 5), symv 6),
    (.bin .neq 9 (symv 6) (strV [102, 97, 100, 101]), .bool false),
    (.ixa 68 (symv 1) (.int .i64 3), symv 7),
    (.ld 9 (symv 7), symv 8),
    (.ixa 68 (symv 1) (.int .i64 1), symv 10),
    (.ld 9 (symv 10), symv 11),
    (.bin .eql 9 (symv 11) (strV [103, 97, 115]), .bool false),
    (.bin .eql 9 (symv 11) (strV [115, 111, 108, 105, 100]), .bool true),
    (.bin .lss 3 (symv 9) (.int .i64 0), .bool false),
    (.bin .eql 3 (symv 2) (.int .i64 8), .bool false)]
def C6 : List (FuncId × List Value × Value) := [(59, [symv 8], symv 9)]
theorem e10 : endVal Tryd.prog Tryd.f44 (unr' 101 F4 C4 5 (ops' 101 F6 C6 pr0 po0 pk0 { sl := hp0, ms := [], A := mkAS bk0 })) = some (.tuple ⟨[.agg ⟨[symv 4, .bool true, .bool false, .bool false, symv 9, .int .i64 0, .int .i64 0, .int .i64 0]⟩, .bool true]⟩) := by kernel_rfl
def F7 : List (FOp × Value) := [(.len #[68] 3 (symv 1), symv 2),
    (.bin .neq 3 (symv 2) (.int .i64 4), .bool false),
    (.ixa 68 (symv 1) (.int .i64 0), symv 3),
    (.ld 9 (symv 3), symv 4),
    (.bin .eql 9 (symv 4) (strV []), .bool false),
    (.ixa 68 (symv 1) (.int .i64 2), symv 5),
    (.ld 9 (symv 5), symv 6),
    (.bin .neq 9 (symv 6) (strV [102, 97, 100, 101]), .bool false),
    (.ixa 68 (symv 1) (.int .i64 3), symv 7),
    (.ld 9 (symv 7), symv 8),
    (.ixa 68 (symv 1) (.int .i64 1), symv 10),
    (.ld 9 (symv 10), symv 11),
    (.bin .eql 9 (symv 11) (strV [103, 97, 115]), .bool false),
    (.bin .eql 9 (symv 11) (strV [115, 111, 108, 105, 100]), .bool false),
    (.bin .eql 9 (symv 11) (strV [102, 97, 108, 108, 105, 110, 103]), .bool true),
    (.bin .lss 3 (symv 9) (.int .i64 0), .bool true)]
def C7 : List (FuncId × List Value × Value) := [(59, [symv 8], symv 9)]
theorem e11 : endVal Tryd.prog Tryd.f44 (ops' 101 F7 C7 pr0 po0 pk0 { sl := hp0, ms := [], A := mkAS bk0 }) = some (.tuple ⟨[.agg ⟨[strV [], .bool false, .bool false, .bool false, .int .i64 0, .int .i64 0, .int .i64 0, .int .i64 0]⟩, .bool false]⟩) := by kernel_rfl
def F8 : List (FOp × Value) := [(.len #[68] 3 (symv 1), symv 2),
    (.bin .neq 3 (symv 2) (.int .i64 4), .bool false),
    (.ixa 68 (symv 1) (.int .i64 0), symv 3),
    (.ld 9 (symv 3), symv 4),
    (.bin .eql 9 (symv 4) (strV []), .bool false),
    (.ixa 68 (symv 1) (.int .i64 2), symv 5),
    (.ld 9 (symv 5), symv 6),
    (.bin .neq 9 (symv 6) (strV [102, 97, 100, 101]), .bool false),
    (.ixa 68 (symv 1) (.int .i64 3), symv 7),
    (.ld 9 (symv 7), symv 8),
    (.ixa 68 (symv 1) (.int .i64 1), symv 10),
    (.ld 9 (symv 10), symv 11),
    (.bin .eql 9 (symv 11) (strV [103, 97, 115]), .bool false),
    (.bin .eql 9 (symv 11) (strV [115, 111, 108, 105, 100]), .bool false),
    (.bin .eql 9 (symv 11) (strV [102, 97, 108, 108, 105, 110, 103]), .bool true),
    (.bin .lss 3 (symv 9) (.int .i64 0), .bool false),
    (.bin .eql 3 (symv 2) (.int .i64 8), .bool false)]
def C8 : List (FuncId × List Value × Value) := [(59, [symv 8], symv 9)]
theorem e12 : endVal Tryd.prog Tryd.f44 (unr' 101 F4 C4 5 (ops' 101 F8 C8 pr0 po0 pk0 { sl := hp0, ms := [], A := mkAS bk0 })) = some (.tuple ⟨[.agg ⟨[symv 4, .bool true, .bool false, .bool true, symv 9, .int .i64 0, .int .i64 0, .int .i64 0]⟩, .bool true]⟩) := by kernel_rfl
def F9 : List (FOp × Value) := [(.len #[68] 3 (symv 1), symv 2),
    (.bin .neq 3 (symv 2) (.int .i64 4), .bool false),
    (.ixa 68 (symv 1) (.int .i64 0), symv 3),
    (.ld 9 (symv 3), symv 4),
    (.bin .eql 9 (symv 4) (strV []), .bool false),
    (.ixa 68 (symv 1) (.int .i64 2), symv 5),
    (.ld 9 (symv 5), symv 6),
    (.bin .neq 9 (symv 6) (strV [102, 97, 100, 101]), .bool false),
    (.ixa 68 (symv 1) (.int .i64 3), symv 7),
    (.ld 9 (symv 7), symv 8),
    (.ixa 68 (symv 1) (.int .i64 1), symv 10),
    (.ld 9 (symv 10), symv 11),
    (.bin .eql 9 (symv 11) (strV [103, 97, 115]), .bool false),
    (.bin .eql 9 (symv 11) (strV [115, 111, 108, 105, 100]), .bool false),
    (.bin .eql 9 (symv 11) (strV [102, 97, 108, 108, 105, 110, 103]), .bool false),
    (.bin .eql 9 (symv 11) (strV [108, 105, 113, 117, 105, 100]), .bool true),
    (.bin .lss 3 (symv 9) (.int .i64 0), .bool true)]
def C9 : List (FuncId × List Value × Value) := [(59, [symv 8], symv 9)]
theorem e13 : endVal Tryd.prog Tryd.f44 (ops' 101 F9 C9 pr0 po0 pk0 { sl := hp0, ms := [], A := mkAS bk0 }) = some (.tuple ⟨[.agg ⟨[strV [], .bool false, .bool false, .bool false, .int .i64 0, .int .i64 0, .int .i64 0, .int .i64 0]⟩, .bool false]⟩) := by kernel_rfl
def F10 : List (FOp × Value) := [(.len #[68] 3 (symv 1), symv 2),
    (.bin .neq 3 (symv 2) (.int .i64 4), .bool false),
    (.ixa 68 (symv 1) (.int .i64 0), symv 3),
    (.ld 9 (symv 3), symv 4),
    (.bin .eql 9 (symv 4) (strV []), .bool false),
    (.ixa 68 (symv 1) (.int .i64 2), symv 5),
    (.ld 9 (symv 5), symv 6),
    (.bin .neq 9 (symv 6) (strV [102, 97, 100, 101]), .bool false),
    (.ixa 68 (symv 1) (.int .i64 3), symv 7),
    (.ld 9 (symv 7), symv 8),
    (.ixa 68 (symv 1) (.int .i64 1), symv 10),
    (.ld 9 (symv 10), symv 11),
    (.bin .eql 9 (symv 11) (strV [103, 97, 115]), .bool false),
    (.bin .eql 9 (symv 11) (strV [115, 111, 108, 105, 100]), .bool false),
    (.bin .eql 9 (symv 11) (strV [102, 97, 108, 108, 105, 110, 103]), .bool false),
    (.bin .eql 9 (symv 11) (strV [108, 105, 113, 117, 105, 100]), .bool true),
    (.bin .lss 3 (symv 9) (.int .i64 0), .bool false),
    (.bin .eql 3 (symv 2) (.int .i64 8), .bool false)]
def C10 : List (FuncId × List Value × Value) := [(59, [symv 8], symv 9)]
theorem e14 : endVal Tryd.prog Tryd.f44 (unr' 101 F4 C4 5 (ops' 101 F10 C10 pr0 po0 pk0 { sl := hp0, ms := [], A := mkAS bk0 })) = some (.tuple ⟨[.agg ⟨[symv 4, .bool false, .bool true, .bool false, symv 9, .int .i64 0, .int .i64 0, .int .i64 0]⟩, .bool true]⟩) := by kernel_rfl
def F11 : List (FOp × Value) := [(.len #[68] 3 (symv 1), symv 2),
    (.bin .neq 3 (symv 2) (.int .i64 4), .bool false),
    (.ixa 68 (symv 1) (.int .i64 0), symv 3),
    (.ld 9 (symv 3), symv 4),
    (.bin .eql 9 (symv 4) (strV []), .bool false),
    (.ixa 68 (symv 1) (.int .i64 2), symv 5),
    (.ld 9 (symv 5), symv 6),
    (.bin .neq 9 (symv 6) (strV [102, 97, 100, 101]), .bool false),
    (.ixa 68 (symv 1) (.int .i64 3), symv 7),
    (.ld 9 (symv 7), symv 8),
    (.ixa 68 (symv 1) (.int .i64 1), symv 10),
    (.ld 9 (symv 10), symv 11),
    (.bin .eql 9 (symv 11) (strV [103, 97, 115]), .bool false),
    (.bin .eql 9 (symv 11) (strV [115, 111, 108, 105, 100]), .bool false),
    (.bin .eql 9 (symv 11) (strV [102, 97, 108, 108, 105, 110, 103]), .bool false),
    (.bin .eql 9 (symv 11) (strV [108, 105, 113, 117, 105, 100]), .bool false)]
def C11 : List (FuncId × List Value × Value) := [(59, [symv 8], symv 9)]
theorem e15 : endVal Tryd.prog Tryd.f44 (ops' 101 F11 C11 pr0 po0 pk0 { sl := hp0, ms := [], A := mkAS bk0 }) = some (.tuple ⟨[.agg ⟨[strV [], .bool false, .bool false, .bool false, .int .i64 0, .int .i64 0, .int .i64 0, .int .i64 0]⟩, .bool false]⟩) := by kernel_rfl
def F12 : List (FOp × Value) := [(.len #[68] 3 (symv 1), symv 2),
    (.bin .neq 3 (symv 2) (.int .i64 4), .bool false),
    (.ixa 68 (symv 1) (.int .i64 0), symv 3),
    (.ld 9 (symv 3), symv 4),
    (.bin .eql 9 (symv 4) (strV []), .bool false),
    (.ixa 68 (symv 1) (.int .i64 2), symv 5),
    (.ld 9 (symv 5), symv 6),
    (.bin .neq 9 (symv 6) (strV [102, 97, 100, 101]), .bool true)]
def C12 : List (FuncId × List Value × Value) := []
theorem e16 : endVal Tryd.prog Tryd.f44 (ops' 101 F12 C12 pr0 po0 pk0 { sl := hp0, ms := [], A := mkAS bk0 }) = some (.tuple ⟨[.agg ⟨[strV [], .bool false, .bool false, .bool false, .int .i64 0, .int .i64 0, .int .i64 0, .int .i64 0]⟩, .bool false]⟩) := by kernel_rfl
def F13 : List (FOp × Value) := [(.len #[68] 3 (symv 1), symv 2),
    (.bin .neq 3 (symv 2) (.int .i64 4), .bool true),
    (.bin .neq 3 (symv 2) (.int .i64 8), .bool false),
    (.ixa 68 (symv 1) (.int .i64 0), symv 3),
    (.ld 9 (symv 3), symv 4),
    (.bin .eql 9 (symv 4) (strV []), .bool true)]
def C13 : List (FuncId × List Value × Value) := []
theorem e17 : endVal Tryd.prog Tryd.f44 (ops' 101 F13 C13 pr0 po0 pk0 { sl := hp0, ms := [], A := mkAS bk0 }) = some (.tuple ⟨[.agg ⟨[strV [], .bool false, .bool false, .bool false, .int .i64 0, .int .i64 0, .int .i64 0, .int .i64 0]⟩, .bool false]⟩) := by kernel_rfl
def F14 : List (FOp × Value) := [(.len #[68] 3 (symv 1), symv 2),
    (.bin .neq 3 (symv 2) (.int .i64 4), .bool true),
    (.bin .neq 3 (symv 2) (.int .i64 8), .bool false),
    (.ixa 68 (symv 1) (.int .i64 0), symv 3),
    (.ld 9 (symv 3), symv 4),
    (.bin .eql 9 (symv 4) (strV []), .bool false),
    (.ixa 68 (symv 1) (.int .i64 2), symv 5),
    (.ld 9 (symv 5), symv 6),
    (.bin .neq 9 (symv 6) (strV [102, 97, 100, 101]), .bool false),
    (.ixa 68 (symv 1) (.int .i64 3), symv 7),
    (.ld 9 (symv 7), symv 8),
    (.ixa 68 (symv 1) (.int .i64 1), symv 10),
    (.ld 9 (symv 10), symv 11),
    (.bin .eql 9 (symv 11) (strV [103, 97, 115]), .bool true),
    (.bin .lss 3 (symv 9) (.int .i64 0), .bool true)]
def C14 : List (FuncId × List Value × Value) := [(59, [symv 8], symv 9)]
theorem e18 : endVal Tryd.prog Tryd.f44 (ops' 101 F14 C14 pr0 po0 pk0 { sl := hp0, ms := [], A := mkAS bk0 }) = some (.tuple ⟨[.agg ⟨[strV [], .bool false, .bool false, .bool false, .int .i64 0, .int .i64 0, .int .i64 0, .int .i64 0]⟩, .bool false]⟩) := by kernel_rfl
def F15 : List (FOp × Value) := [(.len #[68] 3 (symv 1), symv 2),
    (.bin .neq 3 (symv 2) (.int .i64 4), .bool true),
    (.bin .neq 3 (symv 2) (.int .i64 8), .bool false),
    (.ixa 68 (symv 1) (.int .i64 0), symv 3),
    (.ld 9 (symv 3), symv 4),
    (.bin .eql 9 (symv 4) (strV []), .bool false),
    (.ixa 68 (symv 1) (.int .i64 2), symv 5),
    (.ld 9 (symv 5), symv 6),
    (.bin .neq 9 (symv 6) (strV [102, 97, 100, 101]), .bool false),
    (.ixa 68 (symv 1) (.int .i64 3), symv 7),
    (.ld 9 (symv 7), symv 8),
    (.ixa 68 (symv 1) (.int .i64 1), symv 10),
    (.ld 9 (symv 10), symv 11),
    (.bin .eql 9 (symv 11) (strV [103, 97, 115]), .bool true),
    (.bin .lss 3 (symv 9) (.int .i64 0), .bool false),
    (.bin .eql 3 (symv 2) (.int .i64 8), .bool true),
    (.ixa 68 (symv 1) (.int .i64 4), symv 12),
    (.ld 9 (symv 12), symv 13),
    (.bin .neq 9 (symv 13) (strV [101, 109, 105, 116]), .bool false)]
def C15 : List (FuncId × List Value × Value) := [(59, [symv 8], symv 9)]
def F16 : List (FOp × Value) := [(.len #[68] 3 (symv 1), symv 2),
    (.bin .lss 3 (.int .i64 5) (symv 2), .bool true),
    (.ixa 68 (symv 1) (.int .i64 5), symv 14),
    (.ld 9 (symv 14), symv 15),
    (.bin .lss 3 (symv 16) (.int .i64 0), .bool true)]
def C16 : List (FuncId × List Value × Value) := [(59, [symv 15], symv 16)]
theorem e19 : endVal Tryd.prog Tryd.f44 (unr' 101 F16 C16 5 (ops' 101 F15 C15 pr0 po0 pk0 { sl := hp0, ms := [], A := mkAS bk0 })) = some (.tuple ⟨[.agg ⟨[strV [], .bool false, .bool false, .bool false, .int .i64 0, .int .i64 0, .int .i64 0, .int .i64 0]⟩, .bool false]⟩) := by kernel_rfl
def F17 : List (FOp × Value) := [(.len #[68] 3 (symv 1), symv 2),
    (.bin .lss 3 (.int .i64 5) (symv 2), .bool true),
    (.ixa 68 (symv 1) (.int .i64 5), symv 14),
    (.ld 9 (symv 14), symv 15),
    (.bin .lss 3 (symv 16) (.int .i64 0), .bool false),
    (.bin .lss 3 (.int .i64 6) (symv 2), .bool true),
    (.ixa 68 (symv 1) (.int .i64 6), symv 17),
    (.ld 9 (symv 17), symv 18),
    (.bin .lss 3 (symv 19) (.int .i64 0), .bool true)]
def C17 : List (FuncId × List Value × Value) := [(59, [symv 15], symv 16),
    (59, [symv 18], symv 19)]
theorem e20 : endVal Tryd.prog Tryd.f44 (unr' 101 F17 C17 5 (ops' 101 F15 C15 pr0 po0 pk0 { sl := hp0, ms := [], A := mkAS bk0 })) = some (.tuple ⟨[.agg ⟨[strV [], .bool false, .bool false, .bool false, .int .i64 0, .int .i64 0, .int .i64 0, .int .i64 0]⟩, .bool false]⟩) := by kernel_rfl
def F18 : List (FOp × Value) := [(.len #[68] 3 (symv 1), symv 2),
    (.bin .lss 3 (.int .i64 5) (symv 2), .bool true),
    (.ixa 68 (symv 1) (.int .i64 5), symv 14),
    (.ld 9 (symv 14), symv 15),
    (.bin .lss 3 (symv 16) (.int .i64 0), .bool false),
    (.bin .lss 3 (.int .i64 6) (symv 2), .bool true),
    (.ixa 68 (symv 1) (.int .i64 6), symv 17),
    (.ld 9 (symv 17), symv 18),
    (.bin .lss 3 (symv 19) (.int .i64 0), .bool false),
    (.bin .lss 3 (.int .i64 7) (symv 2), .bool true),
    (.ixa 68 (symv 1) (.int .i64 7), symv 20),
    (.ld 9 (symv 20), symv 21),
    (.bin .lss 3 (symv 22) (.int .i64 0), .bool true)]
def C18 : List (FuncId × List Value × Value) := [(59, [symv 15], symv 16),
    (59, [symv 18], symv 19),
    (59, [symv 21], symv 22)]
theorem e21 : endVal Tryd.prog Tryd.f44 (unr' 101 F18 C18 5 (ops' 101 F15 C15 pr0 po0 pk0 { sl := hp0, ms := [], A := mkAS bk0 })) = some (.tuple ⟨[.agg ⟨[strV [], .bool false, .bool false, .bool false, .int .i64 0, .int .i64 0, .int .i64 0, .int .i64 0]⟩, .bool false]⟩) := by kernel_rfl
def F19 : List (FOp × Value) := [(.len #[68] 3 (symv 1), symv 2),
    (.bin .lss 3 (.int .i64 5) (symv 2), .bool true),
    (.ixa 68 (symv 1) (.int .i64 5), symv 14),
    (.ld 9 (symv 14), symv 15),
    (.bin .lss 3 (symv 16) (.int .i64 0), .bool false),
    (.bin .lss 3 (.int .i64 6) (symv 2), .bool true),
    (.ixa 68 (symv 1) (.int .i64 6), symv 17),
    (.ld 9 (symv 17), symv 18),
    (.bin .lss 3 (symv 19) (.int .i64 0), .bool false),
    (.bin .lss 3 (.int .i64 7) (symv 2), .bool true),
    (.ixa 68 (symv 1) (.int .i64 7), symv 20),
    (.ld 9 (symv 20), symv 21),
    (.bin .lss 3 (symv 22) (.int .i64 0), .bool false),
    (.bin .lss 3 (.int .i64 8) (symv 2), .bool false),
    (.bin .eql 3 (symv 2) (.int .i64 4), .bool false),
    (.bin .neq 33 (.agg ⟨[symv 16, symv 19, symv 22]⟩) (.agg ⟨[.int .i64 0, .int .i64 0, .int .i64 0]⟩), .bool false)]
def C19 : List (FuncId × List Value × Value) := [(59, [symv 15], symv 16),
    (59, [symv 18], symv 19),
    (59, [symv 21], symv 22)]
theorem e22 : endVal Tryd.prog Tryd.f44 (unr' 101 F19 C19 5 (ops' 101 F15 C15 pr0 po0 pk0 { sl := hp0, ms := [], A := mkAS bk0 })) = some (.tuple ⟨[.agg ⟨[symv 4, .bool false, .bool false, .bool false, symv 9, symv 16, symv 19, symv 22]⟩, .bool false]⟩) := by kernel_rfl
def F20 : List (FOp × Value) := [(.len #[68] 3 (symv 1), symv 2),
    (.bin .lss 3 (.int .i64 5) (symv 2), .bool true),
    (.ixa 68 (symv 1) (.int .i64 5), symv 14),
    (.ld 9 (symv 14), symv 15),
    (.bin .lss 3 (symv 16) (.int .i64 0), .bool false),
    (.bin .lss 3 (.int .i64 6) (symv 2), .bool true),
    (.ixa 68 (symv 1) (.int .i64 6), symv 17),
    (.ld 9 (symv 17), symv 18),
    (.bin .lss 3 (symv 19) (.int .i64 0), .bool false),
    (.bin .lss 3 (.int .i64 7) (symv 2), .bool true),
    (.ixa 68 (symv 1) (.int .i64 7), symv 20),
    (.ld 9 (symv 20), symv 21),
    (.bin .lss 3 (symv 22) (.int .i64 0), .bool false),
    (.bin .lss 3 (.int .i64 8) (symv 2), .bool false),
    (.bin .eql 3 (symv 2) (.int .i64 4), .bool false),
    (.bin .neq 33 (.agg ⟨[symv 16, symv 19, symv 22]⟩) (.agg ⟨[.int .i64 0, .int .i64 0, .int .i64 0]⟩), .bool true)]
def C20 : List (FuncId × List Value × Value) := [(59, [symv 15], symv 16),
    (59, [symv 18], symv 19),
    (59, [symv 21], symv 22)]
theorem e23 : endVal Tryd.prog Tryd.f44 (unr' 101 F20 C20 5 (ops' 101 F15 C15 pr0 po0 pk0 { sl := hp0, ms := [], A := mkAS bk0 })) = some (.tuple ⟨[.agg ⟨[symv 4, .bool false, .bool false, .bool false, symv 9, symv 16, symv 19, symv 22]⟩, .bool true]⟩) := by kernel_rfl
def F21 : List (FOp × Value) := [(.len #[68] 3 (symv 1), symv 2),
    (.bin .neq 3 (symv 2) (.int .i64 4), .bool true),
    (.bin .neq 3 (symv 2) (.int .i64 8), .bool false),
    (.ixa 68 (symv 1) (.int .i64 0), symv 3),
    (.ld 9 (symv 3), symv 4),
    (.bin .eql 9 (symv 4) (strV []), .bool false),
    (.ixa 68 (symv 1) (.int .i64 2), symv 5),
    (.ld 9 (symv 5), symv 6),
    (.bin .neq 9 (symv 6) (strV [102, 97, 100, 101]), .bool false),
    (.ixa 68 (symv 1) (.int .i64 3), symv 7),
    (.ld 9 (symv 7), symv 8),
    (.ixa 68 (symv 1) (.int .i64 1), symv 10),
    (.ld 9 (symv 10), symv 11),
    (.bin .eql 9 (symv 11) (strV [103, 97, 115]), .bool true),
    (.bin .lss 3 (symv 9) (.int .i64 0), .bool false),
    (.bin .eql 3 (symv 2) (.int .i64 8), .bool true),
    (.ixa 68 (symv 1) (.int .i64 4), symv 12),
    (.ld 9 (symv 12), symv 13),
    (.bin .neq 9 (symv 13) (strV [101, 109, 105, 116]), .bool true)]
def C21 : List (FuncId × List Value × Value) := [(59, [symv 8], symv 9)]
theorem e24 : endVal Tryd.prog Tryd.f44 (ops' 101 F21 C21 pr0 po0 pk0 { sl := hp0, ms := [], A := mkAS bk0 }) = some (.tuple ⟨[.agg ⟨[strV [], .bool false, .bool false, .bool false, .int .i64 0, .int .i64 0, .int .i64 0, .int .i64 0]⟩, .bool false]⟩) := by kernel_rfl
def F22 : List (FOp × Value) := [(.len #[68] 3 (symv 1), symv 2),
    (.bin .neq 3 (symv 2) (.int .i64 4), .bool true),
    (.bin .neq 3 (symv 2) (.int .i64 8), .bool false),
    (.ixa 68 (symv 1) (.int .i64 0), symv 3),
    (.ld 9 (symv 3), symv 4),
    (.bin .eql 9 (symv 4) (strV []), .bool false),
    (.ixa 68 (symv 1) (.int .i64 2), symv 5),
    (.ld 9 (symv 5), symv 6),
    (.bin .neq 9 (symv 6) (strV [102, 97, 100, 101]), .bool false),
    (.ixa 68 (symv 1) (.int .i64 3), symv 7),
    (.ld 9 (symv 7), symv 8),
    (.ixa 68 (symv 1) (.int .i64 1), symv 10),
    (.ld 9 (symv 10), symv 11),
    (.bin .eql 9 (symv 11) (strV [103, 97, 115]), .bool false),
    (.bin .eql 9 (symv 11) (strV [115, 111, 108, 105, 100]), .bool true),
    (.bin .lss 3 (symv 9) (.int .i64 0), .bool true)]
def C22 : List (FuncId × List Value × Value) := [(59, [symv 8], symv 9)]
theorem e25 : endVal Tryd.prog Tryd.f44 (ops' 101 F22 C22 pr0 po0 pk0 { sl := hp0, ms := [], A := mkAS bk0 }) = some (.tuple ⟨[.agg ⟨[strV [], .bool false, .bool false, .bool false, .int .i64 0, .int .i64 0, .int .i64 0, .int .i64 0]⟩, .bool false]⟩) := by kernel_rfl
def F23 : List (FOp × Value) := [(.len #[68] 3 (symv 1), symv 2),
    (.bin .neq 3 (symv 2) (.int .i64 4), .bool true),
    (.bin .neq 3 (symv 2) (.int .i64 8), .bool false),
    (.ixa 68 (symv 1) (.int .i64 0), symv 3),
    (.ld 9 (symv 3), symv 4),
    (.bin .eql 9 (symv 4) (strV []), .bool false),
    (.ixa 68 (symv 1) (.int .i64 2), symv 5),
    (.ld 9 (symv 5), symv 6),
    (.bin .neq 9 (symv 6) (strV [102, 97, 100, 101]), .bool false),
    (.ixa 68 (symv 1) (.int .i64 3), symv 7),
    (.ld 9 (symv 7), symv 8),
    (.ixa 68 (symv 1) (.int .i64 1), symv 10),
    (.ld 9 (symv 10), symv 11),
    (.bin .eql 9 (symv 11) (strV [103, 97, 115]), .bool false),
    (.bin .eql 9 (symv 11) (strV [115, 111, 108, 105, 100]), .bool true),
    (.bin .lss 3 (symv 9) (.int .i64 0), .bool false),
    (.bin .eql 3 (symv 2) (.int .i64 8), .bool true),
    (.ixa 68 (symv 1) (.int .i64 4), symv 12),
    (.ld 9 (symv 12), symv 13),
    (.bin .neq 9 (symv 13) (strV [101, 109, 105, 116]), .bool false)]
def C23 : List (FuncId × List Value × Value) := [(59, [symv 8], symv 9)]
theorem e26 : endVal Tryd.prog Tryd.f44 (unr' 101 F16 C16 5 (ops' 101 F23 C23 pr0 po0 pk0 { sl := hp0, ms := [], A := mkAS bk0 })) = some (.tuple ⟨[.agg ⟨[strV [], .bool false, .bool false, .bool false, .int .i64 0, .int .i64 0, .int .i64 0, .int .i64 0]⟩, .bool false]⟩) := by kernel_rfl
theorem e27 : endVal Tryd.prog Tryd.f44 (unr' 101 F17 C17 5 (ops' 101 F23 C23 pr0 po0 pk0 { sl := hp0, ms := [], A := mkAS bk0 })) = some (.tuple ⟨[.agg ⟨[strV [], .bool false, .bool false, .bool false, .int .i64 0, .int .i64 0, .int .i64 0, .int .i64 0]⟩, .bool false]⟩) := by kernel_rfl
theorem e28 : endVal Tryd.prog Tryd.f44 (unr' 101 F18 C18 5 (ops' 101 F23 C23 pr0 po0 pk0 { sl := hp0, ms := [], A := mkAS bk0 })) = some (.tuple ⟨[.agg ⟨[strV [], .bool false, .bool false, .bool false, .int .i64 0, .int .i64 0, .int .i64 0, .int .i64 0]⟩, .bool false]⟩) := by kernel_rfl
theorem e29 : endVal Tryd.prog Tryd.f44 (unr' 101 F19 C19 5 (ops' 101 F23 C23 pr0 po0 pk0 { sl := hp0, ms := [], A := mkAS bk0 })) = some (.tuple ⟨[.agg ⟨[symv 4, .bool true, .bool false, .bool false, symv 9, symv 16, symv 19, symv 22]⟩, .bool false]⟩) := by kernel_rfl
theorem e30 : endVal Tryd.prog Tryd.f44 (unr' 101 F20 C20 5 (ops' 101 F23 C23 pr0 po0 pk0 { sl := hp0, ms := [], A := mkAS bk0 })) = some (.tuple ⟨[.agg ⟨[symv 4, .bool true, .bool false, .bool false, symv 9, symv 16, symv 19, symv 22]⟩, .bool true]⟩) := by kernel_rfl
def F24 : List (FOp × Value) := [(.len #[68] 3 (symv 1), symv 2),
    (.bin .neq 3 (symv 2) (.int .i64 4), .bool true),
    (.bin .neq 3 (symv 2) (.int .i64 8), .bool false),
    (.ixa 68 (symv 1) (.int .i64 0), symv 3),
    (.ld 9 (symv 3), symv 4),
    (.bin .eql 9 (symv 4) (strV []), .bool false),
    (.ixa 68 (symv 1) (.int .i64 2), symv 5),
    (.ld 9 (symv 5), symv 6),
    (.bin .neq 9 (symv 6) (strV [102, 97, 100, 101]), .bool false),
    (.ixa 68 (symv 1) (.int .i64 3), symv 7),
    (.ld 9 (symv 7), symv 8),
    (.ixa 68 (symv 1) (.int .i64 1), symv 10),
    (.ld 9 (symv 10), symv 11),
    (.bin .eql 9 (symv 11) (strV [103, 97, 115]), .bool false),
    (.bin .eql 9 (symv 11) (strV [115, 111, 108, 105, 100]), .bool true),
    (.bin .lss 3 (symv 9) (.int .i64 0), .bool false),
    (.bin .eql 3 (symv 2) (.int .i64 8), .bool true),
    (.ixa 68 (symv 1) (.int .i64 4), symv 12),
    (.ld 9 (symv 12), symv 13),
    (.bin .neq 9 (symv 13) (strV [101, 109, 105, 116]), .bool true)]
def C24 : List (FuncId × List Value × Value) := [(59, [symv 8], symv 9)]
theorem e31 : endVal Tryd.prog Tryd.f44 (ops' 101 F24 C24 pr0 po0 pk0 { sl := hp0, ms := [], A := mkAS bk0 }) = some (.tuple ⟨[.agg ⟨[strV [], .bool false, .bool false, .bool false, .int .i64 0, .int .i64 0, .int .i64 0, .int .i64 0]⟩, .bool false]⟩) := by kernel_rfl
def F25 : List (FOp × Value) := [(.len #[68] 3 (symv 1), symv 2),
    (.bin .neq 3 (symv 2) (.int .i64 4), .bool true),
    (.bin .neq 3 (symv 2) (.int .i64 8), .bool false),
    (.ixa 68 (symv 1) (.int .i64 0), symv 3),
    (.ld 9 (symv 3), symv 4),
    (.bin .eql 9 (symv 4) (strV []), .bool false),
    (.ixa 68 (symv 1) (.int .i64 2), symv 5),
    (.ld 9 (symv 5), symv 6),
    (.bin .neq 9 (symv 6) (strV [102, 97, 100, 101]), .bool false),
    (.ixa 68 (symv 1) (.int .i64 3), symv 7),
    (.ld 9 (symv 7), symv 8),
    (.ixa 68 (symv 1) (.int .i64 1), symv 10),
    (.ld 9 (symv 10), symv 11),
    (.bin .eql 9 (symv 11) (strV [103, 97, 115]), .bool false),
    (.bin .eql 9 (symv 11) (strV [115, 111, 108, 105, 100]), .bool false),
    (.bin .eql 9 (symv 11) (strV [102, 97, 108, 108, 105, 110, 103]), .bool true),
    (.bin .lss 3 (symv 9) (.int .i64 0), .bool true)]
def C25 : List (FuncId × List Value × Value) := [(59, [symv 8], symv 9)]
theorem e32 : endVal Tryd.prog Tryd.f44 (ops' 101 F25 C25 pr0 po0 pk0 { sl := hp0, ms := [], A := mkAS bk0 }) = some (.tuple ⟨[.agg ⟨[strV [], .bool false, .bool false, .bool false, .int .i64 0, .int .i64 0, .int .i64 0, .int .i64 0]⟩, .bool false]⟩) := by kernel_rfl
def F26 : List (FOp × Value) := [(.len #[68] 3 (symv 1), symv 2),
    (.bin .neq 3 (symv 2) (.int .i64 4), .bool true),
    (.bin .neq 3 (symv 2) (.int .i64 8), .bool false),
    (.ixa 68 (symv 1) (.int .i64 0), symv 3),
    (.ld 9 (symv 3), symv 4),
    (.bin .eql 9 (symv 4) (strV []), .bool false),
    (.ixa 68 (symv 1) (.int .i64 2), symv 5),
    (.ld 9 (symv 5), symv 6),
    (.bin .neq 9 (symv 6) (strV [102, 97, 100, 101]), .bool false),
    (.ixa 68 (symv 1) (.int .i64 3), symv 7),
    (.ld 9 (symv 7), symv 8),
    (.ixa 68 (symv 1) (.int .i64 1), symv 10),
    (.ld 9 (symv 10), symv 11),
    (.bin .eql 9 (symv 11) (strV [103, 97, 115]), .bool false),
    (.bin .eql 9 (symv 11) (strV [115, 111, 108, 105, 100]), .bool false),
    (.bin .eql 9 (symv 11) (strV [102, 97, 108, 108, 105, 110, 103]), .bool true),
    (.bin .lss 3 (symv 9) (.int .i64 0), .bool false),
    (.bin .eql 3 (symv 2) (.int .i64 8), .bool true),
    (.ixa 68 (symv 1) (.int .i64 4), symv 12),
    (.ld 9 (symv 12), symv 13),
    (.bin .neq 9 (symv 13) (strV [101, 109, 105, 116]), .bool false)]
def C26 : List (FuncId × List Value × Value) := [(59, [symv 8], symv 9)]
theorem e33 : endVal Tryd.prog Tryd.f44 (unr' 101 F16 C16 5 (ops' 101 F26 C26 pr0 po0 pk0 { sl := hp0, ms := [], A := mkAS bk0 })) = some (.tuple ⟨[.agg ⟨[strV [], .bool false, .bool false, .bool false, .int .i64 0, .int .i64 0, .int .i64 0, .int .i64 0]⟩, .bool false]⟩) := by kernel_rfl
theorem e34 : endVal Tryd.prog Tryd.f44 (unr' 101 F17 C17 5 (ops' 101 F26 C26 pr0 po0 pk0 { sl := hp0, ms := [], A := mkAS bk0 })) = some (.tuple ⟨[.agg ⟨[strV [], .bool false, .bool false, .bool false, .int .i64 0, .int .i64 0, .int .i64 0, .int .i64 0]⟩, .bool false]⟩) := by kernel_rfl
theorem e35 : endVal Tryd.prog Tryd.f44 (unr' 101 F18 C18 5 (ops' 101 F26 C26 pr0 po0 pk0 { sl := hp0, ms := [], A := mkAS bk0 })) = some (.tuple ⟨[.agg ⟨[strV [], .bool false, .bool false, .bool false, .int .i64 0, .int .i64 0, .int .i64 0, .int .i64 0]⟩, .bool false]⟩) := by kernel_rfl
theorem e36 : endVal Tryd.prog Tryd.f44 (unr' 101 F19 C19 5 (ops' 101 F26 C26 pr0 po0 pk0 { sl := hp0, ms := [], A := mkAS bk0 })) = some (.tuple ⟨[.agg ⟨[symv 4, .bool true, .bool false, .bool true, symv 9, symv 16, symv 19, symv 22]⟩, .bool false]⟩) := by kernel_rfl
theorem e37 : endVal Tryd.prog Tryd.f44 (unr' 101 F20 C20 5 (ops' 101 F26 C26 pr0 po0 pk0 { sl := hp0, ms := [], A := mkAS bk0 })) = some (.tuple ⟨[.agg ⟨[symv 4, .bool true, .bool false, .bool true, symv 9, symv 16, symv 19, symv 22]⟩, .bool true]⟩) := by kernel_rfl
def F27 : List (FOp × Value) := [(.len #[68] 3 (symv 1), symv 2),
    (.bin .neq 3 (symv 2) (.int .i64 4), .bool true),
    (.bin .neq 3 (symv 2) (.int .i64 8), .bool false),
    (.ixa 68 (symv 1) (.int .i64 0), symv 3),
    (.ld 9 (symv 3), symv 4),
    (.bin .eql 9 (symv 4) (strV []), .bool false),
    (.ixa 68 (symv 1) (.int .i64 2), symv 5),
    (.ld 9 (symv 5), symv 6),
    (.bin .neq 9 (symv 6) (strV [102, 97, 100, 101]), .bool false),
    (.ixa 68 (symv 1) (.int .i64 3), symv 7),
    (.ld 9 (symv 7), symv 8),
    (.ixa 68 (symv 1) (.int .i64 1), symv 10),
    (.ld 9 (symv 10), symv 11),
    (.bin .eql 9 (symv 11) (strV [103, 97, 115]), .bool false),
    (.bin .eql 9 (symv 11) (strV [115, 111, 108, 105, 100]), .bool false),
    (.bin .eql 9 (symv 11) (strV [102, 97, 108, 108, 105, 110, 103]), .bool true),
    (.bin .lss 3 (symv 9) (.int .i64 0), .bool false),
    (.bin .eql 3 (symv 2) (.int .i64 8), .bool true),
    (.ixa 68 (symv 1) (.int .i64 4), symv 12),
    (.ld 9 (symv 12), symv 13),
    (.bin .neq 9 (symv 13) (strV [101, 109, 105, 116]), .bool true)]
def C27 : List (FuncId × List Value × Value) := [(59, [symv 8], symv 9)]
theorem e38 : endVal Tryd.prog Tryd.f44 (ops' 101 F27 C27 pr0 po0 pk0 { sl := hp0, ms := [], A := mkAS bk0 }) = some (.tuple ⟨[.agg ⟨[strV [], .bool false, .bool false, .bool false, .int .i64 0, .int .i64 0, .int .i64 0, .int .i64 0]⟩, .bool false]⟩) := by kernel_rfl
def F28 : List (FOp × Value) := [(.len #[68] 3 (symv 1), symv 2),
    (.bin .neq 3 (symv 2) (.int .i64 4), .bool true),
    (.bin .neq 3 (symv 2) (.int .i64 8), .bool false),
    (.ixa 68 (symv 1) (.int .i64 0), symv 3),
    (.ld 9 (symv 3), symv 4),
    (.bin .eql 9 (symv 4) (strV []), .bool false),
    (.ixa 68 (symv 1) (.int .i64 2), symv 5),
    (.ld 9 (symv 5), symv 6),
    (.bin .neq 9 (symv 6) (strV [102, 97, 100, 101]), .bool false),
    (.ixa 68 (symv 1) (.int .i64 3), symv 7),
    (.ld 9 (symv 7), symv 8),
    (.ixa 68 (symv 1) (.int .i64 1), symv 10),
    (.ld 9 (symv 10), symv 11),
    (.bin .eql 9 (symv 11) (strV [103, 97, 115]), .bool false),
    (.bin .eql 9 (symv 11) (strV [115, 111, 108, 105, 100]), .bool false),
    (.bin .eql 9 (symv 11) (strV [102, 97, 108, 108, 105, 110, 103]), .bool false),
    (.bin .eql 9 (symv 11) (strV [108, 105, 113, 117, 105, 100]), .bool true),
    (.bin .lss 3 (symv 9) (.int .i64 0), .bool true)]
def C28 : List (FuncId × List Value × Value) := [(59, [symv 8], symv 9)]
theorem e39 : endVal Tryd.prog Tryd.f44 (ops' 101 F28 C28 pr0 po0 pk0 { sl := hp0, ms := [], A := mkAS bk0 }) = some (.tuple ⟨[.agg ⟨[strV [], .bool false, .bool false, .bool false, .int .i64 0, .int .i64 0, .int .i64 0, .int .i64 0]⟩, .bool false]⟩) := by kernel_rfl
def F29 : List (FOp × Value) := [(.len #[68] 3 (symv 1), symv 2),
    (.bin .neq 3 (symv 2) (.int .i64 4), .bool true),
    (.bin .neq 3 (symv 2) (.int .i64 8), .bool false),
    (.ixa 68 (symv 1) (.int .i64 0), symv 3),
    (.ld 9 (symv 3), symv 4),
    (.bin .eql 9 (symv 4) (strV []), .bool false),
    (.ixa 68 (symv 1) (.int .i64 2), symv 5),
    (.ld 9 (symv 5), symv 6),
    (.bin .neq 9 (symv 6) (strV [102, 97, 100, 101]), .bool false),
    (.ixa 68 (symv 1) (.int .i64 3), symv 7),
    (.ld 9 (symv 7), symv 8),
    (.ixa 68 (symv 1) (.int .i64 1), symv 10),
    (.ld 9 (symv 10), symv 11),
    (.bin .eql 9 (symv 11) (strV [103, 97, 115]), .bool false),
    (.bin .eql 9 (symv 11) (strV [115, 111, 108, 105, 100]), .bool false),
    (.bin .eql 9 (symv 11) (strV [102, 97, 108, 108, 105, 110, 103]), .bool false),
    (.bin .eql 9 (symv 11) (strV [108, 105, 113, 117, 105, 100]), .bool true),
    (.bin .lss 3 (symv 9) (.int .i64 0), .bool false),
    (.bin .eql 3 (symv 2) (.int .i64 8), .bool true),
    (.ixa 68 (symv 1) (.int .i64 4), symv 12),
    (.ld 9 (symv 12), symv 13),
    (.bin .neq 9 (symv 13) (strV [101, 109, 105, 116]), .bool false)]
def C29 : List (FuncId × List Value × Value) := [(59, [symv 8], symv 9)]
theorem e40 : endVal Tryd.prog Tryd.f44 (unr' 101 F16 C16 5 (ops' 101 F29 C29 pr0 po0 pk0 { sl := hp0, ms := [], A := mkAS bk0 })) = some (.tuple ⟨[.agg ⟨[strV [], .bool false, .bool false, .bool false, .int .i64 0, .int .i64 0, .int .i64 0, .int .i64 0]⟩, .bool false]⟩) := by kernel_rfl
theorem e41 : endVal Tryd.prog Tryd.f44 (unr' 101 F17 C17 5 (ops' 101 F29 C29 pr0 po0 pk0 { sl := hp0, ms := [], A := mkAS bk0 })) = some (.tuple ⟨[.agg ⟨[strV [], .bool false, .bool false, .bool false, .int .i64 0, .int .i64 0, .int .i64 0, .int .i64 0]⟩, .bool false]⟩) := by kernel_rfl
theorem e42 : endVal Tryd.prog Tryd.f44 (unr' 101 F18 C18 5 (ops' 101 F29 C29 pr0 po0 pk0 { sl := hp0, ms := [], A := mkAS bk0 })) = some (.tuple ⟨[.agg ⟨[strV [], .bool false, .bool false, .bool false, .int .i64 0, .int .i64 0, .int .i64 0, .int .i64 0]⟩, .bool false]⟩) := by kernel_rfl
theorem e43 : endVal Tryd.prog Tryd.f44 (unr' 101 F19 C19 5 (ops' 101 F29 C29 pr0 po0 pk0 { sl := hp0, ms := [], A := mkAS bk0 })) = some (.tuple ⟨[.agg ⟨[symv 4, .bool false, .bool true, .bool false, symv 9, symv 16, symv 19, symv 22]⟩, .bool false]⟩) := by kernel_rfl
theorem e44 : endVal Tryd.prog Tryd.f44 (unr' 101 F20 C20 5 (ops' 101 F29 C29 pr0 po0 pk0 { sl := hp0, ms := [], A := mkAS bk0 })) = some (.tuple ⟨[.agg ⟨[symv 4, .bool false, .bool true, .bool false, symv 9, symv 16, symv 19, symv 22]⟩, .bool true]⟩) := by kernel_rfl
def F30 : List (FOp × Value) := [(.len #[68] 3 (symv 1), symv 2),
    (.bin .neq 3 (symv 2) (.int .i64 4), .bool true),
    (.bin .neq 3 (symv 2) (.int .i64 8), .bool false),
    (.ixa 68 (symv 1) (.int .i64 0), symv 3),
    (.ld 9 (symv 3), symv 4),
    (.bin .eql 9 (symv 4) (strV []), .bool false),
    (.ixa 68 (symv 1) (.int .i64 2), symv 5),
    (.ld 9 (symv 5), symv 6),
    (.bin .neq 9 (symv 6) (strV [102, 97, 100, 101]), .bool false),
    (.ixa 68 (symv 1) (.int .i64 3), symv 7),
    (.ld 9 (symv 7), symv 8),
    (.ixa 68 (symv 1) (.int .i64 1), symv 10),
    (.ld 9 (symv 10), symv 11),
    (.bin .eql 9 (symv 11) (strV [103, 97, 115]), .bool false),
    (.bin .eql 9 (symv 11) (strV [115, 111, 108, 105, 100]), .bool false),
    (.bin .eql 9 (symv 11) (strV [102, 97, 108, 108, 105, 110, 103]), .bool false),
    (.bin .eql 9 (symv 11) (strV [108, 105, 113, 117, 105, 100]), .bool true),
    (.bin .lss 3 (symv 9) (.int .i64 0), .bool false),
    (.bin .eql 3 (symv 2) (.int .i64 8), .bool true),
    (.ixa 68 (symv 1) (.int .i64 4), symv 12),
    (.ld 9 (symv 12), symv 13),
    (.bin .neq 9 (symv 13) (strV [101, 109, 105, 116]), .bool true)]
def C30 : List (FuncId × List Value × Value) := [(59, [symv 8], symv 9)]
theorem e45 : endVal Tryd.prog Tryd.f44 (ops' 101 F30 C30 pr0 po0 pk0 { sl := hp0, ms := [], A := mkAS bk0 }) = some (.tuple ⟨[.agg ⟨[strV [], .bool false, .bool false, .bool false, .int .i64 0, .int .i64 0, .int .i64 0, .int .i64 0]⟩, .bool false]⟩) := by kernel_rfl
def F31 : List (FOp × Value) := [(.len #[68] 3 (symv 1), symv 2),
    (.bin .neq 3 (symv 2) (.int .i64 4), .bool true),
    (.bin .neq 3 (symv 2) (.int .i64 8), .bool false),
    (.ixa 68 (symv 1) (.int .i64 0), symv 3),
    (.ld 9 (symv 3), symv 4),
    (.bin .eql 9 (symv 4) (strV []), .bool false),
    (.ixa 68 (symv 1) (.int .i64 2), symv 5),
    (.ld 9 (symv 5), symv 6),
    (.bin .neq 9 (symv 6) (strV [102, 97, 100, 101]), .bool false),
    (.ixa 68 (symv 1) (.int .i64 3), symv 7),
    (.ld 9 (symv 7), symv 8),
    (.ixa 68 (symv 1) (.int .i64 1), symv 10),
    (.ld 9 (symv 10), symv 11),
    (.bin .eql 9 (symv 11) (strV [103, 97, 115]), .bool false),
    (.bin .eql 9 (symv 11) (strV [115, 111, 108, 105, 100]), .bool false),
    (.bin .eql 9 (symv 11) (strV [102, 97, 108, 108, 105, 110, 103]), .bool false),
    (.bin .eql 9 (symv 11) (strV [108, 105, 113, 117, 105, 100]), .bool false)]
def C31 : List (FuncId × List Value × Value) := [(59, [symv 8], symv 9)]
theorem e46 : endVal Tryd.prog Tryd.f44 (ops' 101 F31 C31 pr0 po0 pk0 { sl := hp0, ms := [], A := mkAS bk0 }) = some (.tuple ⟨[.agg ⟨[strV [], .bool false, .bool false, .bool false, .int .i64 0, .int .i64 0, .int .i64 0, .int .i64 0]⟩, .bool false]⟩) := by kernel_rfl
def F32 : List (FOp × Value) := [(.len #[68] 3 (symv 1), symv 2),
    (.bin .neq 3 (symv 2) (.int .i64 4), .bool true),
    (.bin .neq 3 (symv 2) (.int .i64 8), .bool false),
    (.ixa 68 (symv 1) (.int .i64 0), symv 3),
    (.ld 9 (symv 3), symv 4),
    (.bin .eql 9 (symv 4) (strV []), .bool false),
    (.ixa 68 (symv 1) (.int .i64 2), symv 5),
    (.ld 9 (symv 5), symv 6),
    (.bin .neq 9 (symv 6) (strV [102, 97, 100, 101]), .bool true)]
def C32 : List (FuncId × List Value × Value) := []
theorem e47 : endVal Tryd.prog Tryd.f44 (ops' 101 F32 C32 pr0 po0 pk0 { sl := hp0, ms := [], A := mkAS bk0 }) = some (.tuple ⟨[.agg ⟨[strV [], .bool false, .bool false, .bool false, .int .i64 0, .int .i64 0, .int .i64 0, .int .i64 0]⟩, .bool false]⟩) := by kernel_rfl
def F33 : List (FOp × Value) := [(.len #[68] 3 (symv 1), symv 2),
    (.bin .neq 3 (symv 2) (.int .i64 4), .bool true),
    (.bin .neq 3 (symv 2) (.int .i64 8), .bool true)]
def C33 : List (FuncId × List Value × Value) := []
theorem e48 : endVal Tryd.prog Tryd.f44 (ops' 101 F33 C33 pr0 po0 pk0 { sl := hp0, ms := [], A := mkAS bk0 }) = some (.tuple ⟨[.agg ⟨[strV [], .bool false, .bool false, .bool false, .int .i64 0, .int .i64 0, .int .i64 0, .int .i64 0]⟩, .bool false]⟩) := by kernel_rfl
@[reducible] noncomputable def vL (t : Bs) (b0 : List Bs) (a0 : Option Addr) (c0 : Nat) : List Value := [strV t, .slice a0 b0.length c0, .int .i64 ((b0.length : Nat) : Int), cellPtr (.slice a0 b0.length c0) (0 * 1), strV (b0.getD (0) default), cellPtr (.slice a0 b0.length c0) (2 * 1), strV (b0.getD (2) default), cellPtr (.slice a0 b0.length c0) (3 * 1), strV (b0.getD (3) default), .int .i64 (rnumF (b0.getD (3) default)), cellPtr (.slice a0 b0.length c0) (1 * 1), strV (b0.getD (1) default), cellPtr (.slice a0 b0.length c0) (4 * 1), strV (b0.getD (4) default), cellPtr (.slice a0 b0.length c0) (5 * 1), strV (b0.getD (5) default), .int .i64 (rnumF (b0.getD (5) default)), cellPtr (.slice a0 b0.length c0) (6 * 1), strV (b0.getD (6) default), .int .i64 (rnumF (b0.getD (6) default)), cellPtr (.slice a0 b0.length c0) (7 * 1), strV (b0.getD (7) default), .int .i64 (rnumF (b0.getD (7) default))]
@[reducible] noncomputable def sg (M : Mem) (t : Bs) (b0 : List Bs) (a0 : Option Addr) (c0 : Nat) : Sig := sgL M (vL t b0 a0 c0)
set_option maxHeartbeats 4000000 in
theorem any (W : World) (t : Bs) (hlen : t.length ≤ 100000) : Calls Tryd.prog 44 #[strV t] W fun e w' => e = .returned (.tuple #[M.val (rmatF t).1, .bool (rmatF t).2]) ∧ Low W.heap.size W w' := by
  refine @walk_enter (sg (heapOf W) t [] none 0) Tryd.prog 44 Tryd.f44 body [symv 0] (slots [(0, symv 0)]) N W _ Tryd.func44 (by kernel_rfl) (by kernel_rfl) (by kernel_rfl) (by kernel_rfl) (immW_sgL W _) fun a hh => ?_
  letI := (sg (heapOf W) t [] none 0)
  refine walk_to (F := F0) (T := C0) (fuel := 1000) (d := 10) mixed aFn aCn ?_ hh
  obtain ⟨b0, hb0⟩ : ∃ b0 : List Bs, b0 = (splL 32 t) := ⟨_, rfl⟩
  refine ostop_callT (Y := Option Addr × Nat) (vals2 := fun yV => (vL t b0 yV.1 yV.2)) (T := none) (R := fun y M' => OArr W.heap.size M' elT 1 encT (.slice y.1 b0.length y.2) b0 ∧ Keeps (heapOf W) M' none) e0 e1 e2 rfl (fun w hw hB => by subst hb0; exact newOf hw hB (fun y M' => rfl) (con_rwords (by omega))) (fun _ _ _ => meet_nil) ?_
  intro M0 ⟨a0, c0⟩ hR0 aC w hh
  obtain ⟨hO0, hK0⟩ := hR0
  have hcp0 := hO0.cap
  have hM0 := hK0.up (fun _ h => by cases h) (Nat.le_refl _) (fun _ _ h => h)
  letI := (sg M0 t b0 a0 c0)
  by_cases p0 : ((b0.length : Nat) : Int) = 4
  · by_cases p1 : (b0.getD (0) default) = ([] : Bs)
    · refine walk_opsE e3 e4 e5 (F := F1) (T := C1) (fuel := 1000) (d := 10) mixed (aFc (FactOk.arrLen (hO0.arr hkT) rfl rfl underTl rfl rfl) (aFc (FactOk.bi rfl rfl rfl rfl rfl rfl (nboolF (by omega))) (aFc (FactOk.arrIxa (hO0.arr hkT) (show 0 < b0.length by omega) rfl rfl rfl underTl sizeT rfl rfl rfl) (aFc (FactOk.arrLd1 (j := 0) (hO0.arr hkT) (getSome (show 0 < b0.length by omega)) rfl rfl aggStr rfl rfl rfl rfl) (aFc (FactOk.strEqT rfl rfl rfl rfl p1) aFn))))) aCn ?_ hh
      exact ostop_end e6 fun w2 hLow hIn => ⟨(by rw [show rmatF t = rmatW b0 by rw [hb0]; rfl]; clear hb0 hIn hLow hh hO0 hK0 hM0 hcp0; have hx : rmatW b0 = rmatW b0 := rfl; (conv at hx => (rhs; unfold rmatW rkind wz)); (first | (have hl : b0.length = 4 := (by omega); simp [*, -List.getD_eq_getElem?_getD, -Prod.mk.injEq] at hx) | (have hl : b0.length = 8 := (by omega); simp [*, -List.getD_eq_getElem?_getD, -Prod.mk.injEq] at hx) | (have hl : ¬ b0.length = 4 := (by omega); have hl8 : ¬ b0.length = 8 := (by omega); simp [*, -List.getD_eq_getElem?_getD, -Prod.mk.injEq] at hx)); rw [hx]; rfl), hLow⟩
    · by_cases p2 : (b0.getD (2) default) = ([102, 97, 100, 101] : Bs)
      · by_cases p3 : (b0.getD (1) default) = ([103, 97, 115] : Bs)
        · by_cases p4 : (rnumF (b0.getD (3) default)) < 0
          · refine walk_opsE e3 e4 e5 (F := F2) (T := C2) (fuel := 1000) (d := 10) mixed (aFc (FactOk.arrLen (hO0.arr hkT) rfl rfl underTl rfl rfl) (aFc (FactOk.bi rfl rfl rfl rfl rfl rfl (nboolF (by omega))) (aFc (FactOk.arrIxa (hO0.arr hkT) (show 0 < b0.length by omega) rfl rfl rfl underTl sizeT rfl rfl rfl) (aFc (FactOk.arrLd1 (j := 0) (hO0.arr hkT) (getSome (show 0 < b0.length by omega)) rfl rfl aggStr rfl rfl rfl rfl) (aFc (FactOk.strEqF rfl rfl rfl rfl p1) (aFc (FactOk.arrIxa (hO0.arr hkT) (show 2 < b0.length by omega) rfl rfl rfl underTl sizeT rfl rfl rfl) (aFc (FactOk.arrLd1 (j := 0) (hO0.arr hkT) (getSome (show 2 < b0.length by omega)) rfl rfl aggStr rfl rfl rfl rfl) (aFc (FactOk.strNeT rfl rfl rfl rfl p2) (aFc (FactOk.arrIxa (hO0.arr hkT) (show 3 < b0.length by omega) rfl rfl rfl underTl sizeT rfl rfl rfl) (aFc (FactOk.arrLd1 (j := 0) (hO0.arr hkT) (getSome (show 3 < b0.length by omega)) rfl rfl aggStr rfl rfl rfl rfl) (aFc (FactOk.arrIxa (hO0.arr hkT) (show 1 < b0.length by omega) rfl rfl rfl underTl sizeT rfl rfl rfl) (aFc (FactOk.arrLd1 (j := 0) (hO0.arr hkT) (getSome (show 1 < b0.length by omega)) rfl rfl aggStr rfl rfl rfl rfl) (aFc (FactOk.strEqT rfl rfl rfl rfl p3) (aFc (FactOk.bi rfl rfl rfl rfl rfl rfl (boolT (by omega))) aFn)))))))))))))) (aCc (callRNum rfl rfl rfl rfl) aCn) ?_ hh
            exact ostop_end e7 fun w2 hLow hIn => ⟨(by rw [show rmatF t = rmatW b0 by rw [hb0]; rfl]; clear hb0 hIn hLow hh hO0 hK0 hM0 hcp0; have hx : rmatW b0 = rmatW b0 := rfl; (conv at hx => (rhs; unfold rmatW rkind wz)); (first | (have hl : b0.length = 4 := (by omega); simp [*, -List.getD_eq_getElem?_getD, -Prod.mk.injEq] at hx) | (have hl : b0.length = 8 := (by omega); simp [*, -List.getD_eq_getElem?_getD, -Prod.mk.injEq] at hx) | (have hl : ¬ b0.length = 4 := (by omega); have hl8 : ¬ b0.length = 8 := (by omega); simp [*, -List.getD_eq_getElem?_getD, -Prod.mk.injEq] at hx)); rw [hx]; rfl), hLow⟩
          · refine walk_opsE e3 e4 e5 (F := F3) (T := C3) (fuel := 1000) (d := 10) mixed (aFc (FactOk.arrLen (hO0.arr hkT) rfl rfl underTl rfl rfl) (aFc (FactOk.bi rfl rfl rfl rfl rfl rfl (nboolF (by omega))) (aFc (FactOk.arrIxa (hO0.arr hkT) (show 0 < b0.length by omega) rfl rfl rfl underTl sizeT rfl rfl rfl) (aFc (FactOk.arrLd1 (j := 0) (hO0.arr hkT) (getSome (show 0 < b0.length by omega)) rfl rfl aggStr rfl rfl rfl rfl) (aFc (FactOk.strEqF rfl rfl rfl rfl p1) (aFc (FactOk.arrIxa (hO0.arr hkT) (show 2 < b0.length by omega) rfl rfl rfl underTl sizeT rfl rfl rfl) (aFc (FactOk.arrLd1 (j := 0) (hO0.arr hkT) (getSome (show 2 < b0.length by omega)) rfl rfl aggStr rfl rfl rfl rfl) (aFc (FactOk.strNeT rfl rfl rfl rfl p2) (aFc (FactOk.arrIxa (hO0.arr hkT) (show 3 < b0.length by omega) rfl rfl rfl underTl sizeT rfl rfl rfl) (aFc (FactOk.arrLd1 (j := 0) (hO0.arr hkT) (getSome (show 3 < b0.length by omega)) rfl rfl aggStr rfl rfl rfl rfl) (aFc (FactOk.arrIxa (hO0.arr hkT) (show 1 < b0.length by omega) rfl rfl rfl underTl sizeT rfl rfl rfl) (aFc (FactOk.arrLd1 (j := 0) (hO0.arr hkT) (getSome (show 1 < b0.length by omega)) rfl rfl aggStr rfl rfl rfl rfl) (aFc (FactOk.strEqT rfl rfl rfl rfl p3) (aFc (FactOk.bi rfl rfl rfl rfl rfl rfl (boolF (by omega))) (aFc (FactOk.bi rfl rfl rfl rfl rfl rfl (boolF (by omega))) aFn))))))))))))))) (aCc (callRNum rfl rfl rfl rfl) aCn) ?_ hh
            refine walk_unroll (m := 5) (F := F4) (T := C4) (fuel := 1000) (d := 10) mixed (aFc (FactOk.arrLen (hO0.arr hkT) rfl rfl underTl rfl rfl) (aFc (FactOk.bi rfl rfl rfl rfl rfl rfl (boolF (by omega))) (aFc (FactOk.bi rfl rfl rfl rfl rfl rfl (boolT (by omega))) aFn))) aCn ?_
            exact ostop_end e8 fun w2 hLow hIn => ⟨(by rw [show rmatF t = rmatW b0 by rw [hb0]; rfl]; clear hb0 hIn hLow hh hO0 hK0 hM0 hcp0; have hx : rmatW b0 = rmatW b0 := rfl; (conv at hx => (rhs; unfold rmatW rkind wz)); (first | (have hl : b0.length = 4 := (by omega); simp [*, -List.getD_eq_getElem?_getD, -Prod.mk.injEq] at hx) | (have hl : b0.length = 8 := (by omega); simp [*, -List.getD_eq_getElem?_getD, -Prod.mk.injEq] at hx) | (have hl : ¬ b0.length = 4 := (by omega); have hl8 : ¬ b0.length = 8 := (by omega); simp [*, -List.getD_eq_getElem?_getD, -Prod.mk.injEq] at hx)); rw [hx]; first | rfl | (have e := p3; simp only [Prod.mk.injEq] at e; show Ending.returned (.tuple #[.agg ⟨[strV (b0.getD 0 default), .bool _, .bool _, .bool _, .int .i64 (rnumF (b0.getD 3 default)), .int .i64 (rnumF (b0.getD 5 default)), .int .i64 (rnumF (b0.getD 6 default)), .int .i64 (rnumF (b0.getD 7 default))]⟩, .bool false]) = _; rw [e.1, e.2.1, e.2.2]; rfl)), hLow⟩
        · by_cases p4 : (b0.getD (1) default) = ([115, 111, 108, 105, 100] : Bs)
          · by_cases p5 : (rnumF (b0.getD (3) default)) < 0
            · refine walk_opsE e3 e4 e5 (F := F5) (T := C5) (fuel := 1000) (d := 10) mixed (aFc (FactOk.arrLen (hO0.arr hkT) rfl rfl underTl rfl rfl) (aFc (FactOk.bi rfl rfl rfl rfl rfl rfl (nboolF (by omega))) (aFc (FactOk.arrIxa (hO0.arr hkT) (show 0 < b0.length by omega) rfl rfl rfl underTl sizeT rfl rfl rfl) (aFc (FactOk.arrLd1 (j := 0) (hO0.arr hkT) (getSome (show 0 < b0.length by omega)) rfl rfl aggStr rfl rfl rfl rfl) (aFc (FactOk.strEqF rfl rfl rfl rfl p1) (aFc (FactOk.arrIxa (hO0.arr hkT) (show 2 < b0.length by omega) rfl rfl rfl underTl sizeT rfl rfl rfl) (aFc (FactOk.arrLd1 (j := 0) (hO0.arr hkT) (getSome (show 2 < b0.length by omega)) rfl rfl aggStr rfl rfl rfl rfl) (aFc (FactOk.strNeT rfl rfl rfl rfl p2) (aFc (FactOk.arrIxa (hO0.arr hkT) (show 3 < b0.length by omega) rfl rfl rfl underTl sizeT rfl rfl rfl) (aFc (FactOk.arrLd1 (j := 0) (hO0.arr hkT) (getSome (show 3 < b0.length by omega)) rfl rfl aggStr rfl rfl rfl rfl) (aFc (FactOk.arrIxa (hO0.arr hkT) (show 1 < b0.length by omega) rfl rfl rfl underTl sizeT rfl rfl rfl) (aFc (FactOk.arrLd1 (j := 0) (hO0.arr hkT) (getSome (show 1 < b0.length by omega)) rfl rfl aggStr rfl rfl rfl rfl) (aFc (FactOk.strEqF rfl rfl rfl rfl p3) (aFc (FactOk.strEqT rfl rfl rfl rfl p4) (aFc (FactOk.bi rfl rfl rfl rfl rfl rfl (boolT (by omega))) aFn))))))))))))))) (aCc (callRNum rfl rfl rfl rfl) aCn) ?_ hh
              exact ostop_end e9 fun w2 hLow hIn => ⟨(by rw [show rmatF t = rmatW b0 by rw [hb0]; rfl]; clear hb0 hIn hLow hh hO0 hK0 hM0 hcp0; have hx : rmatW b0 = rmatW b0 := rfl; (conv at hx => (rhs; unfold rmatW rkind wz)); (first | (have hl : b0.length = 4 := (by omega); simp [*, -List.getD_eq_getElem?_getD, -Prod.mk.injEq] at hx) | (have hl : b0.length = 8 := (by omega); simp [*, -List.getD_eq_getElem?_getD, -Prod.mk.injEq] at hx) | (have hl : ¬ b0.length = 4 := (by omega); have hl8 : ¬ b0.length = 8 := (by omega); simp [*, -List.getD_eq_getElem?_getD, -Prod.mk.injEq] at hx)); rw [hx]; rfl), hLow⟩
            · refine walk_opsE e3 e4 e5 (F := F6) (T := C6) (fuel := 1000) (d := 10) mixed (aFc (FactOk.arrLen (hO0.arr hkT) rfl rfl underTl rfl rfl) (aFc (FactOk.bi rfl rfl rfl rfl rfl rfl (nboolF (by omega))) (aFc (FactOk.arrIxa (hO0.arr hkT) (show 0 < b0.length by omega) rfl rfl rfl underTl sizeT rfl rfl rfl) (aFc (FactOk.arrLd1 (j := 0) (hO0.arr hkT) (getSome (show 0 < b0.length by omega)) rfl rfl aggStr rfl rfl rfl rfl) (aFc (FactOk.strEqF rfl rfl rfl rfl p1) (aFc (FactOk.arrIxa (hO0.arr hkT) (show 2 < b0.length by omega) rfl rfl rfl underTl sizeT rfl rfl rfl) (aFc (FactOk.arrLd1 (j := 0) (hO0.arr hkT) (getSome (show 2 < b0.length by omega)) rfl rfl aggStr rfl rfl rfl rfl) (aFc (FactOk.strNeT rfl rfl rfl rfl p2) (aFc (FactOk.arrIxa (hO0.arr hkT) (show 3 < b0.length by omega) rfl rfl rfl underTl sizeT rfl rfl rfl) (aFc (FactOk.arrLd1 (j := 0) (hO0.arr hkT) (getSome (show 3 < b0.length by omega)) rfl rfl aggStr rfl rfl rfl rfl) (aFc (FactOk.arrIxa (hO0.arr hkT) (show 1 < b0.length by omega) rfl rfl rfl underTl sizeT rfl rfl rfl) (aFc (FactOk.arrLd1 (j := 0) (hO0.arr hkT) (getSome (show 1 < b0.length by omega)) rfl rfl aggStr rfl rfl rfl rfl) (aFc (FactOk.strEqF rfl rfl rfl rfl p3) (aFc (FactOk.strEqT rfl rfl rfl rfl p4) (aFc (FactOk.bi rfl rfl rfl rfl rfl rfl (boolF (by omega))) (aFc (FactOk.bi rfl rfl rfl rfl rfl rfl (boolF (by omega))) aFn)))))))))))))))) (aCc (callRNum rfl rfl rfl rfl) aCn) ?_ hh
              refine walk_unroll (m := 5) (F := F4) (T := C4) (fuel := 1000) (d := 10) mixed (aFc (FactOk.arrLen (hO0.arr hkT) rfl rfl underTl rfl rfl) (aFc (FactOk.bi rfl rfl rfl rfl rfl rfl (boolF (by omega))) (aFc (FactOk.bi rfl rfl rfl rfl rfl rfl (boolT (by omega))) aFn))) aCn ?_
              exact ostop_end e10 fun w2 hLow hIn => ⟨(by rw [show rmatF t = rmatW b0 by rw [hb0]; rfl]; clear hb0 hIn hLow hh hO0 hK0 hM0 hcp0; have hx : rmatW b0 = rmatW b0 := rfl; (conv at hx => (rhs; unfold rmatW rkind wz)); (first | (have hl : b0.length = 4 := (by omega); simp [*, -List.getD_eq_getElem?_getD, -Prod.mk.injEq] at hx) | (have hl : b0.length = 8 := (by omega); simp [*, -List.getD_eq_getElem?_getD, -Prod.mk.injEq] at hx) | (have hl : ¬ b0.length = 4 := (by omega); have hl8 : ¬ b0.length = 8 := (by omega); simp [*, -List.getD_eq_getElem?_getD, -Prod.mk.injEq] at hx)); rw [hx]; first | rfl | (have e := p3; simp only [Prod.mk.injEq] at e; show Ending.returned (.tuple #[.agg ⟨[strV (b0.getD 0 default), .bool _, .bool _, .bool _, .int .i64 (rnumF (b0.getD 3 default)), .int .i64 (rnumF (b0.getD 5 default)), .int .i64 (rnumF (b0.getD 6 default)), .int .i64 (rnumF (b0.getD 7 default))]⟩, .bool false]) = _; rw [e.1, e.2.1, e.2.2]; rfl)), hLow⟩
          · by_cases p5 : (b0.getD (1) default) = ([102, 97, 108, 108, 105, 110, 103] : Bs)
            · by_cases p6 : (rnumF (b0.getD (3) default)) < 0
              · refine walk_opsE e3 e4 e5 (F := F7) (T := C7) (fuel := 1000) (d := 10) mixed (aFc (FactOk.arrLen (hO0.arr hkT) rfl rfl underTl rfl rfl) (aFc (FactOk.bi rfl rfl rfl rfl rfl rfl (nboolF (by omega))) (aFc (FactOk.arrIxa (hO0.arr hkT) (show 0 < b0.length by omega) rfl rfl rfl underTl sizeT rfl rfl rfl) (aFc (FactOk.arrLd1 (j := 0) (hO0.arr hkT) (getSome (show 0 < b0.length by omega)) rfl rfl aggStr rfl rfl rfl rfl) (aFc (FactOk.strEqF rfl rfl rfl rfl p1) (aFc (FactOk.arrIxa (hO0.arr hkT) (show 2 < b0.length by omega) rfl rfl rfl underTl sizeT rfl rfl rfl) (aFc (FactOk.arrLd1 (j := 0) (hO0.arr hkT) (getSome (show 2 < b0.length by omega)) rfl rfl aggStr rfl rfl rfl rfl) (aFc (FactOk.strNeT rfl rfl rfl rfl p2) (aFc (FactOk.arrIxa (hO0.arr hkT) (show 3 < b0.length by omega) rfl rfl rfl underTl sizeT rfl rfl rfl) (aFc (FactOk.arrLd1 (j := 0) (hO0.arr hkT) (getSome (show 3 < b0.length by omega)) rfl rfl aggStr rfl rfl rfl rfl) (aFc (FactOk.arrIxa (hO0.arr hkT) (show 1 < b0.length by omega) rfl rfl rfl underTl sizeT rfl rfl rfl) (aFc (FactOk.arrLd1 (j := 0) (hO0.arr hkT) (getSome (show 1 < b0.length by omega)) rfl rfl aggStr rfl rfl rfl rfl) (aFc (FactOk.strEqF rfl rfl rfl rfl p3) (aFc (FactOk.strEqF rfl rfl rfl rfl p4) (aFc (FactOk.strEqT rfl rfl rfl rfl p5) (aFc (FactOk.bi rfl rfl rfl rfl rfl rfl (boolT (by omega))) aFn)))))))))))))))) (aCc (callRNum rfl rfl rfl rfl) aCn) ?_ hh
                exact ostop_end e11 fun w2 hLow hIn => ⟨(by rw [show rmatF t = rmatW b0 by rw [hb0]; rfl]; clear hb0 hIn hLow hh hO0 hK0 hM0 hcp0; have hx : rmatW b0 = rmatW b0 := rfl; (conv at hx => (rhs; unfold rmatW rkind wz)); (first | (have hl : b0.length = 4 := (by omega); simp [*, -List.getD_eq_getElem?_getD, -Prod.mk.injEq] at hx) | (have hl : b0.length = 8 := (by omega); simp [*, -List.getD_eq_getElem?_getD, -Prod.mk.injEq] at hx) | (have hl : ¬ b0.length = 4 := (by omega); have hl8 : ¬ b0.length = 8 := (by omega); simp [*, -List.getD_eq_getElem?_getD, -Prod.mk.injEq] at hx)); rw [hx]; rfl), hLow⟩
              · refine walk_opsE e3 e4 e5 (F := F8) (T := C8) (fuel := 1000) (d := 10) mixed (aFc (FactOk.arrLen (hO0.arr hkT) rfl rfl underTl rfl rfl) (aFc (FactOk.bi rfl rfl rfl rfl rfl rfl (nboolF (by omega))) (aFc (FactOk.arrIxa (hO0.arr hkT) (show 0 < b0.length by omega) rfl rfl rfl underTl sizeT rfl rfl rfl) (aFc (FactOk.arrLd1 (j := 0) (hO0.arr hkT) (getSome (show 0 < b0.length by omega)) rfl rfl aggStr rfl rfl rfl rfl) (aFc (FactOk.strEqF rfl rfl rfl rfl p1) (aFc (FactOk.arrIxa (hO0.arr hkT) (show 2 < b0.length by omega) rfl rfl rfl underTl sizeT rfl rfl rfl) (aFc (FactOk.arrLd1 (j := 0) (hO0.arr hkT) (getSome (show 2 < b0.length by omega)) rfl rfl aggStr rfl rfl rfl rfl) (aFc (FactOk.strNeT rfl rfl rfl rfl p2) (aFc (FactOk.arrIxa (hO0.arr hkT) (show 3 < b0.length by omega) rfl rfl rfl underTl sizeT rfl rfl rfl) (aFc (FactOk.arrLd1 (j := 0) (hO0.arr hkT) (getSome (show 3 < b0.length by omega)) rfl rfl aggStr rfl rfl rfl rfl) (aFc (FactOk.arrIxa (hO0.arr hkT) (show 1 < b0.length by omega) rfl rfl rfl underTl sizeT rfl rfl rfl) (aFc (FactOk.arrLd1 (j := 0) (hO0.arr hkT) (getSome (show 1 < b0.length by omega)) rfl rfl aggStr rfl rfl rfl rfl) (aFc (FactOk.strEqF rfl rfl rfl rfl p3) (aFc (FactOk.strEqF rfl rfl rfl rfl p4) (aFc (FactOk.strEqT rfl rfl rfl rfl p5) (aFc (FactOk.bi rfl rfl rfl rfl rfl rfl (boolF (by omega))) (aFc (FactOk.bi rfl rfl rfl rfl rfl rfl (boolF (by omega))) aFn))))))))))))))))) (aCc (callRNum rfl rfl rfl rfl) aCn) ?_ hh
                refine walk_unroll (m := 5) (F := F4) (T := C4) (fuel := 1000) (d := 10) mixed (aFc (FactOk.arrLen (hO0.arr hkT) rfl rfl underTl rfl rfl) (aFc (FactOk.bi rfl rfl rfl rfl rfl rfl (boolF (by omega))) (aFc (FactOk.bi rfl rfl rfl rfl rfl rfl (boolT (by omega))) aFn))) aCn ?_
                exact ostop_end e12 fun w2 hLow hIn => ⟨(by rw [show rmatF t = rmatW b0 by rw [hb0]; rfl]; clear hb0 hIn hLow hh hO0 hK0 hM0 hcp0; have hx : rmatW b0 = rmatW b0 := rfl; (conv at hx => (rhs; unfold rmatW rkind wz)); (first | (have hl : b0.length = 4 := (by omega); simp [*, -List.getD_eq_getElem?_getD, -Prod.mk.injEq] at hx) | (have hl : b0.length = 8 := (by omega); simp [*, -List.getD_eq_getElem?_getD, -Prod.mk.injEq] at hx) | (have hl : ¬ b0.length = 4 := (by omega); have hl8 : ¬ b0.length = 8 := (by omega); simp [*, -List.getD_eq_getElem?_getD, -Prod.mk.injEq] at hx)); rw [hx]; first | rfl | (have e := p3; simp only [Prod.mk.injEq] at e; show Ending.returned (.tuple #[.agg ⟨[strV (b0.getD 0 default), .bool _, .bool _, .bool _, .int .i64 (rnumF (b0.getD 3 default)), .int .i64 (rnumF (b0.getD 5 default)), .int .i64 (rnumF (b0.getD 6 default)), .int .i64 (rnumF (b0.getD 7 default))]⟩, .bool false]) = _; rw [e.1, e.2.1, e.2.2]; rfl)), hLow⟩
            · by_cases p6 : (b0.getD (1) default) = ([108, 105, 113, 117, 105, 100] : Bs)
              · by_cases p7 : (rnumF (b0.getD (3) default)) < 0
                · refine walk_opsE e3 e4 e5 (F := F9) (T := C9) (fuel := 1000) (d := 10) mixed (aFc (FactOk.arrLen (hO0.arr hkT) rfl rfl underTl rfl rfl) (aFc (FactOk.bi rfl rfl rfl rfl rfl rfl (nboolF (by omega))) (aFc (FactOk.arrIxa (hO0.arr hkT) (show 0 < b0.length by omega) rfl rfl rfl underTl sizeT rfl rfl rfl) (aFc (FactOk.arrLd1 (j := 0) (hO0.arr hkT) (getSome (show 0 < b0.length by omega)) rfl rfl aggStr rfl rfl rfl rfl) (aFc (FactOk.strEqF rfl rfl rfl rfl p1) (aFc (FactOk.arrIxa (hO0.arr hkT) (show 2 < b0.length by omega) rfl rfl rfl underTl sizeT rfl rfl rfl) (aFc (FactOk.arrLd1 (j := 0) (hO0.arr hkT) (getSome (show 2 < b0.length by omega)) rfl rfl aggStr rfl rfl rfl rfl) (aFc (FactOk.strNeT rfl rfl rfl rfl p2) (aFc (FactOk.arrIxa (hO0.arr hkT) (show 3 < b0.length by omega) rfl rfl rfl underTl sizeT rfl rfl rfl) (aFc (FactOk.arrLd1 (j := 0) (hO0.arr hkT) (getSome (show 3 < b0.length by omega)) rfl rfl aggStr rfl rfl rfl rfl) (aFc (FactOk.arrIxa (hO0.arr hkT) (show 1 < b0.length by omega) rfl rfl rfl underTl sizeT rfl rfl rfl) (aFc (FactOk.arrLd1 (j := 0) (hO0.arr hkT) (getSome (show 1 < b0.length by omega)) rfl rfl aggStr rfl rfl rfl rfl) (aFc (FactOk.strEqF rfl rfl rfl rfl p3) (aFc (FactOk.strEqF rfl rfl rfl rfl p4) (aFc (FactOk.strEqF rfl rfl rfl rfl p5) (aFc (FactOk.strEqT rfl rfl rfl rfl p6) (aFc (FactOk.bi rfl rfl rfl rfl rfl rfl (boolT (by omega))) aFn))))))))))))))))) (aCc (callRNum rfl rfl rfl rfl) aCn) ?_ hh
                  exact ostop_end e13 fun w2 hLow hIn => ⟨(by rw [show rmatF t = rmatW b0 by rw [hb0]; rfl]; clear hb0 hIn hLow hh hO0 hK0 hM0 hcp0; have hx : rmatW b0 = rmatW b0 := rfl; (conv at hx => (rhs; unfold rmatW rkind wz)); (first | (have hl : b0.length = 4 := (by omega); simp [*, -List.getD_eq_getElem?_getD, -Prod.mk.injEq] at hx) | (have hl : b0.length = 8 := (by omega); simp [*, -List.getD_eq_getElem?_getD, -Prod.mk.injEq] at hx) | (have hl : ¬ b0.length = 4 := (by omega); have hl8 : ¬ b0.length = 8 := (by omega); simp [*, -List.getD_eq_getElem?_getD, -Prod.mk.injEq] at hx)); rw [hx]; rfl), hLow⟩
                · refine walk_opsE e3 e4 e5 (F := F10) (T := C10) (fuel := 1000) (d := 10) mixed (aFc (FactOk.arrLen (hO0.arr hkT) rfl rfl underTl rfl rfl) (aFc (FactOk.bi rfl rfl rfl rfl rfl rfl (nboolF (by omega))) (aFc (FactOk.arrIxa (hO0.arr hkT) (show 0 < b0.length by omega) rfl rfl rfl underTl sizeT rfl rfl rfl) (aFc (FactOk.arrLd1 (j := 0) (hO0.arr hkT) (getSome (show 0 < b0.length by omega)) rfl rfl aggStr rfl rfl rfl rfl) (aFc (FactOk.strEqF rfl rfl rfl rfl p1) (aFc (FactOk.arrIxa (hO0.arr hkT) (show 2 < b0.length by omega) rfl rfl rfl underTl sizeT rfl rfl rfl) (aFc (FactOk.arrLd1 (j := 0) (hO0.arr hkT) (getSome (show 2 < b0.length by omega)) rfl rfl aggStr rfl rfl rfl rfl) (aFc (FactOk.strNeT rfl rfl rfl rfl p2) (aFc (FactOk.arrIxa (hO0.arr hkT) (show 3 < b0.length by omega) rfl rfl rfl underTl sizeT rfl rfl rfl) (aFc (FactOk.arrLd1 (j := 0) (hO0.arr hkT) (getSome (show 3 < b0.length by omega)) rfl rfl aggStr rfl rfl rfl rfl) (aFc (FactOk.arrIxa (hO0.arr hkT) (show 1 < b0.length by omega) rfl rfl rfl underTl sizeT rfl rfl rfl) (aFc (FactOk.arrLd1 (j := 0) (hO0.arr hkT) (getSome (show 1 < b0.length by omega)) rfl rfl aggStr rfl rfl rfl rfl) (aFc (FactOk.strEqF rfl rfl rfl rfl p3) (aFc (FactOk.strEqF rfl rfl rfl rfl p4) (aFc (FactOk.strEqF rfl rfl rfl rfl p5) (aFc (FactOk.strEqT rfl rfl rfl rfl p6) (aFc (FactOk.bi rfl rfl rfl rfl rfl rfl (boolF (by omega))) (aFc (FactOk.bi rfl rfl rfl rfl rfl rfl (boolF (by omega))) aFn)))))))))))))))))) (aCc (callRNum rfl rfl rfl rfl) aCn) ?_ hh
                  refine walk_unroll (m := 5) (F := F4) (T := C4) (fuel := 1000) (d := 10) mixed (aFc (FactOk.arrLen (hO0.arr hkT) rfl rfl underTl rfl rfl) (aFc (FactOk.bi rfl rfl rfl rfl rfl rfl (boolF (by omega))) (aFc (FactOk.bi rfl rfl rfl rfl rfl rfl (boolT (by omega))) aFn))) aCn ?_
                  exact ostop_end e14 fun w2 hLow hIn => ⟨(by rw [show rmatF t = rmatW b0 by rw [hb0]; rfl]; clear hb0 hIn hLow hh hO0 hK0 hM0 hcp0; have hx : rmatW b0 = rmatW b0 := rfl; (conv at hx => (rhs; unfold rmatW rkind wz)); (first | (have hl : b0.length = 4 := (by omega); simp [*, -List.getD_eq_getElem?_getD, -Prod.mk.injEq] at hx) | (have hl : b0.length = 8 := (by omega); simp [*, -List.getD_eq_getElem?_getD, -Prod.mk.injEq] at hx) | (have hl : ¬ b0.length = 4 := (by omega); have hl8 : ¬ b0.length = 8 := (by omega); simp [*, -List.getD_eq_getElem?_getD, -Prod.mk.injEq] at hx)); rw [hx]; first | rfl | (have e := p3; simp only [Prod.mk.injEq] at e; show Ending.returned (.tuple #[.agg ⟨[strV (b0.getD 0 default), .bool _, .bool _, .bool _, .int .i64 (rnumF (b0.getD 3 default)), .int .i64 (rnumF (b0.getD 5 default)), .int .i64 (rnumF (b0.getD 6 default)), .int .i64 (rnumF (b0.getD 7 default))]⟩, .bool false]) = _; rw [e.1, e.2.1, e.2.2]; rfl)), hLow⟩
              · refine walk_opsE e3 e4 e5 (F := F11) (T := C11) (fuel := 1000) (d := 10) mixed (aFc (FactOk.arrLen (hO0.arr hkT) rfl rfl underTl rfl rfl) (aFc (FactOk.bi rfl rfl rfl rfl rfl rfl (nboolF (by omega))) (aFc (FactOk.arrIxa (hO0.arr hkT) (show 0 < b0.length by omega) rfl rfl rfl underTl sizeT rfl rfl rfl) (aFc (FactOk.arrLd1 (j := 0) (hO0.arr hkT) (getSome (show 0 < b0.length by omega)) rfl rfl aggStr rfl rfl rfl rfl) (aFc (FactOk.strEqF rfl rfl rfl rfl p1) (aFc (FactOk.arrIxa (hO0.arr hkT) (show 2 < b0.length by omega) rfl rfl rfl underTl sizeT rfl rfl rfl) (aFc (FactOk.arrLd1 (j := 0) (hO0.arr hkT) (getSome (show 2 < b0.length by omega)) rfl rfl aggStr rfl rfl rfl rfl) (aFc (FactOk.strNeT rfl rfl rfl rfl p2) (aFc (FactOk.arrIxa (hO0.arr hkT) (show 3 < b0.length by omega) rfl rfl rfl underTl sizeT rfl rfl rfl) (aFc (FactOk.arrLd1 (j := 0) (hO0.arr hkT) (getSome (show 3 < b0.length by omega)) rfl rfl aggStr rfl rfl rfl rfl) (aFc (FactOk.arrIxa (hO0.arr hkT) (show 1 < b0.length by omega) rfl rfl rfl underTl sizeT rfl rfl rfl) (aFc (FactOk.arrLd1 (j := 0) (hO0.arr hkT) (getSome (show 1 < b0.length by omega)) rfl rfl aggStr rfl rfl rfl rfl) (aFc (FactOk.strEqF rfl rfl rfl rfl p3) (aFc (FactOk.strEqF rfl rfl rfl rfl p4) (aFc (FactOk.strEqF rfl rfl rfl rfl p5) (aFc (FactOk.strEqF rfl rfl rfl rfl p6) aFn)))))))))))))))) (aCc (callRNum rfl rfl rfl rfl) aCn) ?_ hh
                exact ostop_end e15 fun w2 hLow hIn => ⟨(by rw [show rmatF t = rmatW b0 by rw [hb0]; rfl]; clear hb0 hIn hLow hh hO0 hK0 hM0 hcp0; have hx : rmatW b0 = rmatW b0 := rfl; (conv at hx => (rhs; unfold rmatW rkind wz)); (first | (have hl : b0.length = 4 := (by omega); simp [*, -List.getD_eq_getElem?_getD, -Prod.mk.injEq] at hx) | (have hl : b0.length = 8 := (by omega); simp [*, -List.getD_eq_getElem?_getD, -Prod.mk.injEq] at hx) | (have hl : ¬ b0.length = 4 := (by omega); have hl8 : ¬ b0.length = 8 := (by omega); simp [*, -List.getD_eq_getElem?_getD, -Prod.mk.injEq] at hx)); rw [hx]; rfl), hLow⟩
      · refine walk_opsE e3 e4 e5 (F := F12) (T := C12) (fuel := 1000) (d := 10) mixed (aFc (FactOk.arrLen (hO0.arr hkT) rfl rfl underTl rfl rfl) (aFc (FactOk.bi rfl rfl rfl rfl rfl rfl (nboolF (by omega))) (aFc (FactOk.arrIxa (hO0.arr hkT) (show 0 < b0.length by omega) rfl rfl rfl underTl sizeT rfl rfl rfl) (aFc (FactOk.arrLd1 (j := 0) (hO0.arr hkT) (getSome (show 0 < b0.length by omega)) rfl rfl aggStr rfl rfl rfl rfl) (aFc (FactOk.strEqF rfl rfl rfl rfl p1) (aFc (FactOk.arrIxa (hO0.arr hkT) (show 2 < b0.length by omega) rfl rfl rfl underTl sizeT rfl rfl rfl) (aFc (FactOk.arrLd1 (j := 0) (hO0.arr hkT) (getSome (show 2 < b0.length by omega)) rfl rfl aggStr rfl rfl rfl rfl) (aFc (FactOk.strNeF rfl rfl rfl rfl p2) aFn)))))))) aCn ?_ hh
        exact ostop_end e16 fun w2 hLow hIn => ⟨(by rw [show rmatF t = rmatW b0 by rw [hb0]; rfl]; clear hb0 hIn hLow hh hO0 hK0 hM0 hcp0; have hx : rmatW b0 = rmatW b0 := rfl; (conv at hx => (rhs; unfold rmatW rkind wz)); (first | (have hl : b0.length = 4 := (by omega); simp [*, -List.getD_eq_getElem?_getD, -Prod.mk.injEq] at hx) | (have hl : b0.length = 8 := (by omega); simp [*, -List.getD_eq_getElem?_getD, -Prod.mk.injEq] at hx) | (have hl : ¬ b0.length = 4 := (by omega); have hl8 : ¬ b0.length = 8 := (by omega); simp [*, -List.getD_eq_getElem?_getD, -Prod.mk.injEq] at hx)); rw [hx]; rfl), hLow⟩
  · by_cases p1 : ((b0.length : Nat) : Int) = 8
    · by_cases p2 : (b0.getD (0) default) = ([] : Bs)
      · refine walk_opsE e3 e4 e5 (F := F13) (T := C13) (fuel := 1000) (d := 10) mixed (aFc (FactOk.arrLen (hO0.arr hkT) rfl rfl underTl rfl rfl) (aFc (FactOk.bi rfl rfl rfl rfl rfl rfl (nboolT (by omega))) (aFc (FactOk.bi rfl rfl rfl rfl rfl rfl (nboolF (by omega))) (aFc (FactOk.arrIxa (hO0.arr hkT) (show 0 < b0.length by omega) rfl rfl rfl underTl sizeT rfl rfl rfl) (aFc (FactOk.arrLd1 (j := 0) (hO0.arr hkT) (getSome (show 0 < b0.length by omega)) rfl rfl aggStr rfl rfl rfl rfl) (aFc (FactOk.strEqT rfl rfl rfl rfl p2) aFn)))))) aCn ?_ hh
        exact ostop_end e17 fun w2 hLow hIn => ⟨(by rw [show rmatF t = rmatW b0 by rw [hb0]; rfl]; clear hb0 hIn hLow hh hO0 hK0 hM0 hcp0; have hx : rmatW b0 = rmatW b0 := rfl; (conv at hx => (rhs; unfold rmatW rkind wz)); (first | (have hl : b0.length = 4 := (by omega); simp [*, -List.getD_eq_getElem?_getD, -Prod.mk.injEq] at hx) | (have hl : b0.length = 8 := (by omega); simp [*, -List.getD_eq_getElem?_getD, -Prod.mk.injEq] at hx) | (have hl : ¬ b0.length = 4 := (by omega); have hl8 : ¬ b0.length = 8 := (by omega); simp [*, -List.getD_eq_getElem?_getD, -Prod.mk.injEq] at hx)); rw [hx]; rfl), hLow⟩
      · by_cases p3 : (b0.getD (2) default) = ([102, 97, 100, 101] : Bs)
        · by_cases p4 : (b0.getD (1) default) = ([103, 97, 115] : Bs)
          · by_cases p5 : (rnumF (b0.getD (3) default)) < 0
            · refine walk_opsE e3 e4 e5 (F := F14) (T := C14) (fuel := 1000) (d := 10) mixed (aFc (FactOk.arrLen (hO0.arr hkT) rfl rfl underTl rfl rfl) (aFc (FactOk.bi rfl rfl rfl rfl rfl rfl (nboolT (by omega))) (aFc (FactOk.bi rfl rfl rfl rfl rfl rfl (nboolF (by omega))) (aFc (FactOk.arrIxa (hO0.arr hkT) (show 0 < b0.length by omega) rfl rfl rfl underTl sizeT rfl rfl rfl) (aFc (FactOk.arrLd1 (j := 0) (hO0.arr hkT) (getSome (show 0 < b0.length by omega)) rfl rfl aggStr rfl rfl rfl rfl) (aFc (FactOk.strEqF rfl rfl rfl rfl p2) (aFc (FactOk.arrIxa (hO0.arr hkT) (show 2 < b0.length by omega) rfl rfl rfl underTl sizeT rfl rfl rfl) (aFc (FactOk.arrLd1 (j := 0) (hO0.arr hkT) (getSome (show 2 < b0.length by omega)) rfl rfl aggStr rfl rfl rfl rfl) (aFc (FactOk.strNeT rfl rfl rfl rfl p3) (aFc (FactOk.arrIxa (hO0.arr hkT) (show 3 < b0.length by omega) rfl rfl rfl underTl sizeT rfl rfl rfl) (aFc (FactOk.arrLd1 (j := 0) (hO0.arr hkT) (getSome (show 3 < b0.length by omega)) rfl rfl aggStr rfl rfl rfl rfl) (aFc (FactOk.arrIxa (hO0.arr hkT) (show 1 < b0.length by omega) rfl rfl rfl underTl sizeT rfl rfl rfl) (aFc (FactOk.arrLd1 (j := 0) (hO0.arr hkT) (getSome (show 1 < b0.length by omega)) rfl rfl aggStr rfl rfl rfl rfl) (aFc (FactOk.strEqT rfl rfl rfl rfl p4) (aFc (FactOk.bi rfl rfl rfl rfl rfl rfl (boolT (by omega))) aFn))))))))))))))) (aCc (callRNum rfl rfl rfl rfl) aCn) ?_ hh
              exact ostop_end e18 fun w2 hLow hIn => ⟨(by rw [show rmatF t = rmatW b0 by rw [hb0]; rfl]; clear hb0 hIn hLow hh hO0 hK0 hM0 hcp0; have hx : rmatW b0 = rmatW b0 := rfl; (conv at hx => (rhs; unfold rmatW rkind wz)); (first | (have hl : b0.length = 4 := (by omega); simp [*, -List.getD_eq_getElem?_getD, -Prod.mk.injEq] at hx) | (have hl : b0.length = 8 := (by omega); simp [*, -List.getD_eq_getElem?_getD, -Prod.mk.injEq] at hx) | (have hl : ¬ b0.length = 4 := (by omega); have hl8 : ¬ b0.length = 8 := (by omega); simp [*, -List.getD_eq_getElem?_getD, -Prod.mk.injEq] at hx)); rw [hx]; rfl), hLow⟩
            · by_cases p6 : (b0.getD (4) default) = ([101, 109, 105, 116] : Bs)
              · refine walk_opsE e3 e4 e5 (F := F15) (T := C15) (fuel := 1000) (d := 10) mixed (aFc (FactOk.arrLen (hO0.arr hkT) rfl rfl underTl rfl rfl) (aFc (FactOk.bi rfl rfl rfl rfl rfl rfl (nboolT (by omega))) (aFc (FactOk.bi rfl rfl rfl rfl rfl rfl (nboolF (by omega))) (aFc (FactOk.arrIxa (hO0.arr hkT) (show 0 < b0.length by omega) rfl rfl rfl underTl sizeT rfl rfl rfl) (aFc (FactOk.arrLd1 (j := 0) (hO0.arr hkT) (getSome (show 0 < b0.length by omega)) rfl rfl aggStr rfl rfl rfl rfl) (aFc (FactOk.strEqF rfl rfl rfl rfl p2) (aFc (FactOk.arrIxa (hO0.arr hkT) (show 2 < b0.length by omega) rfl rfl rfl underTl sizeT rfl rfl rfl) (aFc (FactOk.arrLd1 (j := 0) (hO0.arr hkT) (getSome (show 2 < b0.length by omega)) rfl rfl aggStr rfl rfl rfl rfl) (aFc (FactOk.strNeT rfl rfl rfl rfl p3) (aFc (FactOk.arrIxa (hO0.arr hkT) (show 3 < b0.length by omega) rfl rfl rfl underTl sizeT rfl rfl rfl) (aFc (FactOk.arrLd1 (j := 0) (hO0.arr hkT) (getSome (show 3 < b0.length by omega)) rfl rfl aggStr rfl rfl rfl rfl) (aFc (FactOk.arrIxa (hO0.arr hkT) (show 1 < b0.length by omega) rfl rfl rfl underTl sizeT rfl rfl rfl) (aFc (FactOk.arrLd1 (j := 0) (hO0.arr hkT) (getSome (show 1 < b0.length by omega)) rfl rfl aggStr rfl rfl rfl rfl) (aFc (FactOk.strEqT rfl rfl rfl rfl p4) (aFc (FactOk.bi rfl rfl rfl rfl rfl rfl (boolF (by omega))) (aFc (FactOk.bi rfl rfl rfl rfl rfl rfl (boolT (by omega))) (aFc (FactOk.arrIxa (hO0.arr hkT) (show 4 < b0.length by omega) rfl rfl rfl underTl sizeT rfl rfl rfl) (aFc (FactOk.arrLd1 (j := 0) (hO0.arr hkT) (getSome (show 4 < b0.length by omega)) rfl rfl aggStr rfl rfl rfl rfl) (aFc (FactOk.strNeT rfl rfl rfl rfl p6) aFn))))))))))))))))))) (aCc (callRNum rfl rfl rfl rfl) aCn) ?_ hh
                by_cases p0 : (rnumF (b0.getD (5) default)) < 0
                · refine walk_unroll (m := 5) (F := F16) (T := C16) (fuel := 1000) (d := 10) mixed (aFc (FactOk.arrLen (hO0.arr hkT) rfl rfl underTl rfl rfl) (aFc (FactOk.bi rfl rfl rfl rfl rfl rfl (boolT (by omega))) (aFc (FactOk.arrIxa (hO0.arr hkT) (show 5 < b0.length by omega) rfl rfl rfl underTl sizeT rfl rfl rfl) (aFc (FactOk.arrLd1 (j := 0) (hO0.arr hkT) (getSome (show 5 < b0.length by omega)) rfl rfl aggStr rfl rfl rfl rfl) (aFc (FactOk.bi rfl rfl rfl rfl rfl rfl (boolT (by omega))) aFn))))) (aCc (callRNum rfl rfl rfl rfl) aCn) ?_
                  exact ostop_end e19 fun w2 hLow hIn => ⟨(by rw [show rmatF t = rmatW b0 by rw [hb0]; rfl]; clear hb0 hIn hLow hh hO0 hK0 hM0 hcp0; have hx : rmatW b0 = rmatW b0 := rfl; (conv at hx => (rhs; unfold rmatW rkind wz)); (first | (have hl : b0.length = 4 := (by omega); simp [*, -List.getD_eq_getElem?_getD, -Prod.mk.injEq] at hx) | (have hl : b0.length = 8 := (by omega); simp [*, -List.getD_eq_getElem?_getD, -Prod.mk.injEq] at hx) | (have hl : ¬ b0.length = 4 := (by omega); have hl8 : ¬ b0.length = 8 := (by omega); simp [*, -List.getD_eq_getElem?_getD, -Prod.mk.injEq] at hx)); rw [hx]; rfl), hLow⟩
                · by_cases p1 : (rnumF (b0.getD (6) default)) < 0
                  · refine walk_unroll (m := 5) (F := F17) (T := C17) (fuel := 1000) (d := 10) mixed (aFc (FactOk.arrLen (hO0.arr hkT) rfl rfl underTl rfl rfl) (aFc (FactOk.bi rfl rfl rfl rfl rfl rfl (boolT (by omega))) (aFc (FactOk.arrIxa (hO0.arr hkT) (show 5 < b0.length by omega) rfl rfl rfl underTl sizeT rfl rfl rfl) (aFc (FactOk.arrLd1 (j := 0) (hO0.arr hkT) (getSome (show 5 < b0.length by omega)) rfl rfl aggStr rfl rfl rfl rfl) (aFc (FactOk.bi rfl rfl rfl rfl rfl rfl (boolF (by omega))) (aFc (FactOk.bi rfl rfl rfl rfl rfl rfl (boolT (by omega))) (aFc (FactOk.arrIxa (hO0.arr hkT) (show 6 < b0.length by omega) rfl rfl rfl underTl sizeT rfl rfl rfl) (aFc (FactOk.arrLd1 (j := 0) (hO0.arr hkT) (getSome (show 6 < b0.length by omega)) rfl rfl aggStr rfl rfl rfl rfl) (aFc (FactOk.bi rfl rfl rfl rfl rfl rfl (boolT (by omega))) aFn))))))))) (aCc (callRNum rfl rfl rfl rfl) (aCc (callRNum rfl rfl rfl rfl) aCn)) ?_
                    exact ostop_end e20 fun w2 hLow hIn => ⟨(by rw [show rmatF t = rmatW b0 by rw [hb0]; rfl]; clear hb0 hIn hLow hh hO0 hK0 hM0 hcp0; have hx : rmatW b0 = rmatW b0 := rfl; (conv at hx => (rhs; unfold rmatW rkind wz)); (first | (have hl : b0.length = 4 := (by omega); simp [*, -List.getD_eq_getElem?_getD, -Prod.mk.injEq] at hx) | (have hl : b0.length = 8 := (by omega); simp [*, -List.getD_eq_getElem?_getD, -Prod.mk.injEq] at hx) | (have hl : ¬ b0.length = 4 := (by omega); have hl8 : ¬ b0.length = 8 := (by omega); simp [*, -List.getD_eq_getElem?_getD, -Prod.mk.injEq] at hx)); rw [hx]; rfl), hLow⟩
                  · by_cases p2 : (rnumF (b0.getD (7) default)) < 0
                    · refine walk_unroll (m := 5) (F := F18) (T := C18) (fuel := 1000) (d := 10) mixed (aFc (FactOk.arrLen (hO0.arr hkT) rfl rfl underTl rfl rfl) (aFc (FactOk.bi rfl rfl rfl rfl rfl rfl (boolT (by omega))) (aFc (FactOk.arrIxa (hO0.arr hkT) (show 5 < b0.length by omega) rfl rfl rfl underTl sizeT rfl rfl rfl) (aFc (FactOk.arrLd1 (j := 0) (hO0.arr hkT) (getSome (show 5 < b0.length by omega)) rfl rfl aggStr rfl rfl rfl rfl) (aFc (FactOk.bi rfl rfl rfl rfl rfl rfl (boolF (by omega))) (aFc (FactOk.bi rfl rfl rfl rfl rfl rfl (boolT (by omega))) (aFc (FactOk.arrIxa (hO0.arr hkT) (show 6 < b0.length by omega) rfl rfl rfl underTl sizeT rfl rfl rfl) (aFc (FactOk.arrLd1 (j := 0) (hO0.arr hkT) (getSome (show 6 < b0.length by omega)) rfl rfl aggStr rfl rfl rfl rfl) (aFc (FactOk.bi rfl rfl rfl rfl rfl rfl (boolF (by omega))) (aFc (FactOk.bi rfl rfl rfl rfl rfl rfl (boolT (by omega))) (aFc (FactOk.arrIxa (hO0.arr hkT) (show 7 < b0.length by omega) rfl rfl rfl underTl sizeT rfl rfl rfl) (aFc (FactOk.arrLd1 (j := 0) (hO0.arr hkT) (getSome (show 7 < b0.length by omega)) rfl rfl aggStr rfl rfl rfl rfl) (aFc (FactOk.bi rfl rfl rfl rfl rfl rfl (boolT (by omega))) aFn))))))))))))) (aCc (callRNum rfl rfl rfl rfl) (aCc (callRNum rfl rfl rfl rfl) (aCc (callRNum rfl rfl rfl rfl) aCn))) ?_
                      exact ostop_end e21 fun w2 hLow hIn => ⟨(by rw [show rmatF t = rmatW b0 by rw [hb0]; rfl]; clear hb0 hIn hLow hh hO0 hK0 hM0 hcp0; have hx : rmatW b0 = rmatW b0 := rfl; (conv at hx => (rhs; unfold rmatW rkind wz)); (first | (have hl : b0.length = 4 := (by omega); simp [*, -List.getD_eq_getElem?_getD, -Prod.mk.injEq] at hx) | (have hl : b0.length = 8 := (by omega); simp [*, -List.getD_eq_getElem?_getD, -Prod.mk.injEq] at hx) | (have hl : ¬ b0.length = 4 := (by omega); have hl8 : ¬ b0.length = 8 := (by omega); simp [*, -List.getD_eq_getElem?_getD, -Prod.mk.injEq] at hx)); rw [hx]; rfl), hLow⟩
                    · by_cases p3 : (((rnumF (b0.getD (5) default)), (rnumF (b0.getD (6) default)), (rnumF (b0.getD (7) default))) : E3) = ((0, 0, 0) : E3)
                      · refine walk_unroll (m := 5) (F := F19) (T := C19) (fuel := 1000) (d := 10) mixed (aFc (FactOk.arrLen (hO0.arr hkT) rfl rfl underTl rfl rfl) (aFc (FactOk.bi rfl rfl rfl rfl rfl rfl (boolT (by omega))) (aFc (FactOk.arrIxa (hO0.arr hkT) (show 5 < b0.length by omega) rfl rfl rfl underTl sizeT rfl rfl rfl) (aFc (FactOk.arrLd1 (j := 0) (hO0.arr hkT) (getSome (show 5 < b0.length by omega)) rfl rfl aggStr rfl rfl rfl rfl) (aFc (FactOk.bi rfl rfl rfl rfl rfl rfl (boolF (by omega))) (aFc (FactOk.bi rfl rfl rfl rfl rfl rfl (boolT (by omega))) (aFc (FactOk.arrIxa (hO0.arr hkT) (show 6 < b0.length by omega) rfl rfl rfl underTl sizeT rfl rfl rfl) (aFc (FactOk.arrLd1 (j := 0) (hO0.arr hkT) (getSome (show 6 < b0.length by omega)) rfl rfl aggStr rfl rfl rfl rfl) (aFc (FactOk.bi rfl rfl rfl rfl rfl rfl (boolF (by omega))) (aFc (FactOk.bi rfl rfl rfl rfl rfl rfl (boolT (by omega))) (aFc (FactOk.arrIxa (hO0.arr hkT) (show 7 < b0.length by omega) rfl rfl rfl underTl sizeT rfl rfl rfl) (aFc (FactOk.arrLd1 (j := 0) (hO0.arr hkT) (getSome (show 7 < b0.length by omega)) rfl rfl aggStr rfl rfl rfl rfl) (aFc (FactOk.bi rfl rfl rfl rfl rfl rfl (boolF (by omega))) (aFc (FactOk.bi rfl rfl rfl rfl rfl rfl (boolF (by omega))) (aFc (FactOk.bi rfl rfl rfl rfl rfl rfl (boolF (by omega))) (aFc (neE rfl rfl rfl rfl (by rw [decide_eq_true p3]; rfl)) aFn)))))))))))))))) (aCc (callRNum rfl rfl rfl rfl) (aCc (callRNum rfl rfl rfl rfl) (aCc (callRNum rfl rfl rfl rfl) aCn))) ?_
                        exact ostop_end e22 fun w2 hLow hIn => ⟨(by rw [show rmatF t = rmatW b0 by rw [hb0]; rfl]; clear hb0 hIn hLow hh hO0 hK0 hM0 hcp0; have hx : rmatW b0 = rmatW b0 := rfl; (conv at hx => (rhs; unfold rmatW rkind wz)); (first | (have hl : b0.length = 4 := (by omega); simp [*, -List.getD_eq_getElem?_getD, -Prod.mk.injEq] at hx) | (have hl : b0.length = 8 := (by omega); simp [*, -List.getD_eq_getElem?_getD, -Prod.mk.injEq] at hx) | (have hl : ¬ b0.length = 4 := (by omega); have hl8 : ¬ b0.length = 8 := (by omega); simp [*, -List.getD_eq_getElem?_getD, -Prod.mk.injEq] at hx)); rw [hx]; first | rfl | (have e := p3; simp only [Prod.mk.injEq] at e; show Ending.returned (.tuple #[.agg ⟨[strV (b0.getD 0 default), .bool _, .bool _, .bool _, .int .i64 (rnumF (b0.getD 3 default)), .int .i64 (rnumF (b0.getD 5 default)), .int .i64 (rnumF (b0.getD 6 default)), .int .i64 (rnumF (b0.getD 7 default))]⟩, .bool false]) = _; rw [e.1, e.2.1, e.2.2]; rfl)), hLow⟩
                      · refine walk_unroll (m := 5) (F := F20) (T := C20) (fuel := 1000) (d := 10) mixed (aFc (FactOk.arrLen (hO0.arr hkT) rfl rfl underTl rfl rfl) (aFc (FactOk.bi rfl rfl rfl rfl rfl rfl (boolT (by omega))) (aFc (FactOk.arrIxa (hO0.arr hkT) (show 5 < b0.length by omega) rfl rfl rfl underTl sizeT rfl rfl rfl) (aFc (FactOk.arrLd1 (j := 0) (hO0.arr hkT) (getSome (show 5 < b0.length by omega)) rfl rfl aggStr rfl rfl rfl rfl) (aFc (FactOk.bi rfl rfl rfl rfl rfl rfl (boolF (by omega))) (aFc (FactOk.bi rfl rfl rfl rfl rfl rfl (boolT (by omega))) (aFc (FactOk.arrIxa (hO0.arr hkT) (show 6 < b0.length by omega) rfl rfl rfl underTl sizeT rfl rfl rfl) (aFc (FactOk.arrLd1 (j := 0) (hO0.arr hkT) (getSome (show 6 < b0.length by omega)) rfl rfl aggStr rfl rfl rfl rfl) (aFc (FactOk.bi rfl rfl rfl rfl rfl rfl (boolF (by omega))) (aFc (FactOk.bi rfl rfl rfl rfl rfl rfl (boolT (by omega))) (aFc (FactOk.arrIxa (hO0.arr hkT) (show 7 < b0.length by omega) rfl rfl rfl underTl sizeT rfl rfl rfl) (aFc (FactOk.arrLd1 (j := 0) (hO0.arr hkT) (getSome (show 7 < b0.length by omega)) rfl rfl aggStr rfl rfl rfl rfl) (aFc (FactOk.bi rfl rfl rfl rfl rfl rfl (boolF (by omega))) (aFc (FactOk.bi rfl rfl rfl rfl rfl rfl (boolF (by omega))) (aFc (FactOk.bi rfl rfl rfl rfl rfl rfl (boolF (by omega))) (aFc (neE rfl rfl rfl rfl (by rw [decide_eq_false p3]; rfl)) aFn)))))))))))))))) (aCc (callRNum rfl rfl rfl rfl) (aCc (callRNum rfl rfl rfl rfl) (aCc (callRNum rfl rfl rfl rfl) aCn))) ?_
                        exact ostop_end e23 fun w2 hLow hIn => ⟨(by rw [show rmatF t = rmatW b0 by rw [hb0]; rfl]; clear hb0 hIn hLow hh hO0 hK0 hM0 hcp0; have hx : rmatW b0 = rmatW b0 := rfl; (conv at hx => (rhs; unfold rmatW rkind wz)); (first | (have hl : b0.length = 4 := (by omega); simp [*, -List.getD_eq_getElem?_getD, -Prod.mk.injEq] at hx) | (have hl : b0.length = 8 := (by omega); simp [*, -List.getD_eq_getElem?_getD, -Prod.mk.injEq] at hx) | (have hl : ¬ b0.length = 4 := (by omega); have hl8 : ¬ b0.length = 8 := (by omega); simp [*, -List.getD_eq_getElem?_getD, -Prod.mk.injEq] at hx)); rw [hx]; first | rfl | (have e := p3; simp only [Prod.mk.injEq] at e; show Ending.returned (.tuple #[.agg ⟨[strV (b0.getD 0 default), .bool _, .bool _, .bool _, .int .i64 (rnumF (b0.getD 3 default)), .int .i64 (rnumF (b0.getD 5 default)), .int .i64 (rnumF (b0.getD 6 default)), .int .i64 (rnumF (b0.getD 7 default))]⟩, .bool false]) = _; rw [e.1, e.2.1, e.2.2]; rfl)), hLow⟩
              · refine walk_opsE e3 e4 e5 (F := F21) (T := C21) (fuel := 1000) (d := 10) mixed (aFc (FactOk.arrLen (hO0.arr hkT) rfl rfl underTl rfl rfl) (aFc (FactOk.bi rfl rfl rfl rfl rfl rfl (nboolT (by omega))) (aFc (FactOk.bi rfl rfl rfl rfl rfl rfl (nboolF (by omega))) (aFc (FactOk.arrIxa (hO0.arr hkT) (show 0 < b0.length by omega) rfl rfl rfl underTl sizeT rfl rfl rfl) (aFc (FactOk.arrLd1 (j := 0) (hO0.arr hkT) (getSome (show 0 < b0.length by omega)) rfl rfl aggStr rfl rfl rfl rfl) (aFc (FactOk.strEqF rfl rfl rfl rfl p2) (aFc (FactOk.arrIxa (hO0.arr hkT) (show 2 < b0.length by omega) rfl rfl rfl underTl sizeT rfl rfl rfl) (aFc (FactOk.arrLd1 (j := 0) (hO0.arr hkT) (getSome (show 2 < b0.length by omega)) rfl rfl aggStr rfl rfl rfl rfl) (aFc (FactOk.strNeT rfl rfl rfl rfl p3) (aFc (FactOk.arrIxa (hO0.arr hkT) (show 3 < b0.length by omega) rfl rfl rfl underTl sizeT rfl rfl rfl) (aFc (FactOk.arrLd1 (j := 0) (hO0.arr hkT) (getSome (show 3 < b0.length by omega)) rfl rfl aggStr rfl rfl rfl rfl) (aFc (FactOk.arrIxa (hO0.arr hkT) (show 1 < b0.length by omega) rfl rfl rfl underTl sizeT rfl rfl rfl) (aFc (FactOk.arrLd1 (j := 0) (hO0.arr hkT) (getSome (show 1 < b0.length by omega)) rfl rfl aggStr rfl rfl rfl rfl) (aFc (FactOk.strEqT rfl rfl rfl rfl p4) (aFc (FactOk.bi rfl rfl rfl rfl rfl rfl (boolF (by omega))) (aFc (FactOk.bi rfl rfl rfl rfl rfl rfl (boolT (by omega))) (aFc (FactOk.arrIxa (hO0.arr hkT) (show 4 < b0.length by omega) rfl rfl rfl underTl sizeT rfl rfl rfl) (aFc (FactOk.arrLd1 (j := 0) (hO0.arr hkT) (getSome (show 4 < b0.length by omega)) rfl rfl aggStr rfl rfl rfl rfl) (aFc (FactOk.strNeF rfl rfl rfl rfl p6) aFn))))))))))))))))))) (aCc (callRNum rfl rfl rfl rfl) aCn) ?_ hh
                exact ostop_end e24 fun w2 hLow hIn => ⟨(by rw [show rmatF t = rmatW b0 by rw [hb0]; rfl]; clear hb0 hIn hLow hh hO0 hK0 hM0 hcp0; have hx : rmatW b0 = rmatW b0 := rfl; (conv at hx => (rhs; unfold rmatW rkind wz)); (first | (have hl : b0.length = 4 := (by omega); simp [*, -List.getD_eq_getElem?_getD, -Prod.mk.injEq] at hx) | (have hl : b0.length = 8 := (by omega); simp [*, -List.getD_eq_getElem?_getD, -Prod.mk.injEq] at hx) | (have hl : ¬ b0.length = 4 := (by omega); have hl8 : ¬ b0.length = 8 := (by omega); simp [*, -List.getD_eq_getElem?_getD, -Prod.mk.injEq] at hx)); rw [hx]; rfl), hLow⟩
          · by_cases p5 : (b0.getD (1) default) = ([115, 111, 108, 105, 100] : Bs)
            · by_cases p6 : (rnumF (b0.getD (3) default)) < 0
              · refine walk_opsE e3 e4 e5 (F := F22) (T := C22) (fuel := 1000) (d := 10) mixed (aFc (FactOk.arrLen (hO0.arr hkT) rfl rfl underTl rfl rfl) (aFc (FactOk.bi rfl rfl rfl rfl rfl rfl (nboolT (by omega))) (aFc (FactOk.bi rfl rfl rfl rfl rfl rfl (nboolF (by omega))) (aFc (FactOk.arrIxa (hO0.arr hkT) (show 0 < b0.length by omega) rfl rfl rfl underTl sizeT rfl rfl rfl) (aFc (FactOk.arrLd1 (j := 0) (hO0.arr hkT) (getSome (show 0 < b0.length by omega)) rfl rfl aggStr rfl rfl rfl rfl) (aFc (FactOk.strEqF rfl rfl rfl rfl p2) (aFc (FactOk.arrIxa (hO0.arr hkT) (show 2 < b0.length by omega) rfl rfl rfl underTl sizeT rfl rfl rfl) (aFc (FactOk.arrLd1 (j := 0) (hO0.arr hkT) (getSome (show 2 < b0.length by omega)) rfl rfl aggStr rfl rfl rfl rfl) (aFc (FactOk.strNeT rfl rfl rfl rfl p3) (aFc (FactOk.arrIxa (hO0.arr hkT) (show 3 < b0.length by omega) rfl rfl rfl underTl sizeT rfl rfl rfl) (aFc (FactOk.arrLd1 (j := 0) (hO0.arr hkT) (getSome (show 3 < b0.length by omega)) rfl rfl aggStr rfl rfl rfl rfl) (aFc (FactOk.arrIxa (hO0.arr hkT) (show 1 < b0.length by omega) rfl rfl rfl underTl sizeT rfl rfl rfl) (aFc (FactOk.arrLd1 (j := 0) (hO0.arr hkT) (getSome (show 1 < b0.length by omega)) rfl rfl aggStr rfl rfl rfl rfl) (aFc (FactOk.strEqF rfl rfl rfl rfl p4) (aFc (FactOk.strEqT rfl rfl rfl rfl p5) (aFc (FactOk.bi rfl rfl rfl rfl rfl rfl (boolT (by omega))) aFn)))))))))))))))) (aCc (callRNum rfl rfl rfl rfl) aCn) ?_ hh
                exact ostop_end e25 fun w2 hLow hIn => ⟨(by rw [show rmatF t = rmatW b0 by rw [hb0]; rfl]; clear hb0 hIn hLow hh hO0 hK0 hM0 hcp0; have hx : rmatW b0 = rmatW b0 := rfl; (conv at hx => (rhs; unfold rmatW rkind wz)); (first | (have hl : b0.length = 4 := (by omega); simp [*, -List.getD_eq_getElem?_getD, -Prod.mk.injEq] at hx) | (have hl : b0.length = 8 := (by omega); simp [*, -List.getD_eq_getElem?_getD, -Prod.mk.injEq] at hx) | (have hl : ¬ b0.length = 4 := (by omega); have hl8 : ¬ b0.length = 8 := (by omega); simp [*, -List.getD_eq_getElem?_getD, -Prod.mk.injEq] at hx)); rw [hx]; rfl), hLow⟩
              · by_cases p7 : (b0.getD (4) default) = ([101, 109, 105, 116] : Bs)
                · refine walk_opsE e3 e4 e5 (F := F23) (T := C23) (fuel := 1000) (d := 10) mixed (aFc (FactOk.arrLen (hO0.arr hkT) rfl rfl underTl rfl rfl) (aFc (FactOk.bi rfl rfl rfl rfl rfl rfl (nboolT (by omega))) (aFc (FactOk.bi rfl rfl rfl rfl rfl rfl (nboolF (by omega))) (aFc (FactOk.arrIxa (hO0.arr hkT) (show 0 < b0.length by omega) rfl rfl rfl underTl sizeT rfl rfl rfl) (aFc (FactOk.arrLd1 (j := 0) (hO0.arr hkT) (getSome (show 0 < b0.length by omega)) rfl rfl aggStr rfl rfl rfl rfl) (aFc (FactOk.strEqF rfl rfl rfl rfl p2) (aFc (FactOk.arrIxa (hO0.arr hkT) (show 2 < b0.length by omega) rfl rfl rfl underTl sizeT rfl rfl rfl) (aFc (FactOk.arrLd1 (j := 0) (hO0.arr hkT) (getSome (show 2 < b0.length by omega)) rfl rfl aggStr rfl rfl rfl rfl) (aFc (FactOk.strNeT rfl rfl rfl rfl p3) (aFc (FactOk.arrIxa (hO0.arr hkT) (show 3 < b0.length by omega) rfl rfl rfl underTl sizeT rfl rfl rfl) (aFc (FactOk.arrLd1 (j := 0) (hO0.arr hkT) (getSome (show 3 < b0.length by omega)) rfl rfl aggStr rfl rfl rfl rfl) (aFc (FactOk.arrIxa (hO0.arr hkT) (show 1 < b0.length by omega) rfl rfl rfl underTl sizeT rfl rfl rfl) (aFc (FactOk.arrLd1 (j := 0) (hO0.arr hkT) (getSome (show 1 < b0.length by omega)) rfl rfl aggStr rfl rfl rfl rfl) (aFc (FactOk.strEqF rfl rfl rfl rfl p4) (aFc (FactOk.strEqT rfl rfl rfl rfl p5) (aFc (FactOk.bi rfl rfl rfl rfl rfl rfl (boolF (by omega))) (aFc (FactOk.bi rfl rfl rfl rfl rfl rfl (boolT (by omega))) (aFc (FactOk.arrIxa (hO0.arr hkT) (show 4 < b0.length by omega) rfl rfl rfl underTl sizeT rfl rfl rfl) (aFc (FactOk.arrLd1 (j := 0) (hO0.arr hkT) (getSome (show 4 < b0.length by omega)) rfl rfl aggStr rfl rfl rfl rfl) (aFc (FactOk.strNeT rfl rfl rfl rfl p7) aFn)))))))))))))))))))) (aCc (callRNum rfl rfl rfl rfl) aCn) ?_ hh
                  by_cases p0 : (rnumF (b0.getD (5) default)) < 0
                  · refine walk_unroll (m := 5) (F := F16) (T := C16) (fuel := 1000) (d := 10) mixed (aFc (FactOk.arrLen (hO0.arr hkT) rfl rfl underTl rfl rfl) (aFc (FactOk.bi rfl rfl rfl rfl rfl rfl (boolT (by omega))) (aFc (FactOk.arrIxa (hO0.arr hkT) (show 5 < b0.length by omega) rfl rfl rfl underTl sizeT rfl rfl rfl) (aFc (FactOk.arrLd1 (j := 0) (hO0.arr hkT) (getSome (show 5 < b0.length by omega)) rfl rfl aggStr rfl rfl rfl rfl) (aFc (FactOk.bi rfl rfl rfl rfl rfl rfl (boolT (by omega))) aFn))))) (aCc (callRNum rfl rfl rfl rfl) aCn) ?_
                    exact ostop_end e26 fun w2 hLow hIn => ⟨(by rw [show rmatF t = rmatW b0 by rw [hb0]; rfl]; clear hb0 hIn hLow hh hO0 hK0 hM0 hcp0; have hx : rmatW b0 = rmatW b0 := rfl; (conv at hx => (rhs; unfold rmatW rkind wz)); (first | (have hl : b0.length = 4 := (by omega); simp [*, -List.getD_eq_getElem?_getD, -Prod.mk.injEq] at hx) | (have hl : b0.length = 8 := (by omega); simp [*, -List.getD_eq_getElem?_getD, -Prod.mk.injEq] at hx) | (have hl : ¬ b0.length = 4 := (by omega); have hl8 : ¬ b0.length = 8 := (by omega); simp [*, -List.getD_eq_getElem?_getD, -Prod.mk.injEq] at hx)); rw [hx]; rfl), hLow⟩
                  · by_cases p1 : (rnumF (b0.getD (6) default)) < 0
                    · refine walk_unroll (m := 5) (F := F17) (T := C17) (fuel := 1000) (d := 10) mixed (aFc (FactOk.arrLen (hO0.arr hkT) rfl rfl underTl rfl rfl) (aFc (FactOk.bi rfl rfl rfl rfl rfl rfl (boolT (by omega))) (aFc (FactOk.arrIxa (hO0.arr hkT) (show 5 < b0.length by omega) rfl rfl rfl underTl sizeT rfl rfl rfl) (aFc (FactOk.arrLd1 (j := 0) (hO0.arr hkT) (getSome (show 5 < b0.length by omega)) rfl rfl aggStr rfl rfl rfl rfl) (aFc (FactOk.bi rfl rfl rfl rfl rfl rfl (boolF (by omega))) (aFc (FactOk.bi rfl rfl rfl rfl rfl rfl (boolT (by omega))) (aFc (FactOk.arrIxa (hO0.arr hkT) (show 6 < b0.length by omega) rfl rfl rfl underTl sizeT rfl rfl rfl) (aFc (FactOk.arrLd1 (j := 0) (hO0.arr hkT) (getSome (show 6 < b0.length by omega)) rfl rfl aggStr rfl rfl rfl rfl) (aFc (FactOk.bi rfl rfl rfl rfl rfl rfl (boolT (by omega))) aFn))))))))) (aCc (callRNum rfl rfl rfl rfl) (aCc (callRNum rfl rfl rfl rfl) aCn)) ?_
                      exact ostop_end e27 fun w2 hLow hIn => ⟨(by rw [show rmatF t = rmatW b0 by rw [hb0]; rfl]; clear hb0 hIn hLow hh hO0 hK0 hM0 hcp0; have hx : rmatW b0 = rmatW b0 := rfl; (conv at hx => (rhs; unfold rmatW rkind wz)); (first | (have hl : b0.length = 4 := (by omega); simp [*, -List.getD_eq_getElem?_getD, -Prod.mk.injEq] at hx) | (have hl : b0.length = 8 := (by omega); simp [*, -List.getD_eq_getElem?_getD, -Prod.mk.injEq] at hx) | (have hl : ¬ b0.length = 4 := (by omega); have hl8 : ¬ b0.length = 8 := (by omega); simp [*, -List.getD_eq_getElem?_getD, -Prod.mk.injEq] at hx)); rw [hx]; rfl), hLow⟩
                    · by_cases p2 : (rnumF (b0.getD (7) default)) < 0
                      · refine walk_unroll (m := 5) (F := F18) (T := C18) (fuel := 1000) (d := 10) mixed (aFc (FactOk.arrLen (hO0.arr hkT) rfl rfl underTl rfl rfl) (aFc (FactOk.bi rfl rfl rfl rfl rfl rfl (boolT (by omega))) (aFc (FactOk.arrIxa (hO0.arr hkT) (show 5 < b0.length by omega) rfl rfl rfl underTl sizeT rfl rfl rfl) (aFc (FactOk.arrLd1 (j := 0) (hO0.arr hkT) (getSome (show 5 < b0.length by omega)) rfl rfl aggStr rfl rfl rfl rfl) (aFc (FactOk.bi rfl rfl rfl rfl rfl rfl (boolF (by omega))) (aFc (FactOk.bi rfl rfl rfl rfl rfl rfl (boolT (by omega))) (aFc (FactOk.arrIxa (hO0.arr hkT) (show 6 < b0.length by omega) rfl rfl rfl underTl sizeT rfl rfl rfl) (aFc (FactOk.arrLd1 (j := 0) (hO0.arr hkT) (getSome (show 6 < b0.length by omega)) rfl rfl aggStr rfl rfl rfl rfl) (aFc (FactOk.bi rfl rfl rfl rfl rfl rfl (boolF (by omega))) (aFc (FactOk.bi rfl rfl rfl rfl rfl rfl (boolT (by omega))) (aFc (FactOk.arrIxa (hO0.arr hkT) (show 7 < b0.length by omega) rfl rfl rfl underTl sizeT rfl rfl rfl) (aFc (FactOk.arrLd1 (j := 0) (hO0.arr hkT) (getSome (show 7 < b0.length by omega)) rfl rfl aggStr rfl rfl rfl rfl) (aFc (FactOk.bi rfl rfl rfl rfl rfl rfl (boolT (by omega))) aFn))))))))))))) (aCc (callRNum rfl rfl rfl rfl) (aCc (callRNum rfl rfl rfl rfl) (aCc (callRNum rfl rfl rfl rfl) aCn))) ?_
                        exact ostop_end e28 fun w2 hLow hIn => ⟨(by rw [show rmatF t = rmatW b0 by rw [hb0]; rfl]; clear hb0 hIn hLow hh hO0 hK0 hM0 hcp0; have hx : rmatW b0 = rmatW b0 := rfl; (conv at hx => (rhs; unfold rmatW rkind wz)); (first | (have hl : b0.length = 4 := (by omega); simp [*, -List.getD_eq_getElem?_getD, -Prod.mk.injEq] at hx) | (have hl : b0.length = 8 := (by omega); simp [*, -List.getD_eq_getElem?_getD, -Prod.mk.injEq] at hx) | (have hl : ¬ b0.length = 4 := (by omega); have hl8 : ¬ b0.length = 8 := (by omega); simp [*, -List.getD_eq_getElem?_getD, -Prod.mk.injEq] at hx)); rw [hx]; rfl), hLow⟩
                      · by_cases p3 : (((rnumF (b0.getD (5) default)), (rnumF (b0.getD (6) default)), (rnumF (b0.getD (7) default))) : E3) = ((0, 0, 0) : E3)
                        · refine walk_unroll (m := 5) (F := F19) (T := C19) (fuel := 1000) (d := 10) mixed (aFc (FactOk.arrLen (hO0.arr hkT) rfl rfl underTl rfl rfl) (aFc (FactOk.bi rfl rfl rfl rfl rfl rfl (boolT (by omega))) (aFc (FactOk.arrIxa (hO0.arr hkT) (show 5 < b0.length by omega) rfl rfl rfl underTl sizeT rfl rfl rfl) (aFc (FactOk.arrLd1 (j := 0) (hO0.arr hkT) (getSome (show 5 < b0.length by omega)) rfl rfl aggStr rfl rfl rfl rfl) (aFc (FactOk.bi rfl rfl rfl rfl rfl rfl (boolF (by omega))) (aFc (FactOk.bi rfl rfl rfl rfl rfl rfl (boolT (by omega))) (aFc (FactOk.arrIxa (hO0.arr hkT) (show 6 < b0.length by omega) rfl rfl rfl underTl sizeT rfl rfl rfl) (aFc (FactOk.arrLd1 (j := 0) (hO0.arr hkT) (getSome (show 6 < b0.length by omega)) rfl rfl aggStr rfl rfl rfl rfl) (aFc (FactOk.bi rfl rfl rfl rfl rfl rfl (boolF (by omega))) (aFc (FactOk.bi rfl rfl rfl rfl rfl rfl (boolT (by omega))) (aFc (FactOk.arrIxa (hO0.arr hkT) (show 7 < b0.length by omega) rfl rfl rfl underTl sizeT rfl rfl rfl) (aFc (FactOk.arrLd1 (j := 0) (hO0.arr hkT) (getSome (show 7 < b0.length by omega)) rfl rfl aggStr rfl rfl rfl rfl) (aFc (FactOk.bi rfl rfl rfl rfl rfl rfl (boolF (by omega))) (aFc (FactOk.bi rfl rfl rfl rfl rfl rfl (boolF (by omega))) (aFc (FactOk.bi rfl rfl rfl rfl rfl rfl (boolF (by omega))) (aFc (neE rfl rfl rfl rfl (by rw [decide_eq_true p3]; rfl)) aFn)))))))))))))))) (aCc (callRNum rfl rfl rfl rfl) (aCc (callRNum rfl rfl rfl rfl) (aCc (callRNum rfl rfl rfl rfl) aCn))) ?_
                          exact ostop_end e29 fun w2 hLow hIn => ⟨(by rw [show rmatF t = rmatW b0 by rw [hb0]; rfl]; clear hb0 hIn hLow hh hO0 hK0 hM0 hcp0; have hx : rmatW b0 = rmatW b0 := rfl; (conv at hx => (rhs; unfold rmatW rkind wz)); (first | (have hl : b0.length = 4 := (by omega); simp [*, -List.getD_eq_getElem?_getD, -Prod.mk.injEq] at hx) | (have hl : b0.length = 8 := (by omega); simp [*, -List.getD_eq_getElem?_getD, -Prod.mk.injEq] at hx) | (have hl : ¬ b0.length = 4 := (by omega); have hl8 : ¬ b0.length = 8 := (by omega); simp [*, -List.getD_eq_getElem?_getD, -Prod.mk.injEq] at hx)); rw [hx]; first | rfl | (have e := p3; simp only [Prod.mk.injEq] at e; show Ending.returned (.tuple #[.agg ⟨[strV (b0.getD 0 default), .bool _, .bool _, .bool _, .int .i64 (rnumF (b0.getD 3 default)), .int .i64 (rnumF (b0.getD 5 default)), .int .i64 (rnumF (b0.getD 6 default)), .int .i64 (rnumF (b0.getD 7 default))]⟩, .bool false]) = _; rw [e.1, e.2.1, e.2.2]; rfl)), hLow⟩
                        · refine walk_unroll (m := 5) (F := F20) (T := C20) (fuel := 1000) (d := 10) mixed (aFc (FactOk.arrLen (hO0.arr hkT) rfl rfl underTl rfl rfl) (aFc (FactOk.bi rfl rfl rfl rfl rfl rfl (boolT (by omega))) (aFc (FactOk.arrIxa (hO0.arr hkT) (show 5 < b0.length by omega) rfl rfl rfl underTl sizeT rfl rfl rfl) (aFc (FactOk.arrLd1 (j := 0) (hO0.arr hkT) (getSome (show 5 < b0.length by omega)) rfl rfl aggStr rfl rfl rfl rfl) (aFc (FactOk.bi rfl rfl rfl rfl rfl rfl (boolF (by omega))) (aFc (FactOk.bi rfl rfl rfl rfl rfl rfl (boolT (by omega))) (aFc (FactOk.arrIxa (hO0.arr hkT) (show 6 < b0.length by omega) rfl rfl rfl underTl sizeT rfl rfl rfl) (aFc (FactOk.arrLd1 (j := 0) (hO0.arr hkT) (getSome (show 6 < b0.length by omega)) rfl rfl aggStr rfl rfl rfl rfl) (aFc (FactOk.bi rfl rfl rfl rfl rfl rfl (boolF (by omega))) (aFc (FactOk.bi rfl rfl rfl rfl rfl rfl (boolT (by omega))) (aFc (FactOk.arrIxa (hO0.arr hkT) (show 7 < b0.length by omega) rfl rfl rfl underTl sizeT rfl rfl rfl) (aFc (FactOk.arrLd1 (j := 0) (hO0.arr hkT) (getSome (show 7 < b0.length by omega)) rfl rfl aggStr rfl rfl rfl rfl) (aFc (FactOk.bi rfl rfl rfl rfl rfl rfl (boolF (by omega))) (aFc (FactOk.bi rfl rfl rfl rfl rfl rfl (boolF (by omega))) (aFc (FactOk.bi rfl rfl rfl rfl rfl rfl (boolF (by omega))) (aFc (neE rfl rfl rfl rfl (by rw [decide_eq_false p3]; rfl)) aFn)))))))))))))))) (aCc (callRNum rfl rfl rfl rfl) (aCc (callRNum rfl rfl rfl rfl) (aCc (callRNum rfl rfl rfl rfl) aCn))) ?_
                          exact ostop_end e30 fun w2 hLow hIn => ⟨(by rw [show rmatF t = rmatW b0 by rw [hb0]; rfl]; clear hb0 hIn hLow hh hO0 hK0 hM0 hcp0; have hx : rmatW b0 = rmatW b0 := rfl; (conv at hx => (rhs; unfold rmatW rkind wz)); (first | (have hl : b0.length = 4 := (by omega); simp [*, -List.getD_eq_getElem?_getD, -Prod.mk.injEq] at hx) | (have hl : b0.length = 8 := (by omega); simp [*, -List.getD_eq_getElem?_getD, -Prod.mk.injEq] at hx) | (have hl : ¬ b0.length = 4 := (by omega); have hl8 : ¬ b0.length = 8 := (by omega); simp [*, -List.getD_eq_getElem?_getD, -Prod.mk.injEq] at hx)); rw [hx]; first | rfl | (have e := p3; simp only [Prod.mk.injEq] at e; show Ending.returned (.tuple #[.agg ⟨[strV (b0.getD 0 default), .bool _, .bool _, .bool _, .int .i64 (rnumF (b0.getD 3 default)), .int .i64 (rnumF (b0.getD 5 default)), .int .i64 (rnumF (b0.getD 6 default)), .int .i64 (rnumF (b0.getD 7 default))]⟩, .bool false]) = _; rw [e.1, e.2.1, e.2.2]; rfl)), hLow⟩
                · refine walk_opsE e3 e4 e5 (F := F24) (T := C24) (fuel := 1000) (d := 10) mixed (aFc (FactOk.arrLen (hO0.arr hkT) rfl rfl underTl rfl rfl) (aFc (FactOk.bi rfl rfl rfl rfl rfl rfl (nboolT (by omega))) (aFc (FactOk.bi rfl rfl rfl rfl rfl rfl (nboolF (by omega))) (aFc (FactOk.arrIxa (hO0.arr hkT) (show 0 < b0.length by omega) rfl rfl rfl underTl sizeT rfl rfl rfl) (aFc (FactOk.arrLd1 (j := 0) (hO0.arr hkT) (getSome (show 0 < b0.length by omega)) rfl rfl aggStr rfl rfl rfl rfl) (aFc (FactOk.strEqF rfl rfl rfl rfl p2) (aFc (FactOk.arrIxa (hO0.arr hkT) (show 2 < b0.length by omega) rfl rfl rfl underTl sizeT rfl rfl rfl) (aFc (FactOk.arrLd1 (j := 0) (hO0.arr hkT) (getSome (show 2 < b0.length by omega)) rfl rfl aggStr rfl rfl rfl rfl) (aFc (FactOk.strNeT rfl rfl rfl rfl p3) (aFc (FactOk.arrIxa (hO0.arr hkT) (show 3 < b0.length by omega) rfl rfl rfl underTl sizeT rfl rfl rfl) (aFc (FactOk.arrLd1 (j := 0) (hO0.arr hkT) (getSome (show 3 < b0.length by omega)) rfl rfl aggStr rfl rfl rfl rfl) (aFc (FactOk.arrIxa (hO0.arr hkT) (show 1 < b0.length by omega) rfl rfl rfl underTl sizeT rfl rfl rfl) (aFc (FactOk.arrLd1 (j := 0) (hO0.arr hkT) (getSome (show 1 < b0.length by omega)) rfl rfl aggStr rfl rfl rfl rfl) (aFc (FactOk.strEqF rfl rfl rfl rfl p4) (aFc (FactOk.strEqT rfl rfl rfl rfl p5) (aFc (FactOk.bi rfl rfl rfl rfl rfl rfl (boolF (by omega))) (aFc (FactOk.bi rfl rfl rfl rfl rfl rfl (boolT (by omega))) (aFc (FactOk.arrIxa (hO0.arr hkT) (show 4 < b0.length by omega) rfl rfl rfl underTl sizeT rfl rfl rfl) (aFc (FactOk.arrLd1 (j := 0) (hO0.arr hkT) (getSome (show 4 < b0.length by omega)) rfl rfl aggStr rfl rfl rfl rfl) (aFc (FactOk.strNeF rfl rfl rfl rfl p7) aFn)))))))))))))))))))) (aCc (callRNum rfl rfl rfl rfl) aCn) ?_ hh
                  exact ostop_end e31 fun w2 hLow hIn => ⟨(by rw [show rmatF t = rmatW b0 by rw [hb0]; rfl]; clear hb0 hIn hLow hh hO0 hK0 hM0 hcp0; have hx : rmatW b0 = rmatW b0 := rfl; (conv at hx => (rhs; unfold rmatW rkind wz)); (first | (have hl : b0.length = 4 := (by omega); simp [*, -List.getD_eq_getElem?_getD, -Prod.mk.injEq] at hx) | (have hl : b0.length = 8 := (by omega); simp [*, -List.getD_eq_getElem?_getD, -Prod.mk.injEq] at hx) | (have hl : ¬ b0.length = 4 := (by omega); have hl8 : ¬ b0.length = 8 := (by omega); simp [*, -List.getD_eq_getElem?_getD, -Prod.mk.injEq] at hx)); rw [hx]; rfl), hLow⟩
            · by_cases p6 : (b0.getD (1) default) = ([102, 97, 108, 108, 105, 110, 103] : Bs)
              · by_cases p7 : (rnumF (b0.getD (3) default)) < 0
                · refine walk_opsE e3 e4 e5 (F := F25) (T := C25) (fuel := 1000) (d := 10) mixed (aFc (FactOk.arrLen (hO0.arr hkT) rfl rfl underTl rfl rfl) (aFc (FactOk.bi rfl rfl rfl rfl rfl rfl (nboolT (by omega))) (aFc (FactOk.bi rfl rfl rfl rfl rfl rfl (nboolF (by omega))) (aFc (FactOk.arrIxa (hO0.arr hkT) (show 0 < b0.length by omega) rfl rfl rfl underTl sizeT rfl rfl rfl) (aFc (FactOk.arrLd1 (j := 0) (hO0.arr hkT) (getSome (show 0 < b0.length by omega)) rfl rfl aggStr rfl rfl rfl rfl) (aFc (FactOk.strEqF rfl rfl rfl rfl p2) (aFc (FactOk.arrIxa (hO0.arr hkT) (show 2 < b0.length by omega) rfl rfl rfl underTl sizeT rfl rfl rfl) (aFc (FactOk.arrLd1 (j := 0) (hO0.arr hkT) (getSome (show 2 < b0.length by omega)) rfl rfl aggStr rfl rfl rfl rfl) (aFc (FactOk.strNeT rfl rfl rfl rfl p3) (aFc (FactOk.arrIxa (hO0.arr hkT) (show 3 < b0.length by omega) rfl rfl rfl underTl sizeT rfl rfl rfl) (aFc (FactOk.arrLd1 (j := 0) (hO0.arr hkT) (getSome (show 3 < b0.length by omega)) rfl rfl aggStr rfl rfl rfl rfl) (aFc (FactOk.arrIxa (hO0.arr hkT) (show 1 < b0.length by omega) rfl rfl rfl underTl sizeT rfl rfl rfl) (aFc (FactOk.arrLd1 (j := 0) (hO0.arr hkT) (getSome (show 1 < b0.length by omega)) rfl rfl aggStr rfl rfl rfl rfl) (aFc (FactOk.strEqF rfl rfl rfl rfl p4) (aFc (FactOk.strEqF rfl rfl rfl rfl p5) (aFc (FactOk.strEqT rfl rfl rfl rfl p6) (aFc (FactOk.bi rfl rfl rfl rfl rfl rfl (boolT (by omega))) aFn))))))))))))))))) (aCc (callRNum rfl rfl rfl rfl) aCn) ?_ hh
                  exact ostop_end e32 fun w2 hLow hIn => ⟨(by rw [show rmatF t = rmatW b0 by rw [hb0]; rfl]; clear hb0 hIn hLow hh hO0 hK0 hM0 hcp0; have hx : rmatW b0 = rmatW b0 := rfl; (conv at hx => (rhs; unfold rmatW rkind wz)); (first | (have hl : b0.length = 4 := (by omega); simp [*, -List.getD_eq_getElem?_getD, -Prod.mk.injEq] at hx) | (have hl : b0.length = 8 := (by omega); simp [*, -List.getD_eq_getElem?_getD, -Prod.mk.injEq] at hx) | (have hl : ¬ b0.length = 4 := (by omega); have hl8 : ¬ b0.length = 8 := (by omega); simp [*, -List.getD_eq_getElem?_getD, -Prod.mk.injEq] at hx)); rw [hx]; rfl), hLow⟩
                · by_cases p8 : (b0.getD (4) default) = ([101, 109, 105, 116] : Bs)
                  · refine walk_opsE e3 e4 e5 (F := F26) (T := C26) (fuel := 1000) (d := 10) mixed (aFc (FactOk.arrLen (hO0.arr hkT) rfl rfl underTl rfl rfl) (aFc (FactOk.bi rfl rfl rfl rfl rfl rfl (nboolT (by omega))) (aFc (FactOk.bi rfl rfl rfl rfl rfl rfl (nboolF (by omega))) (aFc (FactOk.arrIxa (hO0.arr hkT) (show 0 < b0.length by omega) rfl rfl rfl underTl sizeT rfl rfl rfl) (aFc (FactOk.arrLd1 (j := 0) (hO0.arr hkT) (getSome (show 0 < b0.length by omega)) rfl rfl aggStr rfl rfl rfl rfl) (aFc (FactOk.strEqF rfl rfl rfl rfl p2) (aFc (FactOk.arrIxa (hO0.arr hkT) (show 2 < b0.length by omega) rfl rfl rfl underTl sizeT rfl rfl rfl) (aFc (FactOk.arrLd1 (j := 0) (hO0.arr hkT) (getSome (show 2 < b0.length by omega)) rfl rfl aggStr rfl rfl rfl rfl) (aFc (FactOk.strNeT rfl rfl rfl rfl p3) (aFc (FactOk.arrIxa (hO0.arr hkT) (show 3 < b0.length by omega) rfl rfl rfl underTl sizeT rfl rfl rfl) (aFc (FactOk.arrLd1 (j := 0) (hO0.arr hkT) (getSome (show 3 < b0.length by omega)) rfl rfl aggStr rfl rfl rfl rfl) (aFc (FactOk.arrIxa (hO0.arr hkT) (show 1 < b0.length by omega) rfl rfl rfl underTl sizeT rfl rfl rfl) (aFc (FactOk.arrLd1 (j := 0) (hO0.arr hkT) (getSome (show 1 < b0.length by omega)) rfl rfl aggStr rfl rfl rfl rfl) (aFc (FactOk.strEqF rfl rfl rfl rfl p4) (aFc (FactOk.strEqF rfl rfl rfl rfl p5) (aFc (FactOk.strEqT rfl rfl rfl rfl p6) (aFc (FactOk.bi rfl rfl rfl rfl rfl rfl (boolF (by omega))) (aFc (FactOk.bi rfl rfl rfl rfl rfl rfl (boolT (by omega))) (aFc (FactOk.arrIxa (hO0.arr hkT) (show 4 < b0.length by omega) rfl rfl rfl underTl sizeT rfl rfl rfl) (aFc (FactOk.arrLd1 (j := 0) (hO0.arr hkT) (getSome (show 4 < b0.length by omega)) rfl rfl aggStr rfl rfl rfl rfl) (aFc (FactOk.strNeT rfl rfl rfl rfl p8) aFn))))))))))))))))))))) (aCc (callRNum rfl rfl rfl rfl) aCn) ?_ hh
                    by_cases p0 : (rnumF (b0.getD (5) default)) < 0
                    · refine walk_unroll (m := 5) (F := F16) (T := C16) (fuel := 1000) (d := 10) mixed (aFc (FactOk.arrLen (hO0.arr hkT) rfl rfl underTl rfl rfl) (aFc (FactOk.bi rfl rfl rfl rfl rfl rfl (boolT (by omega))) (aFc (FactOk.arrIxa (hO0.arr hkT) (show 5 < b0.length by omega) rfl rfl rfl underTl sizeT rfl rfl rfl) (aFc (FactOk.arrLd1 (j := 0) (hO0.arr hkT) (getSome (show 5 < b0.length by omega)) rfl rfl aggStr rfl rfl rfl rfl) (aFc (FactOk.bi rfl rfl rfl rfl rfl rfl (boolT (by omega))) aFn))))) (aCc (callRNum rfl rfl rfl rfl) aCn) ?_
                      exact ostop_end e33 fun w2 hLow hIn => ⟨(by rw [show rmatF t = rmatW b0 by rw [hb0]; rfl]; clear hb0 hIn hLow hh hO0 hK0 hM0 hcp0; have hx : rmatW b0 = rmatW b0 := rfl; (conv at hx => (rhs; unfold rmatW rkind wz)); (first | (have hl : b0.length = 4 := (by omega); simp [*, -List.getD_eq_getElem?_getD, -Prod.mk.injEq] at hx) | (have hl : b0.length = 8 := (by omega); simp [*, -List.getD_eq_getElem?_getD, -Prod.mk.injEq] at hx) | (have hl : ¬ b0.length = 4 := (by omega); have hl8 : ¬ b0.length = 8 := (by omega); simp [*, -List.getD_eq_getElem?_getD, -Prod.mk.injEq] at hx)); rw [hx]; rfl), hLow⟩
                    · by_cases p1 : (rnumF (b0.getD (6) default)) < 0
                      · refine walk_unroll (m := 5) (F := F17) (T := C17) (fuel := 1000) (d := 10) mixed (aFc (FactOk.arrLen (hO0.arr hkT) rfl rfl underTl rfl rfl) (aFc (FactOk.bi rfl rfl rfl rfl rfl rfl (boolT (by omega))) (aFc (FactOk.arrIxa (hO0.arr hkT) (show 5 < b0.length by omega) rfl rfl rfl underTl sizeT rfl rfl rfl) (aFc (FactOk.arrLd1 (j := 0) (hO0.arr hkT) (getSome (show 5 < b0.length by omega)) rfl rfl aggStr rfl rfl rfl rfl) (aFc (FactOk.bi rfl rfl rfl rfl rfl rfl (boolF (by omega))) (aFc (FactOk.bi rfl rfl rfl rfl rfl rfl (boolT (by omega))) (aFc (FactOk.arrIxa (hO0.arr hkT) (show 6 < b0.length by omega) rfl rfl rfl underTl sizeT rfl rfl rfl) (aFc (FactOk.arrLd1 (j := 0) (hO0.arr hkT) (getSome (show 6 < b0.length by omega)) rfl rfl aggStr rfl rfl rfl rfl) (aFc (FactOk.bi rfl rfl rfl rfl rfl rfl (boolT (by omega))) aFn))))))))) (aCc (callRNum rfl rfl rfl rfl) (aCc (callRNum rfl rfl rfl rfl) aCn)) ?_
                        exact ostop_end e34 fun w2 hLow hIn => ⟨(by rw [show rmatF t = rmatW b0 by rw [hb0]; rfl]; clear hb0 hIn hLow hh hO0 hK0 hM0 hcp0; have hx : rmatW b0 = rmatW b0 := rfl; (conv at hx => (rhs; unfold rmatW rkind wz)); (first | (have hl : b0.length = 4 := (by omega); simp [*, -List.getD_eq_getElem?_getD, -Prod.mk.injEq] at hx) | (have hl : b0.length = 8 := (by omega); simp [*, -List.getD_eq_getElem?_getD, -Prod.mk.injEq] at hx) | (have hl : ¬ b0.length = 4 := (by omega); have hl8 : ¬ b0.length = 8 := (by omega); simp [*, -List.getD_eq_getElem?_getD, -Prod.mk.injEq] at hx)); rw [hx]; rfl), hLow⟩
                      · by_cases p2 : (rnumF (b0.getD (7) default)) < 0
                        · refine walk_unroll (m := 5) (F := F18) (T := C18) (fuel := 1000) (d := 10) mixed (aFc (FactOk.arrLen (hO0.arr hkT) rfl rfl underTl rfl rfl) (aFc (FactOk.bi rfl rfl rfl rfl rfl rfl (boolT (by omega))) (aFc (FactOk.arrIxa (hO0.arr hkT) (show 5 < b0.length by omega) rfl rfl rfl underTl sizeT rfl rfl rfl) (aFc (FactOk.arrLd1 (j := 0) (hO0.arr hkT) (getSome (show 5 < b0.length by omega)) rfl rfl aggStr rfl rfl rfl rfl) (aFc (FactOk.bi rfl rfl rfl rfl rfl rfl (boolF (by omega))) (aFc (FactOk.bi rfl rfl rfl rfl rfl rfl (boolT (by omega))) (aFc (FactOk.arrIxa (hO0.arr hkT) (show 6 < b0.length by omega) rfl rfl rfl underTl sizeT rfl rfl rfl) (aFc (FactOk.arrLd1 (j := 0) (hO0.arr hkT) (getSome (show 6 < b0.length by omega)) rfl rfl aggStr rfl rfl rfl rfl) (aFc (FactOk.bi rfl rfl rfl rfl rfl rfl (boolF (by omega))) (aFc (FactOk.bi rfl rfl rfl rfl rfl rfl (boolT (by omega))) (aFc (FactOk.arrIxa (hO0.arr hkT) (show 7 < b0.length by omega) rfl rfl rfl underTl sizeT rfl rfl rfl) (aFc (FactOk.arrLd1 (j := 0) (hO0.arr hkT) (getSome (show 7 < b0.length by omega)) rfl rfl aggStr rfl rfl rfl rfl) (aFc (FactOk.bi rfl rfl rfl rfl rfl rfl (boolT (by omega))) aFn))))))))))))) (aCc (callRNum rfl rfl rfl rfl) (aCc (callRNum rfl rfl rfl rfl) (aCc (callRNum rfl rfl rfl rfl) aCn))) ?_
                          exact ostop_end e35 fun w2 hLow hIn => ⟨(by rw [show rmatF t = rmatW b0 by rw [hb0]; rfl]; clear hb0 hIn hLow hh hO0 hK0 hM0 hcp0; have hx : rmatW b0 = rmatW b0 := rfl; (conv at hx => (rhs; unfold rmatW rkind wz)); (first | (have hl : b0.length = 4 := (by omega); simp [*, -List.getD_eq_getElem?_getD, -Prod.mk.injEq] at hx) | (have hl : b0.length = 8 := (by omega); simp [*, -List.getD_eq_getElem?_getD, -Prod.mk.injEq] at hx) | (have hl : ¬ b0.length = 4 := (by omega); have hl8 : ¬ b0.length = 8 := (by omega); simp [*, -List.getD_eq_getElem?_getD, -Prod.mk.injEq] at hx)); rw [hx]; rfl), hLow⟩
                        · by_cases p3 : (((rnumF (b0.getD (5) default)), (rnumF (b0.getD (6) default)), (rnumF (b0.getD (7) default))) : E3) = ((0, 0, 0) : E3)
                          · refine walk_unroll (m := 5) (F := F19) (T := C19) (fuel := 1000) (d := 10) mixed (aFc (FactOk.arrLen (hO0.arr hkT) rfl rfl underTl rfl rfl) (aFc (FactOk.bi rfl rfl rfl rfl rfl rfl (boolT (by omega))) (aFc (FactOk.arrIxa (hO0.arr hkT) (show 5 < b0.length by omega) rfl rfl rfl underTl sizeT rfl rfl rfl) (aFc (FactOk.arrLd1 (j := 0) (hO0.arr hkT) (getSome (show 5 < b0.length by omega)) rfl rfl aggStr rfl rfl rfl rfl) (aFc (FactOk.bi rfl rfl rfl rfl rfl rfl (boolF (by omega))) (aFc (FactOk.bi rfl rfl rfl rfl rfl rfl (boolT (by omega))) (aFc (FactOk.arrIxa (hO0.arr hkT) (show 6 < b0.length by omega) rfl rfl rfl underTl sizeT rfl rfl rfl) (aFc (FactOk.arrLd1 (j := 0) (hO0.arr hkT) (getSome (show 6 < b0.length by omega)) rfl rfl aggStr rfl rfl rfl rfl) (aFc (FactOk.bi rfl rfl rfl rfl rfl rfl (boolF (by omega))) (aFc (FactOk.bi rfl rfl rfl rfl rfl rfl (boolT (by omega))) (aFc (FactOk.arrIxa (hO0.arr hkT) (show 7 < b0.length by omega) rfl rfl rfl underTl sizeT rfl rfl rfl) (aFc (FactOk.arrLd1 (j := 0) (hO0.arr hkT) (getSome (show 7 < b0.length by omega)) rfl rfl aggStr rfl rfl rfl rfl) (aFc (FactOk.bi rfl rfl rfl rfl rfl rfl (boolF (by omega))) (aFc (FactOk.bi rfl rfl rfl rfl rfl rfl (boolF (by omega))) (aFc (FactOk.bi rfl rfl rfl rfl rfl rfl (boolF (by omega))) (aFc (neE rfl rfl rfl rfl (by rw [decide_eq_true p3]; rfl)) aFn)))))))))))))))) (aCc (callRNum rfl rfl rfl rfl) (aCc (callRNum rfl rfl rfl rfl) (aCc (callRNum rfl rfl rfl rfl) aCn))) ?_
                            exact ostop_end e36 fun w2 hLow hIn => ⟨(by rw [show rmatF t = rmatW b0 by rw [hb0]; rfl]; clear hb0 hIn hLow hh hO0 hK0 hM0 hcp0; have hx : rmatW b0 = rmatW b0 := rfl; (conv at hx => (rhs; unfold rmatW rkind wz)); (first | (have hl : b0.length = 4 := (by omega); simp [*, -List.getD_eq_getElem?_getD, -Prod.mk.injEq] at hx) | (have hl : b0.length = 8 := (by omega); simp [*, -List.getD_eq_getElem?_getD, -Prod.mk.injEq] at hx) | (have hl : ¬ b0.length = 4 := (by omega); have hl8 : ¬ b0.length = 8 := (by omega); simp [*, -List.getD_eq_getElem?_getD, -Prod.mk.injEq] at hx)); rw [hx]; first | rfl | (have e := p3; simp only [Prod.mk.injEq] at e; show Ending.returned (.tuple #[.agg ⟨[strV (b0.getD 0 default), .bool _, .bool _, .bool _, .int .i64 (rnumF (b0.getD 3 default)), .int .i64 (rnumF (b0.getD 5 default)), .int .i64 (rnumF (b0.getD 6 default)), .int .i64 (rnumF (b0.getD 7 default))]⟩, .bool false]) = _; rw [e.1, e.2.1, e.2.2]; rfl)), hLow⟩
                          · refine walk_unroll (m := 5) (F := F20) (T := C20) (fuel := 1000) (d := 10) mixed (aFc (FactOk.arrLen (hO0.arr hkT) rfl rfl underTl rfl rfl) (aFc (FactOk.bi rfl rfl rfl rfl rfl rfl (boolT (by omega))) (aFc (FactOk.arrIxa (hO0.arr hkT) (show 5 < b0.length by omega) rfl rfl rfl underTl sizeT rfl rfl rfl) (aFc (FactOk.arrLd1 (j := 0) (hO0.arr hkT) (getSome (show 5 < b0.length by omega)) rfl rfl aggStr rfl rfl rfl rfl) (aFc (FactOk.bi rfl rfl rfl rfl rfl rfl (boolF (by omega))) (aFc (FactOk.bi rfl rfl rfl rfl rfl rfl (boolT (by omega))) (aFc (FactOk.arrIxa (hO0.arr hkT) (show 6 < b0.length by omega) rfl rfl rfl underTl sizeT rfl rfl rfl) (aFc (FactOk.arrLd1 (j := 0) (hO0.arr hkT) (getSome (show 6 < b0.length by omega)) rfl rfl aggStr rfl rfl rfl rfl) (aFc (FactOk.bi rfl rfl rfl rfl rfl rfl (boolF (by omega))) (aFc (FactOk.bi rfl rfl rfl rfl rfl rfl (boolT (by omega))) (aFc (FactOk.arrIxa (hO0.arr hkT) (show 7 < b0.length by omega) rfl rfl rfl underTl sizeT rfl rfl rfl) (aFc (FactOk.arrLd1 (j := 0) (hO0.arr hkT) (getSome (show 7 < b0.length by omega)) rfl rfl aggStr rfl rfl rfl rfl) (aFc (FactOk.bi rfl rfl rfl rfl rfl rfl (boolF (by omega))) (aFc (FactOk.bi rfl rfl rfl rfl rfl rfl (boolF (by omega))) (aFc (FactOk.bi rfl rfl rfl rfl rfl rfl (boolF (by omega))) (aFc (neE rfl rfl rfl rfl (by rw [decide_eq_false p3]; rfl)) aFn)))))))))))))))) (aCc (callRNum rfl rfl rfl rfl) (aCc (callRNum rfl rfl rfl rfl) (aCc (callRNum rfl rfl rfl rfl) aCn))) ?_
                            exact ostop_end e37 fun w2 hLow hIn => ⟨(by rw [show rmatF t = rmatW b0 by rw [hb0]; rfl]; clear hb0 hIn hLow hh hO0 hK0 hM0 hcp0; have hx : rmatW b0 = rmatW b0 := rfl; (conv at hx => (rhs; unfold rmatW rkind wz)); (first | (have hl : b0.length = 4 := (by omega); simp [*, -List.getD_eq_getElem?_getD, -Prod.mk.injEq] at hx) | (have hl : b0.length = 8 := (by omega); simp [*, -List.getD_eq_getElem?_getD, -Prod.mk.injEq] at hx) | (have hl : ¬ b0.length = 4 := (by omega); have hl8 : ¬ b0.length = 8 := (by omega); simp [*, -List.getD_eq_getElem?_getD, -Prod.mk.injEq] at hx)); rw [hx]; first | rfl | (have e := p3; simp only [Prod.mk.injEq] at e; show Ending.returned (.tuple #[.agg ⟨[strV (b0.getD 0 default), .bool _, .bool _, .bool _, .int .i64 (rnumF (b0.getD 3 default)), .int .i64 (rnumF (b0.getD 5 default)), .int .i64 (rnumF (b0.getD 6 default)), .int .i64 (rnumF (b0.getD 7 default))]⟩, .bool false]) = _; rw [e.1, e.2.1, e.2.2]; rfl)), hLow⟩
                  · refine walk_opsE e3 e4 e5 (F := F27) (T := C27) (fuel := 1000) (d := 10) mixed (aFc (FactOk.arrLen (hO0.arr hkT) rfl rfl underTl rfl rfl) (aFc (FactOk.bi rfl rfl rfl rfl rfl rfl (nboolT (by omega))) (aFc (FactOk.bi rfl rfl rfl rfl rfl rfl (nboolF (by omega))) (aFc (FactOk.arrIxa (hO0.arr hkT) (show 0 < b0.length by omega) rfl rfl rfl underTl sizeT rfl rfl rfl) (aFc (FactOk.arrLd1 (j := 0) (hO0.arr hkT) (getSome (show 0 < b0.length by omega)) rfl rfl aggStr rfl rfl rfl rfl) (aFc (FactOk.strEqF rfl rfl rfl rfl p2) (aFc (FactOk.arrIxa (hO0.arr hkT) (show 2 < b0.length by omega) rfl rfl rfl underTl sizeT rfl rfl rfl) (aFc (FactOk.arrLd1 (j := 0) (hO0.arr hkT) (getSome (show 2 < b0.length by omega)) rfl rfl aggStr rfl rfl rfl rfl) (aFc (FactOk.strNeT rfl rfl rfl rfl p3) (aFc (FactOk.arrIxa (hO0.arr hkT) (show 3 < b0.length by omega) rfl rfl rfl underTl sizeT rfl rfl rfl) (aFc (FactOk.arrLd1 (j := 0) (hO0.arr hkT) (getSome (show 3 < b0.length by omega)) rfl rfl aggStr rfl rfl rfl rfl) (aFc (FactOk.arrIxa (hO0.arr hkT) (show 1 < b0.length by omega) rfl rfl rfl underTl sizeT rfl rfl rfl) (aFc (FactOk.arrLd1 (j := 0) (hO0.arr hkT) (getSome (show 1 < b0.length by omega)) rfl rfl aggStr rfl rfl rfl rfl) (aFc (FactOk.strEqF rfl rfl rfl rfl p4) (aFc (FactOk.strEqF rfl rfl rfl rfl p5) (aFc (FactOk.strEqT rfl rfl rfl rfl p6) (aFc (FactOk.bi rfl rfl rfl rfl rfl rfl (boolF (by omega))) (aFc (FactOk.bi rfl rfl rfl rfl rfl rfl (boolT (by omega))) (aFc (FactOk.arrIxa (hO0.arr hkT) (show 4 < b0.length by omega) rfl rfl rfl underTl sizeT rfl rfl rfl) (aFc (FactOk.arrLd1 (j := 0) (hO0.arr hkT) (getSome (show 4 < b0.length by omega)) rfl rfl aggStr rfl rfl rfl rfl) (aFc (FactOk.strNeF rfl rfl rfl rfl p8) aFn))))))))))))))))))))) (aCc (callRNum rfl rfl rfl rfl) aCn) ?_ hh
                    exact ostop_end e38 fun w2 hLow hIn => ⟨(by rw [show rmatF t = rmatW b0 by rw [hb0]; rfl]; clear hb0 hIn hLow hh hO0 hK0 hM0 hcp0; have hx : rmatW b0 = rmatW b0 := rfl; (conv at hx => (rhs; unfold rmatW rkind wz)); (first | (have hl : b0.length = 4 := (by omega); simp [*, -List.getD_eq_getElem?_getD, -Prod.mk.injEq] at hx) | (have hl : b0.length = 8 := (by omega); simp [*, -List.getD_eq_getElem?_getD, -Prod.mk.injEq] at hx) | (have hl : ¬ b0.length = 4 := (by omega); have hl8 : ¬ b0.length = 8 := (by omega); simp [*, -List.getD_eq_getElem?_getD, -Prod.mk.injEq] at hx)); rw [hx]; rfl), hLow⟩
              · by_cases p7 : (b0.getD (1) default) = ([108, 105, 113, 117, 105, 100] : Bs)
                · by_cases p8 : (rnumF (b0.getD (3) default)) < 0
                  · refine walk_opsE e3 e4 e5 (F := F28) (T := C28) (fuel := 1000) (d := 10) mixed (aFc (FactOk.arrLen (hO0.arr hkT) rfl rfl underTl rfl rfl) (aFc (FactOk.bi rfl rfl rfl rfl rfl rfl (nboolT (by omega))) (aFc (FactOk.bi rfl rfl rfl rfl rfl rfl (nboolF (by omega))) (aFc (FactOk.arrIxa (hO0.arr hkT) (show 0 < b0.length by omega) rfl rfl rfl underTl sizeT rfl rfl rfl) (aFc (FactOk.arrLd1 (j := 0) (hO0.arr hkT) (getSome (show 0 < b0.length by omega)) rfl rfl aggStr rfl rfl rfl rfl) (aFc (FactOk.strEqF rfl rfl rfl rfl p2) (aFc (FactOk.arrIxa (hO0.arr hkT) (show 2 < b0.length by omega) rfl rfl rfl underTl sizeT rfl rfl rfl) (aFc (FactOk.arrLd1 (j := 0) (hO0.arr hkT) (getSome (show 2 < b0.length by omega)) rfl rfl aggStr rfl rfl rfl rfl) (aFc (FactOk.strNeT rfl rfl rfl rfl p3) (aFc (FactOk.arrIxa (hO0.arr hkT) (show 3 < b0.length by omega) rfl rfl rfl underTl sizeT rfl rfl rfl) (aFc (FactOk.arrLd1 (j := 0) (hO0.arr hkT) (getSome (show 3 < b0.length by omega)) rfl rfl aggStr rfl rfl rfl rfl) (aFc (FactOk.arrIxa (hO0.arr hkT) (show 1 < b0.length by omega) rfl rfl rfl underTl sizeT rfl rfl rfl) (aFc (FactOk.arrLd1 (j := 0) (hO0.arr hkT) (getSome (show 1 < b0.length by omega)) rfl rfl aggStr rfl rfl rfl rfl) (aFc (FactOk.strEqF rfl rfl rfl rfl p4) (aFc (FactOk.strEqF rfl rfl rfl rfl p5) (aFc (FactOk.strEqF rfl rfl rfl rfl p6) (aFc (FactOk.strEqT rfl rfl rfl rfl p7) (aFc (FactOk.bi rfl rfl rfl rfl rfl rfl (boolT (by omega))) aFn)))))))))))))))))) (aCc (callRNum rfl rfl rfl rfl) aCn) ?_ hh
                    exact ostop_end e39 fun w2 hLow hIn => ⟨(by rw [show rmatF t = rmatW b0 by rw [hb0]; rfl]; clear hb0 hIn hLow hh hO0 hK0 hM0 hcp0; have hx : rmatW b0 = rmatW b0 := rfl; (conv at hx => (rhs; unfold rmatW rkind wz)); (first | (have hl : b0.length = 4 := (by omega); simp [*, -List.getD_eq_getElem?_getD, -Prod.mk.injEq] at hx) | (have hl : b0.length = 8 := (by omega); simp [*, -List.getD_eq_getElem?_getD, -Prod.mk.injEq] at hx) | (have hl : ¬ b0.length = 4 := (by omega); have hl8 : ¬ b0.length = 8 := (by omega); simp [*, -List.getD_eq_getElem?_getD, -Prod.mk.injEq] at hx)); rw [hx]; rfl), hLow⟩
                  · by_cases p9 : (b0.getD (4) default) = ([101, 109, 105, 116] : Bs)
                    · refine walk_opsE e3 e4 e5 (F := F29) (T := C29) (fuel := 1000) (d := 10) mixed (aFc (FactOk.arrLen (hO0.arr hkT) rfl rfl underTl rfl rfl) (aFc (FactOk.bi rfl rfl rfl rfl rfl rfl (nboolT (by omega))) (aFc (FactOk.bi rfl rfl rfl rfl rfl rfl (nboolF (by omega))) (aFc (FactOk.arrIxa (hO0.arr hkT) (show 0 < b0.length by omega) rfl rfl rfl underTl sizeT rfl rfl rfl) (aFc (FactOk.arrLd1 (j := 0) (hO0.arr hkT) (getSome (show 0 < b0.length by omega)) rfl rfl aggStr rfl rfl rfl rfl) (aFc (FactOk.strEqF rfl rfl rfl rfl p2) (aFc (FactOk.arrIxa (hO0.arr hkT) (show 2 < b0.length by omega) rfl rfl rfl underTl sizeT rfl rfl rfl) (aFc (FactOk.arrLd1 (j := 0) (hO0.arr hkT) (getSome (show 2 < b0.length by omega)) rfl rfl aggStr rfl rfl rfl rfl) (aFc (FactOk.strNeT rfl rfl rfl rfl p3) (aFc (FactOk.arrIxa (hO0.arr hkT) (show 3 < b0.length by omega) rfl rfl rfl underTl sizeT rfl rfl rfl) (aFc (FactOk.arrLd1 (j := 0) (hO0.arr hkT) (getSome (show 3 < b0.length by omega)) rfl rfl aggStr rfl rfl rfl rfl) (aFc (FactOk.arrIxa (hO0.arr hkT) (show 1 < b0.length by omega) rfl rfl rfl underTl sizeT rfl rfl rfl) (aFc (FactOk.arrLd1 (j := 0) (hO0.arr hkT) (getSome (show 1 < b0.length by omega)) rfl rfl aggStr rfl rfl rfl rfl) (aFc (FactOk.strEqF rfl rfl rfl rfl p4) (aFc (FactOk.strEqF rfl rfl rfl rfl p5) (aFc (FactOk.strEqF rfl rfl rfl rfl p6) (aFc (FactOk.strEqT rfl rfl rfl rfl p7) (aFc (FactOk.bi rfl rfl rfl rfl rfl rfl (boolF (by omega))) (aFc (FactOk.bi rfl rfl rfl rfl rfl rfl (boolT (by omega))) (aFc (FactOk.arrIxa (hO0.arr hkT) (show 4 < b0.length by omega) rfl rfl rfl underTl sizeT rfl rfl rfl) (aFc (FactOk.arrLd1 (j := 0) (hO0.arr hkT) (getSome (show 4 < b0.length by omega)) rfl rfl aggStr rfl rfl rfl rfl) (aFc (FactOk.strNeT rfl rfl rfl rfl p9) aFn)))))))))))))))))))))) (aCc (callRNum rfl rfl rfl rfl) aCn) ?_ hh
                      by_cases p0 : (rnumF (b0.getD (5) default)) < 0
                      · refine walk_unroll (m := 5) (F := F16) (T := C16) (fuel := 1000) (d := 10) mixed (aFc (FactOk.arrLen (hO0.arr hkT) rfl rfl underTl rfl rfl) (aFc (FactOk.bi rfl rfl rfl rfl rfl rfl (boolT (by omega))) (aFc (FactOk.arrIxa (hO0.arr hkT) (show 5 < b0.length by omega) rfl rfl rfl underTl sizeT rfl rfl rfl) (aFc (FactOk.arrLd1 (j := 0) (hO0.arr hkT) (getSome (show 5 < b0.length by omega)) rfl rfl aggStr rfl rfl rfl rfl) (aFc (FactOk.bi rfl rfl rfl rfl rfl rfl (boolT (by omega))) aFn))))) (aCc (callRNum rfl rfl rfl rfl) aCn) ?_
                        exact ostop_end e40 fun w2 hLow hIn => ⟨(by rw [show rmatF t = rmatW b0 by rw [hb0]; rfl]; clear hb0 hIn hLow hh hO0 hK0 hM0 hcp0; have hx : rmatW b0 = rmatW b0 := rfl; (conv at hx => (rhs; unfold rmatW rkind wz)); (first | (have hl : b0.length = 4 := (by omega); simp [*, -List.getD_eq_getElem?_getD, -Prod.mk.injEq] at hx) | (have hl : b0.length = 8 := (by omega); simp [*, -List.getD_eq_getElem?_getD, -Prod.mk.injEq] at hx) | (have hl : ¬ b0.length = 4 := (by omega); have hl8 : ¬ b0.length = 8 := (by omega); simp [*, -List.getD_eq_getElem?_getD, -Prod.mk.injEq] at hx)); rw [hx]; rfl), hLow⟩
                      · by_cases p1 : (rnumF (b0.getD (6) default)) < 0
                        · refine walk_unroll (m := 5) (F := F17) (T := C17) (fuel := 1000) (d := 10) mixed (aFc (FactOk.arrLen (hO0.arr hkT) rfl rfl underTl rfl rfl) (aFc (FactOk.bi rfl rfl rfl rfl rfl rfl (boolT (by omega))) (aFc (FactOk.arrIxa (hO0.arr hkT) (show 5 < b0.length by omega) rfl rfl rfl underTl sizeT rfl rfl rfl) (aFc (FactOk.arrLd1 (j := 0) (hO0.arr hkT) (getSome (show 5 < b0.length by omega)) rfl rfl aggStr rfl rfl rfl rfl) (aFc (FactOk.bi rfl rfl rfl rfl rfl rfl (boolF (by omega))) (aFc (FactOk.bi rfl rfl rfl rfl rfl rfl (boolT (by omega))) (aFc (FactOk.arrIxa (hO0.arr hkT) (show 6 < b0.length by omega) rfl rfl rfl underTl sizeT rfl rfl rfl) (aFc (FactOk.arrLd1 (j := 0) (hO0.arr hkT) (getSome (show 6 < b0.length by omega)) rfl rfl aggStr rfl rfl rfl rfl) (aFc (FactOk.bi rfl rfl rfl rfl rfl rfl (boolT (by omega))) aFn))))))))) (aCc (callRNum rfl rfl rfl rfl) (aCc (callRNum rfl rfl rfl rfl) aCn)) ?_
                          exact ostop_end e41 fun w2 hLow hIn => ⟨(by rw [show rmatF t = rmatW b0 by rw [hb0]; rfl]; clear hb0 hIn hLow hh hO0 hK0 hM0 hcp0; have hx : rmatW b0 = rmatW b0 := rfl; (conv at hx => (rhs; unfold rmatW rkind wz)); (first | (have hl : b0.length = 4 := (by omega); simp [*, -List.getD_eq_getElem?_getD, -Prod.mk.injEq] at hx) | (have hl : b0.length = 8 := (by omega); simp [*, -List.getD_eq_getElem?_getD, -Prod.mk.injEq] at hx) | (have hl : ¬ b0.length = 4 := (by omega); have hl8 : ¬ b0.length = 8 := (by omega); simp [*, -List.getD_eq_getElem?_getD, -Prod.mk.injEq] at hx)); rw [hx]; rfl), hLow⟩
                        · by_cases p2 : (rnumF (b0.getD (7) default)) < 0
                          · refine walk_unroll (m := 5) (F := F18) (T := C18) (fuel := 1000) (d := 10) mixed (aFc (FactOk.arrLen (hO0.arr hkT) rfl rfl underTl rfl rfl) (aFc (FactOk.bi rfl rfl rfl rfl rfl rfl (boolT (by omega))) (aFc (FactOk.arrIxa (hO0.arr hkT) (show 5 < b0.length by omega) rfl rfl rfl underTl sizeT rfl rfl rfl) (aFc (FactOk.arrLd1 (j := 0) (hO0.arr hkT) (getSome (show 5 < b0.length by omega)) rfl rfl aggStr rfl rfl rfl rfl) (aFc (FactOk.bi rfl rfl rfl rfl rfl rfl (boolF (by omega))) (aFc (FactOk.bi rfl rfl rfl rfl rfl rfl (boolT (by omega))) (aFc (FactOk.arrIxa (hO0.arr hkT) (show 6 < b0.length by omega) rfl rfl rfl underTl sizeT rfl rfl rfl) (aFc (FactOk.arrLd1 (j := 0) (hO0.arr hkT) (getSome (show 6 < b0.length by omega)) rfl rfl aggStr rfl rfl rfl rfl) (aFc (FactOk.bi rfl rfl rfl rfl rfl rfl (boolF (by omega))) (aFc (FactOk.bi rfl rfl rfl rfl rfl rfl (boolT (by omega))) (aFc (FactOk.arrIxa (hO0.arr hkT) (show 7 < b0.length by omega) rfl rfl rfl underTl sizeT rfl rfl rfl) (aFc (FactOk.arrLd1 (j := 0) (hO0.arr hkT) (getSome (show 7 < b0.length by omega)) rfl rfl aggStr rfl rfl rfl rfl) (aFc (FactOk.bi rfl rfl rfl rfl rfl rfl (boolT (by omega))) aFn))))))))))))) (aCc (callRNum rfl rfl rfl rfl) (aCc (callRNum rfl rfl rfl rfl) (aCc (callRNum rfl rfl rfl rfl) aCn))) ?_
                            exact ostop_end e42 fun w2 hLow hIn => ⟨(by rw [show rmatF t = rmatW b0 by rw [hb0]; rfl]; clear hb0 hIn hLow hh hO0 hK0 hM0 hcp0; have hx : rmatW b0 = rmatW b0 := rfl; (conv at hx => (rhs; unfold rmatW rkind wz)); (first | (have hl : b0.length = 4 := (by omega); simp [*, -List.getD_eq_getElem?_getD, -Prod.mk.injEq] at hx) | (have hl : b0.length = 8 := (by omega); simp [*, -List.getD_eq_getElem?_getD, -Prod.mk.injEq] at hx) | (have hl : ¬ b0.length = 4 := (by omega); have hl8 : ¬ b0.length = 8 := (by omega); simp [*, -List.getD_eq_getElem?_getD, -Prod.mk.injEq] at hx)); rw [hx]; rfl), hLow⟩
                          · by_cases p3 : (((rnumF (b0.getD (5) default)), (rnumF (b0.getD (6) default)), (rnumF (b0.getD (7) default))) : E3) = ((0, 0, 0) : E3)
                            · refine walk_unroll (m := 5) (F := F19) (T := C19) (fuel := 1000) (d := 10) mixed (aFc (FactOk.arrLen (hO0.arr hkT) rfl rfl underTl rfl rfl) (aFc (FactOk.bi rfl rfl rfl rfl rfl rfl (boolT (by omega))) (aFc (FactOk.arrIxa (hO0.arr hkT) (show 5 < b0.length by omega) rfl rfl rfl underTl sizeT rfl rfl rfl) (aFc (FactOk.arrLd1 (j := 0) (hO0.arr hkT) (getSome (show 5 < b0.length by omega)) rfl rfl aggStr rfl rfl rfl rfl) (aFc (FactOk.bi rfl rfl rfl rfl rfl rfl (boolF (by omega))) (aFc (FactOk.bi rfl rfl rfl rfl rfl rfl (boolT (by omega))) (aFc (FactOk.arrIxa (hO0.arr hkT) (show 6 < b0.length by omega) rfl rfl rfl underTl sizeT rfl rfl rfl) (aFc (FactOk.arrLd1 (j := 0) (hO0.arr hkT) (getSome (show 6 < b0.length by omega)) rfl rfl aggStr rfl rfl rfl rfl) (aFc (FactOk.bi rfl rfl rfl rfl rfl rfl (boolF (by omega))) (aFc (FactOk.bi rfl rfl rfl rfl rfl rfl (boolT (by omega))) (aFc (FactOk.arrIxa (hO0.arr hkT) (show 7 < b0.length by omega) rfl rfl rfl underTl sizeT rfl rfl rfl) (aFc (FactOk.arrLd1 (j := 0) (hO0.arr hkT) (getSome (show 7 < b0.length by omega)) rfl rfl aggStr rfl rfl rfl rfl) (aFc (FactOk.bi rfl rfl rfl rfl rfl rfl (boolF (by omega))) (aFc (FactOk.bi rfl rfl rfl rfl rfl rfl (boolF (by omega))) (aFc (FactOk.bi rfl rfl rfl rfl rfl rfl (boolF (by omega))) (aFc (neE rfl rfl rfl rfl (by rw [decide_eq_true p3]; rfl)) aFn)))))))))))))))) (aCc (callRNum rfl rfl rfl rfl) (aCc (callRNum rfl rfl rfl rfl) (aCc (callRNum rfl rfl rfl rfl) aCn))) ?_
                              exact ostop_end e43 fun w2 hLow hIn => ⟨(by rw [show rmatF t = rmatW b0 by rw [hb0]; rfl]; clear hb0 hIn hLow hh hO0 hK0 hM0 hcp0; have hx : rmatW b0 = rmatW b0 := rfl; (conv at hx => (rhs; unfold rmatW rkind wz)); (first | (have hl : b0.length = 4 := (by omega); simp [*, -List.getD_eq_getElem?_getD, -Prod.mk.injEq] at hx) | (have hl : b0.length = 8 := (by omega); simp [*, -List.getD_eq_getElem?_getD, -Prod.mk.injEq] at hx) | (have hl : ¬ b0.length = 4 := (by omega); have hl8 : ¬ b0.length = 8 := (by omega); simp [*, -List.getD_eq_getElem?_getD, -Prod.mk.injEq] at hx)); rw [hx]; first | rfl | (have e := p3; simp only [Prod.mk.injEq] at e; show Ending.returned (.tuple #[.agg ⟨[strV (b0.getD 0 default), .bool _, .bool _, .bool _, .int .i64 (rnumF (b0.getD 3 default)), .int .i64 (rnumF (b0.getD 5 default)), .int .i64 (rnumF (b0.getD 6 default)), .int .i64 (rnumF (b0.getD 7 default))]⟩, .bool false]) = _; rw [e.1, e.2.1, e.2.2]; rfl)), hLow⟩
                            · refine walk_unroll (m := 5) (F := F20) (T := C20) (fuel := 1000) (d := 10) mixed (aFc (FactOk.arrLen (hO0.arr hkT) rfl rfl underTl rfl rfl) (aFc (FactOk.bi rfl rfl rfl rfl rfl rfl (boolT (by omega))) (aFc (FactOk.arrIxa (hO0.arr hkT) (show 5 < b0.length by omega) rfl rfl rfl underTl sizeT rfl rfl rfl) (aFc (FactOk.arrLd1 (j := 0) (hO0.arr hkT) (getSome (show 5 < b0.length by omega)) rfl rfl aggStr rfl rfl rfl rfl) (aFc (FactOk.bi rfl rfl rfl rfl rfl rfl (boolF (by omega))) (aFc (FactOk.bi rfl rfl rfl rfl rfl rfl (boolT (by omega))) (aFc (FactOk.arrIxa (hO0.arr hkT) (show 6 < b0.length by omega) rfl rfl rfl underTl sizeT rfl rfl rfl) (aFc (FactOk.arrLd1 (j := 0) (hO0.arr hkT) (getSome (show 6 < b0.length by omega)) rfl rfl aggStr rfl rfl rfl rfl) (aFc (FactOk.bi rfl rfl rfl rfl rfl rfl (boolF (by omega))) (aFc (FactOk.bi rfl rfl rfl rfl rfl rfl (boolT (by omega))) (aFc (FactOk.arrIxa (hO0.arr hkT) (show 7 < b0.length by omega) rfl rfl rfl underTl sizeT rfl rfl rfl) (aFc (FactOk.arrLd1 (j := 0) (hO0.arr hkT) (getSome (show 7 < b0.length by omega)) rfl rfl aggStr rfl rfl rfl rfl) (aFc (FactOk.bi rfl rfl rfl rfl rfl rfl (boolF (by omega))) (aFc (FactOk.bi rfl rfl rfl rfl rfl rfl (boolF (by omega))) (aFc (FactOk.bi rfl rfl rfl rfl rfl rfl (boolF (by omega))) (aFc (neE rfl rfl rfl rfl (by rw [decide_eq_false p3]; rfl)) aFn)))))))))))))))) (aCc (callRNum rfl rfl rfl rfl) (aCc (callRNum rfl rfl rfl rfl) (aCc (callRNum rfl rfl rfl rfl) aCn))) ?_
                              exact ostop_end e44 fun w2 hLow hIn => ⟨(by rw [show rmatF t = rmatW b0 by rw [hb0]; rfl]; clear hb0 hIn hLow hh hO0 hK0 hM0 hcp0; have hx : rmatW b0 = rmatW b0 := rfl; (conv at hx => (rhs; unfold rmatW rkind wz)); (first | (have hl : b0.length = 4 := (by omega); simp [*, -List.getD_eq_getElem?_getD, -Prod.mk.injEq] at hx) | (have hl : b0.length = 8 := (by omega); simp [*, -List.getD_eq_getElem?_getD, -Prod.mk.injEq] at hx) | (have hl : ¬ b0.length = 4 := (by omega); have hl8 : ¬ b0.length = 8 := (by omega); simp [*, -List.getD_eq_getElem?_getD, -Prod.mk.injEq] at hx)); rw [hx]; first | rfl | (have e := p3; simp only [Prod.mk.injEq] at e; show Ending.returned (.tuple #[.agg ⟨[strV (b0.getD 0 default), .bool _, .bool _, .bool _, .int .i64 (rnumF (b0.getD 3 default)), .int .i64 (rnumF (b0.getD 5 default)), .int .i64 (rnumF (b0.getD 6 default)), .int .i64 (rnumF (b0.getD 7 default))]⟩, .bool false]) = _; rw [e.1, e.2.1, e.2.2]; rfl)), hLow⟩
                    · refine walk_opsE e3 e4 e5 (F := F30) (T := C30) (fuel := 1000) (d := 10) mixed (aFc (FactOk.arrLen (hO0.arr hkT) rfl rfl underTl rfl rfl) (aFc (FactOk.bi rfl rfl rfl rfl rfl rfl (nboolT (by omega))) (aFc (FactOk.bi rfl rfl rfl rfl rfl rfl (nboolF (by omega))) (aFc (FactOk.arrIxa (hO0.arr hkT) (show 0 < b0.length by omega) rfl rfl rfl underTl sizeT rfl rfl rfl) (aFc (FactOk.arrLd1 (j := 0) (hO0.arr hkT) (getSome (show 0 < b0.length by omega)) rfl rfl aggStr rfl rfl rfl rfl) (aFc (FactOk.strEqF rfl rfl rfl rfl p2) (aFc (FactOk.arrIxa (hO0.arr hkT) (show 2 < b0.length by omega) rfl rfl rfl underTl sizeT rfl rfl rfl) (aFc (FactOk.arrLd1 (j := 0) (hO0.arr hkT) (getSome (show 2 < b0.length by omega)) rfl rfl aggStr rfl rfl rfl rfl) (aFc (FactOk.strNeT rfl rfl rfl rfl p3) (aFc (FactOk.arrIxa (hO0.arr hkT) (show 3 < b0.length by omega) rfl rfl rfl underTl sizeT rfl rfl rfl) (aFc (FactOk.arrLd1 (j := 0) (hO0.arr hkT) (getSome (show 3 < b0.length by omega)) rfl rfl aggStr rfl rfl rfl rfl) (aFc (FactOk.arrIxa (hO0.arr hkT) (show 1 < b0.length by omega) rfl rfl rfl underTl sizeT rfl rfl rfl) (aFc (FactOk.arrLd1 (j := 0) (hO0.arr hkT) (getSome (show 1 < b0.length by omega)) rfl rfl aggStr rfl rfl rfl rfl) (aFc (FactOk.strEqF rfl rfl rfl rfl p4) (aFc (FactOk.strEqF rfl rfl rfl rfl p5) (aFc (FactOk.strEqF rfl rfl rfl rfl p6) (aFc (FactOk.strEqT rfl rfl rfl rfl p7) (aFc (FactOk.bi rfl rfl rfl rfl rfl rfl (boolF (by omega))) (aFc (FactOk.bi rfl rfl rfl rfl rfl rfl (boolT (by omega))) (aFc (FactOk.arrIxa (hO0.arr hkT) (show 4 < b0.length by omega) rfl rfl rfl underTl sizeT rfl rfl rfl) (aFc (FactOk.arrLd1 (j := 0) (hO0.arr hkT) (getSome (show 4 < b0.length by omega)) rfl rfl aggStr rfl rfl rfl rfl) (aFc (FactOk.strNeF rfl rfl rfl rfl p9) aFn)))))))))))))))))))))) (aCc (callRNum rfl rfl rfl rfl) aCn) ?_ hh
                      exact ostop_end e45 fun w2 hLow hIn => ⟨(by rw [show rmatF t = rmatW b0 by rw [hb0]; rfl]; clear hb0 hIn hLow hh hO0 hK0 hM0 hcp0; have hx : rmatW b0 = rmatW b0 := rfl; (conv at hx => (rhs; unfold rmatW rkind wz)); (first | (have hl : b0.length = 4 := (by omega); simp [*, -List.getD_eq_getElem?_getD, -Prod.mk.injEq] at hx) | (have hl : b0.length = 8 := (by omega); simp [*, -List.getD_eq_getElem?_getD, -Prod.mk.injEq] at hx) | (have hl : ¬ b0.length = 4 := (by omega); have hl8 : ¬ b0.length = 8 := (by omega); simp [*, -List.getD_eq_getElem?_getD, -Prod.mk.injEq] at hx)); rw [hx]; rfl), hLow⟩
                · refine walk_opsE e3 e4 e5 (F := F31) (T := C31) (fuel := 1000) (d := 10) mixed (aFc (FactOk.arrLen (hO0.arr hkT) rfl rfl underTl rfl rfl) (aFc (FactOk.bi rfl rfl rfl rfl rfl rfl (nboolT (by omega))) (aFc (FactOk.bi rfl rfl rfl rfl rfl rfl (nboolF (by omega))) (aFc (FactOk.arrIxa (hO0.arr hkT) (show 0 < b0.length by omega) rfl rfl rfl underTl sizeT rfl rfl rfl) (aFc (FactOk.arrLd1 (j := 0) (hO0.arr hkT) (getSome (show 0 < b0.length by omega)) rfl rfl aggStr rfl rfl rfl rfl) (aFc (FactOk.strEqF rfl rfl rfl rfl p2) (aFc (FactOk.arrIxa (hO0.arr hkT) (show 2 < b0.length by omega) rfl rfl rfl underTl sizeT rfl rfl rfl) (aFc (FactOk.arrLd1 (j := 0) (hO0.arr hkT) (getSome (show 2 < b0.length by omega)) rfl rfl aggStr rfl rfl rfl rfl) (aFc (FactOk.strNeT rfl rfl rfl rfl p3) (aFc (FactOk.arrIxa (hO0.arr hkT) (show 3 < b0.length by omega) rfl rfl rfl underTl sizeT rfl rfl rfl) (aFc (FactOk.arrLd1 (j := 0) (hO0.arr hkT) (getSome (show 3 < b0.length by omega)) rfl rfl aggStr rfl rfl rfl rfl) (aFc (FactOk.arrIxa (hO0.arr hkT) (show 1 < b0.length by omega) rfl rfl rfl underTl sizeT rfl rfl rfl) (aFc (FactOk.arrLd1 (j := 0) (hO0.arr hkT) (getSome (show 1 < b0.length by omega)) rfl rfl aggStr rfl rfl rfl rfl) (aFc (FactOk.strEqF rfl rfl rfl rfl p4) (aFc (FactOk.strEqF rfl rfl rfl rfl p5) (aFc (FactOk.strEqF rfl rfl rfl rfl p6) (aFc (FactOk.strEqF rfl rfl rfl rfl p7) aFn))))))))))))))))) (aCc (callRNum rfl rfl rfl rfl) aCn) ?_ hh
                  exact ostop_end e46 fun w2 hLow hIn => ⟨(by rw [show rmatF t = rmatW b0 by rw [hb0]; rfl]; clear hb0 hIn hLow hh hO0 hK0 hM0 hcp0; have hx : rmatW b0 = rmatW b0 := rfl; (conv at hx => (rhs; unfold rmatW rkind wz)); (first | (have hl : b0.length = 4 := (by omega); simp [*, -List.getD_eq_getElem?_getD, -Prod.mk.injEq] at hx) | (have hl : b0.length = 8 := (by omega); simp [*, -List.getD_eq_getElem?_getD, -Prod.mk.injEq] at hx) | (have hl : ¬ b0.length = 4 := (by omega); have hl8 : ¬ b0.length = 8 := (by omega); simp [*, -List.getD_eq_getElem?_getD, -Prod.mk.injEq] at hx)); rw [hx]; rfl), hLow⟩
        · refine walk_opsE e3 e4 e5 (F := F32) (T := C32) (fuel := 1000) (d := 10) mixed (aFc (FactOk.arrLen (hO0.arr hkT) rfl rfl underTl rfl rfl) (aFc (FactOk.bi rfl rfl rfl rfl rfl rfl (nboolT (by omega))) (aFc (FactOk.bi rfl rfl rfl rfl rfl rfl (nboolF (by omega))) (aFc (FactOk.arrIxa (hO0.arr hkT) (show 0 < b0.length by omega) rfl rfl rfl underTl sizeT rfl rfl rfl) (aFc (FactOk.arrLd1 (j := 0) (hO0.arr hkT) (getSome (show 0 < b0.length by omega)) rfl rfl aggStr rfl rfl rfl rfl) (aFc (FactOk.strEqF rfl rfl rfl rfl p2) (aFc (FactOk.arrIxa (hO0.arr hkT) (show 2 < b0.length by omega) rfl rfl rfl underTl sizeT rfl rfl rfl) (aFc (FactOk.arrLd1 (j := 0) (hO0.arr hkT) (getSome (show 2 < b0.length by omega)) rfl rfl aggStr rfl rfl rfl rfl) (aFc (FactOk.strNeF rfl rfl rfl rfl p3) aFn))))))))) aCn ?_ hh
          exact ostop_end e47 fun w2 hLow hIn => ⟨(by rw [show rmatF t = rmatW b0 by rw [hb0]; rfl]; clear hb0 hIn hLow hh hO0 hK0 hM0 hcp0; have hx : rmatW b0 = rmatW b0 := rfl; (conv at hx => (rhs; unfold rmatW rkind wz)); (first | (have hl : b0.length = 4 := (by omega); simp [*, -List.getD_eq_getElem?_getD, -Prod.mk.injEq] at hx) | (have hl : b0.length = 8 := (by omega); simp [*, -List.getD_eq_getElem?_getD, -Prod.mk.injEq] at hx) | (have hl : ¬ b0.length = 4 := (by omega); have hl8 : ¬ b0.length = 8 := (by omega); simp [*, -List.getD_eq_getElem?_getD, -Prod.mk.injEq] at hx)); rw [hx]; rfl), hLow⟩
    · refine walk_opsE e3 e4 e5 (F := F33) (T := C33) (fuel := 1000) (d := 10) mixed (aFc (FactOk.arrLen (hO0.arr hkT) rfl rfl underTl rfl rfl) (aFc (FactOk.bi rfl rfl rfl rfl rfl rfl (nboolT (by omega))) (aFc (FactOk.bi rfl rfl rfl rfl rfl rfl (nboolT (by omega))) aFn))) aCn ?_ hh
      exact ostop_end e48 fun w2 hLow hIn => ⟨(by rw [show rmatF t = rmatW b0 by rw [hb0]; rfl]; clear hb0 hIn hLow hh hO0 hK0 hM0 hcp0; have hx : rmatW b0 = rmatW b0 := rfl; (conv at hx => (rhs; unfold rmatW rkind wz)); (first | (have hl : b0.length = 4 := (by omega); simp [*, -List.getD_eq_getElem?_getD, -Prod.mk.injEq] at hx) | (have hl : b0.length = 8 := (by omega); simp [*, -List.getD_eq_getElem?_getD, -Prod.mk.injEq] at hx) | (have hl : ¬ b0.length = 4 := (by omega); have hl8 : ¬ b0.length = 8 := (by omega); simp [*, -List.getD_eq_getElem?_getD, -Prod.mk.injEq] at hx)); rw [hx]; rfl), hLow⟩
end RMatG
end AE
end Go.Proofs.YtblhndlmgibljaaDoor

/- The reference's lines against the reader's. -/
namespace Go.Proofs.YtblhndlmgibljaaDoor
open Go Go.Proofs Go.RowKit
set_option maxRecDepth 100000
namespace AE
theorem rkind_no {s : Bs} (h : kindIx s < 0) : rkind s = none := by
  unfold kindIx at h
  unfold rkind
  repeat' split at h
  all_goals first | omega | skip
  rename_i h0 h1 h2 h3
  rw [if_neg (fun e => h0 e.symm), if_neg (fun e => h1 e.symm), if_neg (fun e => h2 e.symm), if_neg (fun e => h3 e.symm)]
theorem rkind_yes {s : Bs} (h : ¬ kindIx s < 0) : rkind s = some ((kdAt (kindIx s)).2.1, (kdAt (kindIx s)).2.2.1, (kdAt (kindIx s)).2.2.2) := by
  unfold kindIx at h
  repeat' split at h
  all_goals first | omega | skip
  · rename_i h0
    rw [kindIx_0 h0, ← h0]
    rfl
  · rename_i h0 h1
    rw [kindIx_1 h0 h1, ← h1]
    rfl
  · rename_i h0 h1 h2
    rw [kindIx_2 h0 h1 h2, ← h2]
    rfl
  · rename_i h0 h1 h2 h3
    rw [kindIx_3 h0 h1 h2 h3, ← h3]
    rfl
theorem rnum_bad {s : Bs} (h : numBad s = true) : rnumF s = -1 := by unfold rnumF; rw [if_pos h]
theorem rnum_good {s : Bs} (h : ¬ numBad s = true) : rnumF s = (atoiR s).1 ∧ ¬ (atoiR s).1 < 0 := by
  refine ⟨by unfold rnumF; rw [if_neg h], fun hn => h ?_⟩
  unfold numBad
  rw [decide_eq_true hn]
  simp
theorem numBad_nil : numBad [] = true := by kernel_rfl
theorem wordF_bad {st : Rd} (h : st.2 = true) : (wordF st).2.2 = true := by
  unfold wordF
  split
  · rfl
  · simp [h]
theorem isF_bad {w : Bs} {st : Rd} (h : st.2 = true) : (isF w st).2 = true := by
  unfold isF
  simp [wordF_bad h]
theorem numF_bad {st : Rd} (h : st.2 = true) : (numF st).2.2 = true := by
  unfold numF
  simp [wordF_bad h]
theorem matF_end {ws : List Bs} (h : ¬ kindIx (wd2 (ws, false)) < 0) (h2 : (rd8 (ws, false)).2.2 = true) (h3 : 0 < (((rd4 (ws, false)).2.1.length : Nat) : Int)) : (matF (ws, false)).2.2 = true := by
  rw [matF_long h h3]
  simp [h2]
theorem matF_rest {ws : List Bs} (h : ¬ kindIx (wd2 (ws, false)) < 0) (h2 : (rd4 (ws, false)).2.2 = true) : (matF (ws, false)).2.2 = true := by
  by_cases h3 : 0 < (((rd4 (ws, false)).2.1.length : Nat) : Int)
  · exact matF_end h (numF_bad (numF_bad (numF_bad (isF_bad h2)))) h3
  · rw [matF_short h h3]
    exact h2
theorem bad_out {ws : List Bs} (h1 : (rmatW ws).2 = false) (h2 : (matF (ws, false)).2.2 = true) : (rmatW ws).2 = (!(matF (ws, false)).2.2) ∧ ((rmatW ws).2 = true → (rmatW ws).1 = (matF (ws, false)).1) := by
  rw [h1, h2]
  exact ⟨rfl, fun h => by cases h⟩
theorem rmat_ln (ws : List Bs) : (rmatW ws).2 = (!(matF (ws, false)).2.2) ∧ ((rmatW ws).2 = true → (rmatW ws).1 = (matF (ws, false)).1) := by
  by_cases hk : kindIx (wd2 (ws, false)) < 0
  · rw [matF_bad hk]
    refine ⟨?_, fun h => ?_⟩
    all_goals
      have hz : (rmatW ws).2 = false := by
        unfold rmatW
        split
        · rfl
        · rename_i hl
          have : ws.getD 1 default = wd2 (ws, false) := by
            match ws, hl with
            | [], hl => simp at hl
            | [_], hl => simp at hl
            | _ :: _ :: _, _ => rfl
          rw [this, rkind_no hk]
          repeat' split
          all_goals first | rfl | contradiction
    · rw [hz]
      rfl
    · rw [hz] at h
      cases h
  · have hr := rkind_yes hk
    match ws, hk, hr with
    | [], hk, hr => exact absurd (show kindIx [] < 0 by decide) hk
    | [a], hk, hr => exact absurd (show kindIx [] < 0 by decide) hk
    | [a, b], hk, hr => exact bad_out (by simp [rmatW]) (matF_rest hk (by simp [rd4, numF, isF, rd2, wordF, numBad_nil]))
    | [a, b, c], hk, hr => exact bad_out (by simp [rmatW]) (matF_rest hk (by simp [rd4, numF, isF, rd2, wordF, numBad_nil]))
    | [a, b, c, d], hk, hr =>
      rw [matF_short hk (by simp [rd4, numF, isF, rd2, wordF])]
      have hr' : rkind b = some ((kdAt (kindIx b)).2.1, (kdAt (kindIx b)).2.2.1, (kdAt (kindIx b)).2.2.2) := hr
      have hb : ¬ b = [] := fun e => by
        rw [e] at hk
        exact hk (show kindIx [] < 0 by decide)
      by_cases hd : numBad d = true
      · have h1 := rnum_bad hd
        simp [rmatW, hr', h1, rd4, numF, isF, rd2, wordF, hd]
        repeat' split
        all_goals simp_all
      · obtain ⟨h1, h2⟩ := rnum_good hd
        have hd0 : ¬ d = [] := fun e => by
          rw [e] at hd
          exact hd numBad_nil
        have hd' : numBad d = false := by simpa using hd
        by_cases ha : a = []
        · simp [rmatW, ha, rd4, numF, isF, rd2, wordF]
        · by_cases hc : c = [102, 97, 100, 101]
          · simp [rmatW, hr', h1, h2, rd4, numF, isF, rd2, wd2, wordF, hd', ha, hc, hb, hd0]
          · simp [rmatW, ha, hc, rd4, numF, isF, rd2, wordF]
    | [a, b, c, d, e], hk, hr => exact bad_out (by simp [rmatW]) (matF_end hk (by simp [rd8, rd7, rd6, rd4, numF, isF, rd2, wordF, numBad_nil]) (by simp [rd4, numF, isF, rd2, wordF]))
    | [a, b, c, d, e, f], hk, hr => exact bad_out (by simp [rmatW]) (matF_end hk (by simp [rd8, rd7, rd6, rd4, numF, isF, rd2, wordF, numBad_nil]) (by simp [rd4, numF, isF, rd2, wordF]))
    | [a, b, c, d, e, f, g], hk, hr => exact bad_out (by simp [rmatW]) (matF_end hk (by simp [rd8, rd7, rd6, rd4, numF, isF, rd2, wordF, numBad_nil]) (by simp [rd4, numF, isF, rd2, wordF]))
    | [a, b, c, d, e, f, g, h], hk, hr =>
      have hr' : rkind b = some ((kdAt (kindIx b)).2.1, (kdAt (kindIx b)).2.2.1, (kdAt (kindIx b)).2.2.2) := hr
      have hb : ¬ b = [] := fun e => by
        rw [e] at hk
        exact hk (show kindIx [] < 0 by decide)
      have h3 : 0 < (((rd4 ([a, b, c, d, e, f, g, h], false)).2.1.length : Nat) : Int) := by simp [rd4, numF, isF, rd2, wordF]
      by_cases ha : a = []
      · exact bad_out (by simp [rmatW, ha]) (matF_rest hk (by simp [rd4, numF, isF, rd2, wordF, ha]))
      by_cases hc : c = [102, 97, 100, 101]
      case neg => exact bad_out (by simp [rmatW, ha, hc]) (matF_rest hk (by simp [rd4, numF, isF, rd2, wordF, hc]))
      by_cases hd : numBad d = true
      · exact bad_out (by simp [rmatW, ha, hc, hr', rnum_bad hd]) (matF_rest hk (by simp [rd4, numF, isF, rd2, wordF, hd]))
      by_cases he : e = [101, 109, 105, 116]
      case neg => exact bad_out (by simp only [rmatW]; simp [ha, hc, hr', he]; try ((repeat' split) <;> rfl)) (matF_end hk (by simp [rd8, rd7, rd6, rd4, numF, isF, rd2, wordF, he]) h3)
      by_cases hf : numBad f = true
      · exact bad_out (by simp only [rmatW]; simp [ha, hc, hr', he, rnum_bad hf]; try ((repeat' split) <;> rfl)) (matF_end hk (by simp [rd8, rd7, rd6, rd4, numF, isF, rd2, wordF, hf]) h3)
      by_cases hg : numBad g = true
      · exact bad_out (by simp only [rmatW]; simp [ha, hc, hr', he, rnum_bad hg]; try ((repeat' split) <;> rfl)) (matF_end hk (by simp [rd8, rd7, rd6, rd4, numF, isF, rd2, wordF, hg]) h3)
      by_cases hh : numBad h = true
      · exact bad_out (by simp only [rmatW]; simp [ha, hc, hr', he, rnum_bad hh]; try ((repeat' split) <;> rfl)) (matF_end hk (by simp [rd8, rd7, rd6, rd4, numF, isF, rd2, wordF, hh]) h3)
      have nn : ∀ {s : Bs}, ¬ numBad s = true → ¬ s = [] := fun hs e => by
        rw [e] at hs
        exact hs numBad_nil
      obtain ⟨d1, d2⟩ := rnum_good hd
      obtain ⟨f1, f2⟩ := rnum_good hf
      obtain ⟨g1, g2⟩ := rnum_good hg
      obtain ⟨i1, i2⟩ := rnum_good hh
      have hd' : numBad d = false := by simpa using hd
      have hf' : numBad f = false := by simpa using hf
      have hg' : numBad g = false := by simpa using hg
      have hh' : numBad h = false := by simpa using hh
      rw [matF_long hk h3]
      simp [rmatW, hr', d1, d2, f1, f2, g1, g2, i1, i2, rd8, rd7, rd6, rd4, numF, isF, rd2, wd2, wordF, ha, hb, hc, he, hd', hf', hg', hh', nn hd, nn hf, nn hg, nn hh]
    | a :: b :: c :: d :: e :: f :: g :: h :: i :: r, hk, hr =>
      refine bad_out (by unfold rmatW; rw [if_pos (by simp only [List.length_cons]; omega)]) ?_
      rw [matF_long hk (by simp [rd4, numF, isF, rd2, wordF]; omega)]
      simp [rd8, rd7, rd6, rd4, numF, isF, rd2, wordF]
theorem callRMat [Sig] {x r : Value} {s : Bs} (hp : plainSL [x] = true) (hr : plainS r = true) (ev : interpL [x] = [strV s]) (er : interp r = .tuple #[M.val (rmatF s).1, .bool (rmatF s).2]) (hs : s.length ≤ 100000) : CallFactOk Tryd.prog (44, [x], r) :=
  callAny (a := #[strV s]) hp hr ev er fun w _ => RMatG.any w s hs
theorem rmatF_snd (s : Bs) : (rmatF s).2 = (!(lnF s).2) := (rmat_ln (splL 32 s)).1
theorem rmatF_fst {s : Bs} (h : (rmatF s).2 = true) : (rmatF s).1 = (lnF s).1 := (rmat_ln (splL 32 s)).2 h
def linesTo (t : Bs) (b : List Mt) (f i : Nat) : Prop := b = tabTo (splL 10 t) b.length ∧ (∀ j, j < b.length → ¬ (lnF ((splL 10 t).getD j default)).2 = true) ∧ splTo 10 t b.length f i
section
variable {t : Bs} {b : List Mt} {f i : Nat}
theorem linesTo_zero (t : Bs) : linesTo t [] 0 0 := ⟨rfl, fun j h => absurd h (Nat.not_lt_zero _), splTo_zero 10 t⟩
theorem linesTo.bounds (h : linesTo t b f i) : b.length ≤ f ∧ f ≤ i ∧ i ≤ t.length := ⟨h.2.2.1, h.2.2.2.1, h.2.2.2.2.1⟩
theorem linesTo.miss (h : linesTo t b f i) (hi : i < t.length) (hc : ¬ (((t.getD i 0).toNat : Nat) : Int) = 10) : linesTo t b f (i + 1) := ⟨h.1, h.2.1, h.2.2.miss hi hc⟩
theorem linesTo.hit {b' : List Mt} (h : linesTo t b f i) (hi : i < t.length) (hc : (((t.getD i 0).toNat : Nat) : Int) = 10) (hok : (rmatF ((t.drop f).take (i - f))).2 = true) (hb : b' = b ++ [(rmatF ((t.drop f).take (i - f))).1]) : linesTo t b' (i + 1) (i + 1) := by
  have hn : b'.length = b.length + 1 := by rw [hb]; simp
  obtain ⟨ha, hl⟩ := h.2.2.at hi hc
  refine ⟨?_, fun j hj => ?_, by rw [hn]; exact h.2.2.hit hi hc⟩
  · rw [hn, tabTo_succ (by omega), ha, ← h.1, hb, rmatF_fst hok]
  · rcases Nat.lt_succ_iff_lt_or_eq.1 (hn ▸ hj) with h1 | rfl
    · exact h.2.1 j h1
    · rw [ha]
      have := rmatF_snd ((t.drop f).take (i - f))
      rw [hok] at this
      intro hb
      rw [hb] at this
      cases this
theorem linesTo.bad (h : linesTo t b f i) (hi : i < t.length) (hc : (((t.getD i 0).toNat : Nat) : Int) = 10) (hok : ¬ (rmatF ((t.drop f).take (i - f))).2 = true) : parM t = ([], (b.length : Int) + 1, 3) := by
  obtain ⟨ha, hl⟩ := h.2.2.at hi hc
  refine parL_bad (L := splL 10 t) (by omega) h.2.1 ?_
  rw [ha]
  have := rmatF_snd ((t.drop f).take (i - f))
  cases hx : (lnF ((t.drop f).take (i - f))).2 with
  | true => rfl
  | false =>
    rw [hx] at this
    exact absurd this hok
theorem linesTo.end (h : linesTo t b f i) (hi : i = t.length) : (splL 10 t).length = b.length + 1 ∧ (splL 10 t).getD b.length default = t.drop f := h.2.2.count hi
theorem linesTo.rest (h : linesTo t b f i) (hi : i = t.length) (hf : f < t.length) : parM t = ([], (b.length : Int) + 1, 3) := by
  obtain ⟨h1, h2⟩ := h.end hi
  have := parL_end (L := splL 10 t) (fun j hj => h.2.1 j (by omega)) (by
    rw [h1, Nat.add_sub_cancel, h2]
    intro e
    have := congrArg List.length e
    rw [List.length_drop, List.length_nil] at this
    omega)
  rw [h1] at this
  exact this
theorem linesTo.chk (h : linesTo t b f i) (hi : i = t.length) (hf : ¬ f < t.length) (hc : ¬ (chkM b).2 = 0) : parM t = ([], (chkM b).1 + 1, (chkM b).2) := by
  obtain ⟨h1, h2⟩ := h.end hi
  have hb : tabTo (splL 10 t) ((splL 10 t).length - 1) = b := by rw [h1, Nat.add_sub_cancel, ← h.1]
  have := parL_chk (L := splL 10 t) (fun j hj => h.2.1 j (by omega)) (by
    rw [h1, Nat.add_sub_cancel, h2]
    exact List.drop_eq_nil_of_le (by omega)) (by rw [hb]; exact hc)
  rw [hb] at this
  exact this
theorem linesTo.ok (h : linesTo t b f i) (hi : i = t.length) (hf : ¬ f < t.length) (hc : (chkM b).2 = 0) : parM t = (b, 0, 0) := by
  obtain ⟨h1, h2⟩ := h.end hi
  have hb : tabTo (splL 10 t) ((splL 10 t).length - 1) = b := by rw [h1, Nat.add_sub_cancel, ← h.1]
  have := parL_ok (L := splL 10 t) (fun j hj => h.2.1 j (by omega)) (by
    rw [h1, Nat.add_sub_cancel, h2]
    exact List.drop_eq_nil_of_le (by omega)) (by rw [hb]; exact hc)
  rw [hb] at this
  exact this
end
theorem rparEnd {B : Nat} {M : Mem} {l b : List Mt} {a : Option Addr} {c : Nat} {x y x' y' : Int} {w : World} (hO : OArr B M elM 8 encM (.slice a b.length c) b) (hb : b = l) (hx : x = x') (hy : y = y') (hi : ∀ i o, M i = some o → w.heap[i]? = some o) :
    ∃ a' c', Ending.returned (.agg #[.slice a b.length c, .int .i64 x, .int .i64 y]) = .returned (.agg #[.slice a' l.length c', .int .i64 x', .int .i64 y']) ∧ OArr B (heapOf w) elM 8 encM (.slice a' l.length c') l := by
  subst hb hx hy
  exact ⟨a, c, rfl, hO.mono (Nat.le_refl _) fun i _ o ho => hi i o ho⟩
theorem rparEnd_nil {B : Nat} {M : Mem} {l : List Mt} {x y x' y' : Int} (h : l = []) (hx : x = x') (hy : y = y') :
    ∃ a' c', Ending.returned (.agg #[.slice none 0 0, .int .i64 x, .int .i64 y]) = .returned (.agg #[.slice a' l.length c', .int .i64 x', .int .i64 y']) ∧ OArr B M elM 8 encM (.slice a' l.length c') l := by
  subst h hx hy
  exact ⟨none, 0, rfl, OArr.nil _ _ _ _ _ _⟩
end AE
end Go.Proofs.YtblhndlmgibljaaDoor

/- The walk of the reference's Parse. -/
namespace Go.Proofs.YtblhndlmgibljaaDoor
open Go Go.Proofs Go.RowKit
set_option maxRecDepth 100000
namespace AE
namespace RParG
noncomputable def body : Code := (Tryd.f28.body).getD .skip
def N : Nat := 60
noncomputable abbrev at' (N : Nat) (F : List (FOp × Value)) (C : List (FuncId × List Value × Value)) (c : Code) (s : ASt) : Option Stop := evalTo Tryd.prog F C N 1000 10 c s
noncomputable abbrev leave' (N : Nat) (F : List (FOp × Value)) (C : List (FuncId × List Value × Value)) (ks : List KI) (o : Option Stop) : Option Stop := evalLeave Tryd.prog F C N 1000 10 ks o
noncomputable abbrev ops' (N : Nat) (F : List (FOp × Value)) (C : List (FuncId × List Value × Value)) (r : List Oper) (ops : Array Oper) (ks : List KI) (s : ASt) : Option Stop := evalOps Tryd.prog F C N 1000 10 r ops ks s
def s0 : ASt := { sl := slots [(0, symv 0)], ms := [], A := start }
def F0 : List (FOp × Value) := []
def C0 : List (FuncId × List Value × Value) := []
noncomputable def bks0 : List Bk := [⟨.cells [.slice none 0 0, .int .i64 0, .int .i64 0], 45, 0⟩]
def head0 : Sl := slots [(6, symv 4), (5, symv 3), (4, symv 2), (3, symv 1), (2, .pointer (some ⟨0, 0, none⟩)), (0, symv 0)]
noncomputable abbrev at0 := at' 60 F0 C0 body s0
theorem e0 : headObs head0 bks0 at0 = some [(symv 0, symv 0), (.slice none 0 0, symv 1), (.int .i64 1, symv 3), (.int .i64 0, symv 2), (.int .i64 0, symv 4)] := by kernel_rfl
noncomputable def lc0 : Code := loopAt body [1, 1, 1, 1, 0, 1, 4]
noncomputable def lk0 : List KI := ksAt body [1, 1, 1, 1, 0, 1, 4] []
theorem e1 : stopCode at0 = lc0 := by kernel_rfl
theorem e2 : stopKs at0 = lk0 := by kernel_rfl
def F1 : List (FOp × Value) := [(.len #[9] 3 (symv 0), symv 5),
    (.bin .lss 3 (symv 4) (symv 5), .bool true),
    (.ix 9 (symv 0) (symv 4), symv 6),
    (.bin .neq 5 (symv 6) (.int .u8 10), .bool false),
    (.slc 9 (symv 0) (some (symv 2)) (some (symv 4)) none, symv 7),
    (.un .not (symv 16), .bool false)]
def C1 : List (FuncId × List Value × Value) := [(44, [symv 7], .tuple ⟨[.agg ⟨[symv 8, symv 9, symv 10, symv 11, symv 12, symv 13, symv 14, symv 15]⟩, symv 16]⟩)]
theorem e3 : cellsAt (stopSt (at' 60 F1 C1 lc0 (headSt head0 bks0))).A 8 (.slice (some ⟨2, 0, none⟩) 1 1) = some [symv 8, symv 9, symv 10, symv 11, symv 12, symv 13, symv 14, symv 15] := by kernel_rfl
theorem e4 : appOf 22 (at' 60 F1 C1 lc0 (headSt head0 bks0)) = some (symv 1, .slice (some ⟨2, 0, none⟩) 1 1) := by kernel_rfl
noncomputable abbrev so0 := at' 60 F1 C1 lc0 (headSt head0 bks0)
noncomputable def bk0 : List Bk := [⟨.cells [.slice none 0 0, .int .i64 0, .int .i64 0], 45, 0⟩]
def hd0 : Sl := slots [(6, symv 4), (5, symv 3), (4, symv 2), (3, symv 1), (2, .pointer (some ⟨0, 0, none⟩)), (0, symv 0)]
def hp0 : Sl := match aput 60 hd0 (some 36) (symv 18) with | some s => s | none => .nil
theorem e5 : trAll (stopSt so0) hd0 bk0 = some [(symv 0, symv 0), (symv 1, symv 1), (symv 3, symv 3), (symv 2, symv 2), (symv 4, symv 4)] := by kernel_rfl
theorem e6 : aput 60 hd0 (stopDst so0) (symv 18) = some hp0 := by kernel_rfl
noncomputable def po0 : Array Oper := opsAt lc0 [1, 0, 4, 1, 1, 1, 0]
noncomputable def pk0 : List KI := ksAt lc0 [1, 0, 4, 1, 1, 1, 0] []
noncomputable def pr0 : List Oper := po0.toList.drop 4
theorem e7 : stopRest so0 = pr0 := by kernel_rfl
theorem e8 : stopOps so0 = po0 := by kernel_rfl
theorem e9 : stopKs so0 = pk0 := by kernel_rfl
def F2 : List (FOp × Value) := [(.bin .add 3 (symv 4) (.int .i64 1), symv 17),
    (.bin .add 3 (symv 3) (.int .i64 1), symv 19)]
def C2 : List (FuncId × List Value × Value) := []
theorem e10 : backObs head0 bks0 (ops' 60 F2 C2 pr0 po0 pk0 { sl := hp0, ms := [], A := mkAS bk0 }) = some [(symv 0, symv 0), (symv 18, symv 1), (symv 19, symv 3), (symv 17, symv 2), (symv 17, symv 4)] := by kernel_rfl
def F3 : List (FOp × Value) := [(.len #[9] 3 (symv 0), symv 5),
    (.bin .lss 3 (symv 4) (symv 5), .bool true),
    (.ix 9 (symv 0) (symv 4), symv 6),
    (.bin .neq 5 (symv 6) (.int .u8 10), .bool false),
    (.slc 9 (symv 0) (some (symv 2)) (some (symv 4)) none, symv 7),
    (.un .not (symv 16), .bool true)]
def C3 : List (FuncId × List Value × Value) := [(44, [symv 7], .tuple ⟨[.agg ⟨[symv 8, symv 9, symv 10, symv 11, symv 12, symv 13, symv 14, symv 15]⟩, symv 16]⟩)]
theorem e11 : endVal Tryd.prog Tryd.f28 (leave' 60 F0 C0 lk0 (at' 60 F3 C3 lc0 (headSt head0 bks0))) = some (.agg ⟨[.slice none 0 0, symv 3, .int .i64 3]⟩) := by kernel_rfl
def F4 : List (FOp × Value) := [(.len #[9] 3 (symv 0), symv 5),
    (.bin .lss 3 (symv 4) (symv 5), .bool true),
    (.ix 9 (symv 0) (symv 4), symv 6),
    (.bin .neq 5 (symv 6) (.int .u8 10), .bool true),
    (.bin .add 3 (symv 4) (.int .i64 1), symv 17)]
def C4 : List (FuncId × List Value × Value) := []
theorem e12 : backObs head0 bks0 (at' 60 F4 C4 lc0 (headSt head0 bks0)) = some [(symv 0, symv 0), (symv 1, symv 1), (symv 3, symv 3), (symv 2, symv 2), (symv 17, symv 4)] := by kernel_rfl
def F5 : List (FOp × Value) := [(.len #[9] 3 (symv 0), symv 5),
    (.bin .lss 3 (symv 4) (symv 5), .bool false)]
def C5 : List (FuncId × List Value × Value) := []
def F6 : List (FOp × Value) := [(.len #[9] 3 (symv 0), symv 5),
    (.bin .lss 3 (symv 2) (symv 5), .bool true)]
def C6 : List (FuncId × List Value × Value) := []
theorem e13 : endVal Tryd.prog Tryd.f28 (leave' 60 F6 C6 lk0 (at' 60 F5 C5 lc0 (headSt head0 bks0))) = some (.agg ⟨[.slice none 0 0, symv 3, .int .i64 3]⟩) := by kernel_rfl
def F7 : List (FOp × Value) := [(.len #[9] 3 (symv 0), symv 5),
    (.bin .lss 3 (symv 2) (symv 5), .bool false),
    (.bin .neq 25 (symv 21) (.int .i64 0), .bool false)]
def C7 : List (FuncId × List Value × Value) := [(12, [symv 1], .tuple ⟨[symv 20, symv 21]⟩)]
theorem e14 : endVal Tryd.prog Tryd.f28 (leave' 60 F7 C7 lk0 (at' 60 F5 C5 lc0 (headSt head0 bks0))) = some (.agg ⟨[symv 1, .int .i64 0, .int .i64 0]⟩) := by kernel_rfl
def F8 : List (FOp × Value) := [(.len #[9] 3 (symv 0), symv 5),
    (.bin .lss 3 (symv 2) (symv 5), .bool false),
    (.bin .neq 25 (symv 21) (.int .i64 0), .bool true),
    (.bin .add 3 (symv 20) (.int .i64 1), symv 22)]
def C8 : List (FuncId × List Value × Value) := [(12, [symv 1], .tuple ⟨[symv 20, symv 21]⟩)]
theorem e15 : endVal Tryd.prog Tryd.f28 (leave' 60 F8 C8 lk0 (at' 60 F5 C5 lc0 (headSt head0 bks0))) = some (.agg ⟨[.slice none 0 0, symv 22, symv 21]⟩) := by kernel_rfl
@[reducible] noncomputable def vL (t : Bs) (b : List Mt) (a : Option Addr) (c : Nat) (f : Nat) (n : Nat) (i : Nat) (b0 : List Mt) (a0 : Option Addr) (c0 : Nat) : List Value := [strV t, .slice a b.length c, .int .i64 ((f : Nat) : Int), .int .i64 ((n : Nat) : Int), .int .i64 ((i : Nat) : Int), .int .i64 ((t.length : Nat) : Int), .int .u8 (((t.getD i 0).toNat : Nat) : Int), strV ((t.drop f).take (i - f)), strV (rmatF ((t.drop f).take (i - f))).1.1, .bool (rmatF ((t.drop f).take (i - f))).1.2.1, .bool (rmatF ((t.drop f).take (i - f))).1.2.2.1, .bool (rmatF ((t.drop f).take (i - f))).1.2.2.2.1, .int .i64 (rmatF ((t.drop f).take (i - f))).1.2.2.2.2.1, .int .i64 (rmatF ((t.drop f).take (i - f))).1.2.2.2.2.2.1, .int .i64 (rmatF ((t.drop f).take (i - f))).1.2.2.2.2.2.2.1, .int .i64 (rmatF ((t.drop f).take (i - f))).1.2.2.2.2.2.2.2, .bool (rmatF ((t.drop f).take (i - f))).2, .int .i64 ((i + 1 : Nat) : Int), .slice a0 b0.length c0, .int .i64 ((n + 1 : Nat) : Int), .int .i64 (chkM b).1, .int .i64 (chkM b).2, .int .i64 ((chkM b).1 + 1)]
@[reducible] noncomputable def sg (M : Mem) (t : Bs) (b : List Mt) (a : Option Addr) (c : Nat) (f : Nat) (n : Nat) (i : Nat) (b0 : List Mt) (a0 : Option Addr) (c0 : Nat) : Sig := sgL M (vL t b a c f n i b0 a0 c0)
set_option maxHeartbeats 4000000 in
theorem any (W : World) (t : Bs) (hlen : t.length ≤ 100000) : Calls Tryd.prog 28 #[strV t] W fun e w' => (∃ a c, e = .returned (.agg #[.slice a (parM t).1.length c, .int .i64 (parM t).2.1, .int .i64 (parM t).2.2]) ∧ OArr W.heap.size (heapOf w') elM 8 encM (.slice a (parM t).1.length c) (parM t).1) ∧ Low W.heap.size W w' := by
  refine @walk_enter (sg (heapOf W) t [] none 0 0 0 0 [] none 0) Tryd.prog 28 Tryd.f28 body [symv 0] (slots [(0, symv 0)]) N W _ Tryd.func28 (by kernel_rfl) (by kernel_rfl) (by kernel_rfl) (by kernel_rfl) (immW_sgL W _) fun a hh => ?_
  letI := (sg (heapOf W) t [] none 0 0 0 0 [] none 0)
  refine walk_to (F := F0) (T := C0) (fuel := 1000) (d := 10) mixed aFn aCn ?_ hh
  refine ostop_loop (sg := (fun (⟨M, b, a, c, f, n, i⟩ : Mem × List Mt × Option Addr × Nat × Nat × Nat × Nat) => sg M t b a c f n i [] none 0)) (fun (⟨M, b, a, c, f, n, i⟩ : Mem × List Mt × Option Addr × Nat × Nat × Nat × Nat) => OArr W.heap.size M elM 8 encM (.slice a b.length c) b ∧ (∀ i o, heapOf W i = some o → M i = some o) ∧ linesTo t b f i ∧ n = b.length + 1) (fun (⟨M, b, a, c, f, n, i⟩ : Mem × List Mt × Option Addr × Nat × Nat × Nat × Nat) => t.length - i) ⟨heapOf W, [], none, 0, 0, 1, 0⟩ e0 (meet_cons (by exact meetV (strV t) rfl rfl) (meet_cons (by first | rfl | exact meetInt (by omega)) (meet_cons (by first | rfl | exact meetInt (by omega)) (meet_cons (by first | rfl | exact meetInt (by omega)) (meet_cons (by first | rfl | exact meetInt (by omega)) meet_nil))))) (fun _ _ h => h) (by exact ⟨OArr.nil _ _ _ _ _ _, fun _ _ h => h, linesTo_zero t, rfl⟩) ?_
  intro ⟨M, b, a, c, f, n, i⟩ hI aC w hh
  letI := (sg M t b a c f n i [] none 0)
  refine walk_loopE e1 e2 ?_
  have hO := hI.1
  have hM := hI.2.1
  have hlb := hI.2.2.1.bounds
  have hn1 := hI.2.2.2
  have hcf := chkM_fst b
  by_cases p0 : ((i : Nat) : Int) < ((t.length : Nat) : Int)
  · by_cases p1 : (((t.getD i 0).toNat : Nat) : Int) = 10
    · by_cases p2 : (rmatF ((t.drop f).take (i - f))).2 = true
      · refine walk_to (F := F1) (T := C1) (fuel := 1000) (d := 10) mixed (aFc (FactOk.strLen rfl rfl underStr rfl rfl) (aFc (FactOk.bi rfl rfl rfl rfl rfl rfl (boolT (by omega))) (aFc (FactOk.strIx (l := t) (j := i) (show i < t.length by omega) rfl rfl rfl underStr rfl rfl rfl) (aFc (FactOk.bi rfl rfl rfl rfl rfl rfl (nboolF (by omega))) (aFc (FactOk.strLH (l := t) (j := f) (j' := i) (show f ≤ i by omega) (show i ≤ t.length by omega) rfl rfl rfl rfl rfl underStr rfl rfl rfl rfl) (aFc (notT rfl rfl p2) aFn)))))) (aCc (callRMat rfl rfl rfl rfl (by simp only [List.length_take, List.length_drop]; omega)) aCn) ?_ hh
        obtain ⟨b0, hb0⟩ : ∃ b0 : List Mt, b0 = b ++ [(rmatF ((t.drop f).take (i - f))).1] := ⟨_, rfl⟩
        have hn0 : b0.length = b.length + 1 := by rw [hb0]; first | rfl | simp
        refine ostop_appendO (l := b) (lx := [(rmatF ((t.drop f).take (i - f))).1]) (l' := b0) (vals2 := fun aV cV => (vL t b a c f n i b0 aV cV)) (T := (obl (.slice a b.length c))) hb0 e4 underMl infoM zeroM iszM ibyM zszM (by decide) hkM honeM e5 e6 rfl (appTo_sym rfl rfl hO) (app_cells e3 hkM (by decide) rfl) (lenMax (show b.length + 1 ≤ 1000000 by omega)) (show (b.length + 1) * bytesM ≤ 140737488355328 by unfold bytesM; omega) (fun _ _ _ => (meet_cons (by exact meetV (strV t) rfl rfl) (meet_cons (by first | exact meetV (.slice a b.length c) rfl rfl | exact meetI rfl rfl (by omega)) (meet_cons (by first | exact meetV (.int .i64 ((n : Nat) : Int)) rfl rfl | exact meetI rfl rfl (by omega)) (meet_cons (by first | exact meetV (.int .i64 ((f : Nat) : Int)) rfl rfl | exact meetI rfl rfl (by omega)) (meet_cons (by first | exact meetV (.int .i64 ((i : Nat) : Int)) rfl rfl | exact meetI rfl rfl (by omega)) meet_nil)))))) (fun _ _ _ => rfl) ?_
        intro M0 a0 c0 hO0 hK0 hT0 aC w hh
        have hM0 := hK0.up hT0 (Nat.le_refl _) hM
        letI := (sg M0 t b a c f n i b0 a0 c0)
        refine walk_opsE e7 e8 e9 (F := F2) (T := C2) (fuel := 1000) (d := 10) mixed (aFc (FactOk.bi rfl rfl rfl rfl rfl rfl (intI (by omega) (by omega) (by omega))) (aFc (FactOk.bi rfl rfl rfl rfl rfl rfl (intI (by omega) (by omega) (by omega))) aFn)) aCn ?_ hh
        exact ostop_backM (s1 := (sg M0 t b a c f n i b0 a0 c0)) (sg := (fun (⟨M, b, a, c, f, n, i⟩ : Mem × List Mt × Option Addr × Nat × Nat × Nat × Nat) => sg M t b a c f n i [] none 0)) (I := fun (⟨M, b, a, c, f, n, i⟩ : Mem × List Mt × Option Addr × Nat × Nat × Nat × Nat) => OArr W.heap.size M elM 8 encM (.slice a b.length c) b ∧ (∀ i o, heapOf W i = some o → M i = some o) ∧ linesTo t b f i ∧ n = b.length + 1) (μ := fun (⟨M, b, a, c, f, n, i⟩ : Mem × List Mt × Option Addr × Nat × Nat × Nat × Nat) => t.length - i) (x := ⟨M, b, a, c, f, n, i⟩) ⟨M0, b0, a0, c0, i + 1, n + 1, i + 1⟩ e10 (meet_cons (by exact meetV (strV t) rfl rfl) (meet_cons (by first | exact meetV (.slice a0 b0.length c0) rfl rfl | exact meetI rfl rfl (by omega)) (meet_cons (by first | exact meetV (.int .i64 ((n + 1 : Nat) : Int)) rfl rfl | exact meetI rfl rfl (by omega)) (meet_cons (by first | exact meetV (.int .i64 ((i + 1 : Nat) : Int)) rfl rfl | exact meetI rfl rfl (by omega)) (meet_cons (by first | exact meetV (.int .i64 ((i + 1 : Nat) : Int)) rfl rfl | exact meetI rfl rfl (by omega)) meet_nil))))) (fun _ _ h => h) (by exact ⟨by assumption, by assumption, by first | exact hI.2.2.1.miss (by omega) (by assumption) | exact hI.2.2.1.hit (by omega) (by assumption) (by assumption) hb0, by omega⟩) (by (try dsimp only); omega)
      · refine walk_to (F := F3) (T := C3) (fuel := 1000) (d := 10) mixed (aFc (FactOk.strLen rfl rfl underStr rfl rfl) (aFc (FactOk.bi rfl rfl rfl rfl rfl rfl (boolT (by omega))) (aFc (FactOk.strIx (l := t) (j := i) (show i < t.length by omega) rfl rfl rfl underStr rfl rfl rfl) (aFc (FactOk.bi rfl rfl rfl rfl rfl rfl (nboolF (by omega))) (aFc (FactOk.strLH (l := t) (j := f) (j' := i) (show f ≤ i by omega) (show i ≤ t.length by omega) rfl rfl rfl rfl rfl underStr rfl rfl rfl rfl) (aFc (notF rfl rfl p2) aFn)))))) (aCc (callRMat rfl rfl rfl rfl (by simp only [List.length_take, List.length_drop]; omega)) aCn) ?_ hh
        refine walk_leave (F := F0) (T := C0) (fuel := 1000) (d := 10) mixed aFn aCn ?_
        exact ostop_end e11 fun w2 hLow hIn => ⟨(by first | (rw [hI.2.2.1.bad (by omega) (by assumption) (by assumption)]; exact rparEnd_nil rfl (by dsimp only; omega) rfl) | (rw [hI.2.2.1.rest (by omega) (by omega)]; exact rparEnd_nil rfl (by dsimp only; omega) rfl) | (rw [hI.2.2.1.ok (by omega) (by omega) (by assumption)]; exact rparEnd hO rfl rfl rfl hIn) | (rw [hI.2.2.1.chk (by omega) (by omega) (by assumption)]; exact rparEnd_nil rfl rfl rfl)), hLow⟩
    · refine walk_to (F := F4) (T := C4) (fuel := 1000) (d := 10) mixed (aFc (FactOk.strLen rfl rfl underStr rfl rfl) (aFc (FactOk.bi rfl rfl rfl rfl rfl rfl (boolT (by omega))) (aFc (FactOk.strIx (l := t) (j := i) (show i < t.length by omega) rfl rfl rfl underStr rfl rfl rfl) (aFc (FactOk.bi rfl rfl rfl rfl rfl rfl (nboolT (by omega))) (aFc (FactOk.bi rfl rfl rfl rfl rfl rfl (intI (by omega) (by omega) (by omega))) aFn))))) aCn ?_ hh
      exact ostop_backM (s1 := (sg M t b a c f n i [] none 0)) (sg := (fun (⟨M, b, a, c, f, n, i⟩ : Mem × List Mt × Option Addr × Nat × Nat × Nat × Nat) => sg M t b a c f n i [] none 0)) (I := fun (⟨M, b, a, c, f, n, i⟩ : Mem × List Mt × Option Addr × Nat × Nat × Nat × Nat) => OArr W.heap.size M elM 8 encM (.slice a b.length c) b ∧ (∀ i o, heapOf W i = some o → M i = some o) ∧ linesTo t b f i ∧ n = b.length + 1) (μ := fun (⟨M, b, a, c, f, n, i⟩ : Mem × List Mt × Option Addr × Nat × Nat × Nat × Nat) => t.length - i) (x := ⟨M, b, a, c, f, n, i⟩) ⟨M, b, a, c, f, n, i + 1⟩ e12 (meet_cons (by exact meetV (strV t) rfl rfl) (meet_cons (by first | exact meetV (.slice a b.length c) rfl rfl | exact meetI rfl rfl (by omega)) (meet_cons (by first | exact meetV (.int .i64 ((n : Nat) : Int)) rfl rfl | exact meetI rfl rfl (by omega)) (meet_cons (by first | exact meetV (.int .i64 ((f : Nat) : Int)) rfl rfl | exact meetI rfl rfl (by omega)) (meet_cons (by first | exact meetV (.int .i64 ((i + 1 : Nat) : Int)) rfl rfl | exact meetI rfl rfl (by omega)) meet_nil))))) (fun _ _ h => h) (by exact ⟨by assumption, by assumption, by first | exact hI.2.2.1.miss (by omega) (by assumption) | exact hI.2.2.1.hit (by omega) (by assumption) (by assumption) hb0, by omega⟩) (by (try dsimp only); omega)
  · refine walk_to (F := F5) (T := C5) (fuel := 1000) (d := 10) mixed (aFc (FactOk.strLen rfl rfl underStr rfl rfl) (aFc (FactOk.bi rfl rfl rfl rfl rfl rfl (boolF (by omega))) aFn)) aCn ?_ hh
    by_cases q0 : ((f : Nat) : Int) < ((t.length : Nat) : Int)
    · refine walk_leave (F := F6) (T := C6) (fuel := 1000) (d := 10) mixed (aFc (FactOk.strLen rfl rfl underStr rfl rfl) (aFc (FactOk.bi rfl rfl rfl rfl rfl rfl (boolT (by omega))) aFn)) aCn ?_
      exact ostop_end e13 fun w2 hLow hIn => ⟨(by first | (rw [hI.2.2.1.bad (by omega) (by assumption) (by assumption)]; exact rparEnd_nil rfl (by dsimp only; omega) rfl) | (rw [hI.2.2.1.rest (by omega) (by omega)]; exact rparEnd_nil rfl (by dsimp only; omega) rfl) | (rw [hI.2.2.1.ok (by omega) (by omega) (by assumption)]; exact rparEnd hO rfl rfl rfl hIn) | (rw [hI.2.2.1.chk (by omega) (by omega) (by assumption)]; exact rparEnd_nil rfl rfl rfl)), hLow⟩
    · by_cases q1 : (chkM b).2 = 0
      · refine walk_leave (F := F7) (T := C7) (fuel := 1000) (d := 10) mixed (aFc (FactOk.strLen rfl rfl underStr rfl rfl) (aFc (FactOk.bi rfl rfl rfl rfl rfl rfl (boolF (by omega))) (aFc (FactOk.bi rfl rfl rfl rfl rfl rfl (nboolF (by omega))) aFn))) (aCc (callRChk rfl rfl rfl rfl (hO.arr hkM)) aCn) ?_
        exact ostop_end e14 fun w2 hLow hIn => ⟨(by first | (rw [hI.2.2.1.bad (by omega) (by assumption) (by assumption)]; exact rparEnd_nil rfl (by dsimp only; omega) rfl) | (rw [hI.2.2.1.rest (by omega) (by omega)]; exact rparEnd_nil rfl (by dsimp only; omega) rfl) | (rw [hI.2.2.1.ok (by omega) (by omega) (by assumption)]; exact rparEnd hO rfl rfl rfl hIn) | (rw [hI.2.2.1.chk (by omega) (by omega) (by assumption)]; exact rparEnd_nil rfl rfl rfl)), hLow⟩
      · refine walk_leave (F := F8) (T := C8) (fuel := 1000) (d := 10) mixed (aFc (FactOk.strLen rfl rfl underStr rfl rfl) (aFc (FactOk.bi rfl rfl rfl rfl rfl rfl (boolF (by omega))) (aFc (FactOk.bi rfl rfl rfl rfl rfl rfl (nboolT (by omega))) (aFc (FactOk.bi rfl rfl rfl rfl rfl rfl (intI (by omega) (by omega) (by omega))) aFn)))) (aCc (callRChk rfl rfl rfl rfl (hO.arr hkM)) aCn) ?_
        exact ostop_end e15 fun w2 hLow hIn => ⟨(by first | (rw [hI.2.2.1.bad (by omega) (by assumption) (by assumption)]; exact rparEnd_nil rfl (by dsimp only; omega) rfl) | (rw [hI.2.2.1.rest (by omega) (by omega)]; exact rparEnd_nil rfl (by dsimp only; omega) rfl) | (rw [hI.2.2.1.ok (by omega) (by omega) (by assumption)]; exact rparEnd hO rfl rfl rfl hIn) | (rw [hI.2.2.1.chk (by omega) (by omega) (by assumption)]; exact rparEnd_nil rfl rfl rfl)), hLow⟩
end RParG
end AE
end Go.Proofs.YtblhndlmgibljaaDoor

/- The reference's Parse by contract. -/
namespace Go.Proofs.YtblhndlmgibljaaDoor
open Go Go.Proofs Go.RowKit
set_option maxRecDepth 100000
namespace AE
theorem con_rpar {t : Bs} {w : World} (hlen : t.length ≤ 100000) :
    Calls Tryd.prog 28 #[strV t] w fun e w' => (∃ a c, e = .returned (.agg #[.slice a (parM t).1.length c, .int .i64 (parM t).2.1, .int .i64 (parM t).2.2]) ∧ OArr w.heap.size (heapOf w') elM 8 encM (.slice a (parM t).1.length c) (parM t).1) ∧ Low w.heap.size w w' := RParG.any w t hlen
theorem parOfA {α : Type} {P : Program} {f : FuncId} {args : Array Value} {B : Nat} {M : Mem} {e : TypeId} {k : Nat} {enc : α → List Value} {l : List α} {x y : Int} {w : World} {vR : Value} {vals2 : Option Addr × Nat → List Value} (hw : ∀ i o, M i = some o → w.heap[i]? = some o) (hB : B ≤ w.heap.size)
    (hv : ∀ z M', @interp (sgL M' (vals2 z)) vR = .agg #[.slice z.1 l.length z.2, .int .i64 x, .int .i64 y]) (h : Calls P f args w fun e' w' => (∃ a c, e' = .returned (.agg #[.slice a l.length c, .int .i64 x, .int .i64 y]) ∧ OArr w.heap.size (heapOf w') e k enc (.slice a l.length c) l) ∧ Low w.heap.size w w') :
    Calls P f args w fun e' w' => ∃ z M', e' = .returned (@interp (sgL M' (vals2 z)) vR) ∧ (OArr B M' e k enc (.slice z.1 l.length z.2) l ∧ Keeps M M' none) ∧ Turns B M M' none w w' :=
  h.mono fun e' w' he => by
    obtain ⟨⟨a, c, rfl, hO⟩, hl⟩ := he
    obtain ⟨q1, q2, q3⟩ := turns_new hw hB hO hl
    exact ⟨(a, c), _, by rw [hv], ⟨q1, q3⟩, q2⟩
theorem parM_len {t : Bs} (h : t.length ≤ 100000) : (parM t).1.length ≤ 1000000 := by
  unfold parM parL
  split
  · simp
  · have hc : (splL 10 t).length ≤ t.length + 1 := splS_count _
    split
    · split
      · show (tabTo _ _).length ≤ _
        rw [tabTo_len _ _ (Nat.sub_le _ _)]
        have : (splS t [10]).length = (splL 10 t).length := rfl
        omega
      · simp
    · simp
end AE
end Go.Proofs.YtblhndlmgibljaaDoor

/- The walk of the law MaterialParsesAsSpecified. -/
namespace Go.Proofs.YtblhndlmgibljaaDoor
open Go Go.Proofs Go.RowKit
set_option maxRecDepth 100000
namespace AE
namespace PasG
noncomputable def body : Code := (Tryd.f5.body).getD .skip
def N : Nat := 42
noncomputable abbrev at' (N : Nat) (F : List (FOp × Value)) (C : List (FuncId × List Value × Value)) (c : Code) (s : ASt) : Option Stop := evalTo Tryd.prog F C N 1000 10 c s
noncomputable abbrev ops' (N : Nat) (F : List (FOp × Value)) (C : List (FuncId × List Value × Value)) (r : List Oper) (ops : Array Oper) (ks : List KI) (s : ASt) : Option Stop := evalOps Tryd.prog F C N 1000 10 r ops ks s
def s0 : ASt := { sl := slots [(0, symv 0)], ms := [], A := start }
def F0 : List (FOp × Value) := [(.len #[9] 3 (symv 0), symv 1),
    (.bin .gtr 3 (symv 1) (.int .i64 2000), .bool true)]
def C0 : List (FuncId × List Value × Value) := [(9, [], .bool true)]
theorem e0 : endVal Tryd.prog Tryd.f5 (at' 42 F0 C0 body s0) = some (.bool true) := by kernel_rfl
def F1 : List (FOp × Value) := [(.len #[9] 3 (symv 0), symv 1),
    (.bin .gtr 3 (symv 1) (.int .i64 2000), .bool false)]
def C1 : List (FuncId × List Value × Value) := [(9, [], .bool true)]
theorem e1 : callAt Tryd.prog (at' 42 F1 C1 body s0) = some (27, [symv 0]) := by kernel_rfl
noncomputable abbrev so0 := at' 42 F1 C1 body s0
noncomputable def bk0 : List Bk := []
def hd0 : Sl := slots [(3, .bool true), (2, .bool false), (0, symv 0)]
def hp0 : Sl := match aput 42 hd0 (some 16) (.tuple ⟨[symv 2, symv 3, symv 4]⟩) with | some s => s | none => .nil
theorem e2 : trAll (stopSt so0) hd0 bk0 = some [(symv 0, symv 0)] := by kernel_rfl
theorem e3 : aput 42 hd0 (stopDst so0) (.tuple ⟨[symv 2, symv 3, symv 4]⟩) = some hp0 := by kernel_rfl
noncomputable def po0 : Array Oper := opsAt body [1, 1, 1, 0]
noncomputable def pk0 : List KI := ksAt body [1, 1, 1, 0] []
noncomputable def pr0 : List Oper := po0.toList.drop 2
theorem e4 : stopRest so0 = pr0 := by kernel_rfl
theorem e5 : stopOps so0 = po0 := by kernel_rfl
theorem e6 : stopKs so0 = pk0 := by kernel_rfl
def F2 : List (FOp × Value) := []
def C2 : List (FuncId × List Value × Value) := []
theorem e7 : callAt Tryd.prog (ops' 42 F2 C2 pr0 po0 pk0 { sl := hp0, ms := [], A := mkAS bk0 }) = some (28, [symv 0]) := by kernel_rfl
noncomputable abbrev so1 := ops' 42 F2 C2 pr0 po0 pk0 { sl := hp0, ms := [], A := mkAS bk0 }
noncomputable def bk1 : List Bk := []
def hd1 : Sl := slots [(6, symv 4), (5, symv 3), (4, symv 2), (3, .bool true), (2, .bool false)]
def hp1 : Sl := match aput 42 hd1 (some 21) (.agg ⟨[symv 5, symv 3, symv 4]⟩) with | some s => s | none => .nil
theorem e8 : trAll (stopSt so1) hd1 bk1 = some [(symv 3, symv 3), (symv 2, symv 2), (symv 4, symv 4)] := by kernel_rfl
theorem e9 : aput 42 hd1 (stopDst so1) (.agg ⟨[symv 5, symv 3, symv 4]⟩) = some hp1 := by kernel_rfl
noncomputable def po1 : Array Oper := opsAt body [1, 1, 1, 1, 0]
noncomputable def pk1 : List KI := ksAt body [1, 1, 1, 1, 0] []
noncomputable def pr1 : List Oper := po1.toList.drop 2
theorem e10 : stopRest so1 = pr1 := by kernel_rfl
theorem e11 : stopOps so1 = po1 := by kernel_rfl
theorem e12 : stopKs so1 = pk1 := by kernel_rfl
def F3 : List (FOp × Value) := [(.bin .eql 3 (symv 3) (symv 3), .bool true),
    (.bin .eql 25 (symv 4) (symv 4), .bool true)]
def C3 : List (FuncId × List Value × Value) := [(16, [symv 2, symv 5], .bool true)]
theorem e13 : endVal Tryd.prog Tryd.f5 (ops' 42 F3 C3 pr1 po1 pk1 { sl := hp1, ms := [], A := mkAS bk1 }) = some (.bool true) := by kernel_rfl
def F4 : List (FOp × Value) := []
def C4 : List (FuncId × List Value × Value) := [(16, [symv 2, symv 5], .bool false)]
theorem e14 : endVal Tryd.prog Tryd.f5 (ops' 42 F4 C4 pr1 po1 pk1 { sl := hp1, ms := [], A := mkAS bk1 }) = some (.bool false) := by kernel_rfl
@[reducible] noncomputable def vL (t : Bs) (b0 : List Mt) (a0 : Option Addr) (c0 : Nat) (b1 : List Mt) (a1 : Option Addr) (c1 : Nat) : List Value := [strV t, .int .i64 ((t.length : Nat) : Int), .slice a0 b0.length c0, .int .i64 (parM t).2.1, .int .i64 (parM t).2.2, .slice a1 b1.length c1]
@[reducible] noncomputable def sg (M : Mem) (t : Bs) (b0 : List Mt) (a0 : Option Addr) (c0 : Nat) (b1 : List Mt) (a1 : Option Addr) (c1 : Nat) : Sig := sgL M (vL t b0 a0 c0 b1 a1 c1)
set_option maxHeartbeats 4000000 in
theorem any (W : World) (t : Bs) (hK : KindsM (heapOf W)) (hL : LibM (heapOf W)) : Calls Tryd.prog 5 #[strV t] W fun e w' => e = .returned (.bool true) ∧ Low W.heap.size W w' := by
  refine @walk_enter (sg (heapOf W) t [] none 0 [] none 0) Tryd.prog 5 Tryd.f5 body [symv 0] (slots [(0, symv 0)]) N W _ Tryd.func5 (by kernel_rfl) (by kernel_rfl) (by kernel_rfl) (by kernel_rfl) (immW_sgL W _) fun a hh => ?_
  letI := (sg (heapOf W) t [] none 0 [] none 0)
  by_cases h0 : 2000 < ((t.length : Nat) : Int)
  · refine walk_to (F := F0) (T := C0) (fuel := 1000) (d := 10) mixed (aFc (FactOk.strLen rfl rfl underStr rfl rfl) (aFc (FactOk.bi rfl rfl rfl rfl rfl rfl (boolT (by omega))) aFn)) (aCc (callSanity hK) aCn) ?_ hh
    exact ostop_end e0 fun w2 hLow hIn => ⟨(by first | rfl | exact absurd (show b0 = b1 by rw [hb0, hb1]) (by assumption)), hLow⟩
  · refine walk_to (F := F1) (T := C1) (fuel := 1000) (d := 10) mixed (aFc (FactOk.strLen rfl rfl underStr rfl rfl) (aFc (FactOk.bi rfl rfl rfl rfl rfl rfl (boolF (by omega))) aFn)) (aCc (callSanity hK) aCn) ?_ hh
    obtain ⟨b0, hb0⟩ : ∃ b0 : List Mt, b0 = (parM t).1 := ⟨_, rfl⟩
    refine ostop_callT (Y := Option Addr × Nat) (vals2 := fun yV => (vL t b0 yV.1 yV.2 [] none 0)) (T := none) (R := fun y M' => OArr W.heap.size M' elM 8 encM (.slice y.1 b0.length y.2) b0 ∧ Keeps (heapOf W) M' none) e1 e2 e3 rfl (fun w hw hB => by subst hb0; exact parOf hw hB (fun y M' => rfl) (con_par ((hK.mono (fun _ _ h => h)).mono hw) ((hL.mono (fun _ _ h => h)).mono hw) (by omega))) (fun _ _ _ => (meet_cons (by exact meetV (strV t) rfl rfl) meet_nil)) ?_
    intro M0 ⟨a0, c0⟩ hR0 aC w hh
    obtain ⟨hO0, hK0⟩ := hR0
    have hcp0 := hO0.cap
    have hM0 := hK0.up (fun _ h => by cases h) (Nat.le_refl _) (fun _ _ h => h)
    letI := (sg M0 t b0 a0 c0 [] none 0)
    refine walk_opsE e4 e5 e6 (F := F2) (T := C2) (fuel := 1000) (d := 10) mixed aFn aCn ?_ hh
    obtain ⟨b1, hb1⟩ : ∃ b1 : List Mt, b1 = (parM t).1 := ⟨_, rfl⟩
    refine ostop_callT (Y := Option Addr × Nat) (vals2 := fun yV => (vL t b0 a0 c0 b1 yV.1 yV.2)) (T := none) (R := fun y M' => OArr W.heap.size M' elM 8 encM (.slice y.1 b1.length y.2) b1 ∧ Keeps M0 M' none) e7 e8 e9 rfl (fun w hw hB => by subst hb1; exact parOfA hw hB (fun y M' => rfl) (con_rpar (by omega))) (fun _ _ _ => (meet_cons (by exact meetV (.int .i64 (parM t).2.1) rfl rfl) (meet_cons (by exact meetV (.slice a0 b0.length c0) rfl rfl) (meet_cons (by exact meetV (.int .i64 (parM t).2.2) rfl rfl) meet_nil)))) ?_
    intro M1 ⟨a1, c1⟩ hR1 aC w hh
    obtain ⟨hO1, hK1⟩ := hR1
    have hcp1 := hO1.cap
    have hM1 := hK1.up (fun _ h => by cases h) (Nat.le_refl _) hM0
    have hO0k1 := hK1.own hO0 (fun _ _ h => by cases h)
    letI := (sg M1 t b0 a0 c0 b1 a1 c1)
    by_cases q0 : b0 = b1
    · refine walk_opsE e10 e11 e12 (F := F3) (T := C3) (fuel := 1000) (d := 10) mixed (aFc (FactOk.bi rfl rfl rfl rfl rfl rfl (boolT (by omega))) (aFc (FactOk.bi rfl rfl rfl rfl rfl rfl (boolT (by omega))) aFn)) (aCc (callRSameT rfl rfl (hO0k1.arr hkM) (hO1.arr hkM) (by first | (rw [hb0]; exact parM_len (by omega)) | (rw [hb1]; exact parM_len (by omega))) q0) aCn) ?_ hh
      exact ostop_end e13 fun w2 hLow hIn => ⟨(by first | rfl | exact absurd (show b0 = b1 by rw [hb0, hb1]) (by assumption)), hLow⟩
    · refine walk_opsE e10 e11 e12 (F := F4) (T := C4) (fuel := 1000) (d := 10) mixed aFn (aCc (callRSameF rfl rfl (hO0k1.arr hkM) (hO1.arr hkM) (by first | (rw [hb0]; exact parM_len (by omega)) | (rw [hb1]; exact parM_len (by omega))) q0) aCn) ?_ hh
      exact ostop_end e14 fun w2 hLow hIn => ⟨(by first | rfl | exact absurd (show b0 = b1 by rw [hb0, hb1]) (by assumption)), hLow⟩
end PasG
end AE
end Go.Proofs.YtblhndlmgibljaaDoor

namespace Go.Proofs.YtblhndlmgibljaaDoor
open Go Go.ChangeShapes Go.WideShapes Go.ChangeAt Go.RowKit
set_option maxRecDepth 100000

theorem materialParsesAsSpecified_laid (os : Os) (args : Array Value) : laidMetH Tryd.prog Rows.materialParsesAsSpecifiedRow.laid ((World.laidAll Tryd.prog os Rows.materialParsesAsSpecifiedRow.laid).forCall (fun _ _ => 0) ⟨#[], args, []⟩).memory := by
  rw [MakeChecks.laidMetH_plain _ _ _ (by kernel_rfl)]
  exact laidMet_laidAll _ (by kernel_rfl) (by kernel_rfl)

theorem materialParsesAsSpecified_lifted (os : Os) (started : os.Started) (H : Type) (enc : TypeId × Value → H) :
    ReturnsInHanded {} Tryd.checked os 5 .any (fun w args => (Rows.materialParsesAsSpecifiedSpec.pre enc Tryd.prog Tryd.f5 [] false w args ∧ laidMetH Tryd.prog Rows.materialParsesAsSpecifiedRow.laid w) ∧ sizedMet enc Tryd.prog Tryd.f5 (OpenSpec.ofChange Rows.materialParsesAsSpecifiedSpec) false w args)
      (Rows.materialParsesAsSpecifiedSpec.post enc Tryd.prog Tryd.f5 false true false false) := by
  refine change_and_shaped (C := Tryd.checked) (X := fun w _ => laidMetH Tryd.prog Rows.materialParsesAsSpecifiedRow.laid w) (fun _ _ _ hh h => h.of_heap hh) own started (by kernel_rfl) Tryd.func5
    (ChangeSpec.witness_shaped (enc := enc) (C := Tryd.checked) (os := os) (X := fun w _ => laidMetH Tryd.prog Rows.materialParsesAsSpecifiedRow.laid w) false (World.laidAll Tryd.prog os Rows.materialParsesAsSpecifiedRow.laid) #[.string ⟨#[]⟩] 8 (World.laidAll_os _ _ _)
      (World.shaped_of_ZipB (by kernel_rfl) (by kernel_rfl)) (by kernel_rfl) (by kernel_rfl) (by kernel_rfl) (materialParsesAsSpecified_laid os _)) ?_
  intro W base args ds gs before hval0 hW _ _ hL hsh _
  have hval : ∀ (j : Nat) t v, Tryd.f5.params[j]? = some t → args[j]? = some v → Value.okWide Tryd.prog W .any base t v := hval0
  have hW' := hW
  obtain ⟨p, q, hA0, hV, rfl, _, _⟩ := hW
  have hA : DataW.TrodAll enc Tryd.prog W 0 (fun _ => true) true Tryd.f5.params.toList args.toList ds p := hA0
  rw [Tryd.params5] at hA hval
  have hAk := hA
  obtain ⟨v0, d0, rfl, rfl, h0⟩ := trodAll_one hA
  obtain ⟨rfl, rfl⟩ := trodVars_none hV
  obtain ⟨s0, rfl⟩ := open_str (hval 0 9 v0 rfl rfl) h0
  simp only [List.append_nil] at hW'
  have hlt : ∀ x ∈ p, x.block < W.heap.size := fun x hx => by simpa using hW'.lt x hx
  refine (AE.PasG.any W s0 (kinds_of_laid hL rfl) (lib_of_laid hL rfl rfl rfl hsh)).mono fun e W' ⟨he, hb⟩ => ?_
  subst he
  exact ⟨_, rfl, _, _, _, [], p, [], hW', trodAll_mk1 (shut_bool Tryd.underlying4 _), trodAll_below laidOut hb.below _ _ _ _ (by kernel_rfl) hAk hlt, rfl, hb.below.frame _, fun h => by cases h⟩

theorem materialParsesAsSpecified_row : Rows.MaterialParsesAsSpecifiedSaid :=
  OpenClaim.holds_of_wide 5 Tryd.f5 rfl rfl rfl rfl rfl rfl rfl ⟨rfl, rfl, rfl, rfl, rfl⟩ rfl rfl rfl rfl rfl (by kernel_rfl) Tryd.func5 (by kernel_rfl)
    (of_decide_eq_true (by kernel_rfl)) (by unfold Func.isWrapper; first | (rw [if_pos (by decide +kernel)]; kernel_rfl) | (rw [if_neg (by decide +kernel)]; exact ⟨rfl, rfl⟩))
    (fun os started H enc _ => materialParsesAsSpecified_lifted os started H enc)

theorem materialParsesAsSpecified_card : Rows.MaterialParsesAsSpecifiedCardSaid :=
  Claim7.holds_tied_plain_at .later [] [.data, .data, .data, .data, .sentinel, .sentinel, .widerDeep, .pinned] true (true, "5b99cfd04ffd96155c5f917b94db44dc153867f375f91dbfcdfa1d858789f768") true materialParsesAsSpecified_row (fun _ h => by cases h) (by kernel_rfl) (fun _ h => by cases h) materialParsesAsSpecified_row_tie rfl ⟨rfl, rfl⟩ (by kernel_rfl) rfl
    (fun f fn hf hfn => by
      obtain rfl : f = 5 := Option.some.inj ((show Tryd.prog.funcNamed "voxel/voxellaw06.MaterialParsesAsSpecified" = some 5 by kernel_rfl).symm.trans hf) |>.symm
      obtain rfl : fn = Tryd.f5 := (Option.some.inj (Tryd.func5.symm.trans hfn)).symm
      exact ⟨by kernel_rfl, fun j t ht => by
        rw [Tryd.params5] at ht
        have hm := Array.mem_of_getElem? ht
        have hall : (Tryd.f5.params.toList.all fun u => !Tryd.prog.wantsStandIn u) = true := by kernel_rfl
        rw [Tryd.params5] at hall
        have hw := List.all_eq_true.1 hall t (by simpa using hm)
        exact (show Tryd.prog.wantsStandIn t = false by simpa using hw)⟩)
    (by kernel_rfl)
#print axioms materialParsesAsSpecified_card

end Go.Proofs.YtblhndlmgibljaaDoor

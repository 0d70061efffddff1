/- Parts of the proof, in the order in which they are built: StY, Nxt, Orderly, StZ. -/
import Derived.Test.YtheaofepenbcgaaDoorLastCard4

/- The plain law of Orderly: what it computes is the same as to ask it of all pairs; the stamp that Next returns comes last. -/
namespace Go.Proofs.YtheaofepenbcgaaDoor
open Go Go.Proofs Go.RowKit
namespace AE

/-- Stamps that could be those of edits. -/
def OrdP (l : List St) : Prop := (∀ x ∈ l, ValidP x) ∧ ∀ x ∈ l, ∀ y ∈ l, x.2.2.1 = y.2.2.1 → (x.2.2.2 = y.2.2.2 → x = y) ∧ (x.2.2.2 < y.2.2.2 → x.2.1 < y.2.1 ∧ x.1 ≤ y.1)

theorem sortO_pair (l : List St) : (sortO l).Pairwise fun x y => ¬ ltOf cmpO y x = true := by
  have h := List.pairwise_mergeSort (le := fun x y => !(ltOf cmpO) y x) (fun a b c h1 h2 => by
    simp only [Bool.not_eq_true'] at h1 h2 ⊢
    exact swoO.ntrans c b a h2 h1) (fun a b => by
    cases h1 : ltOf cmpO b a with
    | false => simp
    | true =>
      cases h2 : ltOf cmpO a b with
      | false => simp
      | true =>
        have := swoO.trans a b a h2 h1
        rw [swoO.irrefl] at this
        cases this) l
  exact h.imp fun {a b} h => by simpa using h

theorem sortO_mem (l : List St) (x : St) : x ∈ sortO l ↔ x ∈ l := List.mem_mergeSort

theorem getMem {l : List St} {i : Nat} (h : i < l.length) : l.getD i default ∈ l := by
  rw [List.getD_eq_getElem?_getD, List.getElem?_eq_getElem h]
  exact List.getElem_mem h
theorem memGet {l : List St} {x : St} (h : x ∈ l) : ∃ i, i < l.length ∧ l.getD i default = x := by
  obtain ⟨i, hi, rfl⟩ := List.mem_iff_getElem.1 h
  exact ⟨i, hi, by rw [List.getD_eq_getElem?_getD, List.getElem?_eq_getElem hi]; rfl⟩

theorem sortO_le {l : List St} {i j : Nat} (hij : i < j) (hj : j < (sortO l).length) : ¬ ltOf cmpO ((sortO l).getD j default) ((sortO l).getD i default) = true := by
  have h := List.pairwise_iff_getElem.1 (sortO_pair l) i j (by omega) hj hij
  rw [List.getD_eq_getElem?_getD, List.getElem?_eq_getElem hj, List.getD_eq_getElem?_getD, List.getElem?_eq_getElem (show i < (sortO l).length by omega)]
  exact h

theorem chain {l : List St} (h : ∀ i, i < (sortO l).length → okAt (sortO l) i) : ∀ (d i : Nat), i + d < (sortO l).length → ((sortO l).getD i default).2.2.1 = ((sortO l).getD (i + d) default).2.2.1 →
    (sortO l).getD i default = (sortO l).getD (i + d) default ∨ (((sortO l).getD i default).2.2.2 < ((sortO l).getD (i + d) default).2.2.2 ∧ ((sortO l).getD i default).2.1 < ((sortO l).getD (i + d) default).2.1 ∧ ((sortO l).getD i default).1 ≤ ((sortO l).getD (i + d) default).1)
  | 0, i, _, _ => .inl rfl
  | d + 1, i, hi, hs => by
    have h1 := h (i + (d + 1)) hi
    have h2 := sortO_le (l := l) (i := i + d) (j := i + (d + 1)) (by omega) hi
    have h3 : d ≠ 0 → ¬ ltOf cmpO ((sortO l).getD (i + d) default) ((sortO l).getD i default) = true := fun hd => sortO_le (by omega) (by omega)
    have ih := chain h d i (by omega)
    unfold okAt at h1
    rw [show i + (d + 1) - 1 = i + d by omega] at h1
    rw [ltO] at h2
    have h4 : ((sortO l).getD i default).2.2.1 = ((sortO l).getD (i + d) default).2.2.1 := by
      rcases Nat.eq_zero_or_pos d with rfl | hd
      · rfl
      · have := h3 (by omega)
        rw [ltO] at this
        omega
    have ih := ih h4
    generalize (sortO l).getD i default = a at *
    generalize (sortO l).getD (i + d) default = b at *
    generalize (sortO l).getD (i + (d + 1)) default = c at *
    obtain ⟨_, h1⟩ := h1
    have h5 : b = c ∨ (b.2.2.2 < c.2.2.2 ∧ b.2.1 < c.2.1 ∧ b.1 ≤ c.1) := by
      rcases h1 with h1 | h1 | h1 | ⟨h1, h1', h1''⟩
      · omega
      · exact .inl h1
      · omega
      · exact .inr ⟨by omega, h1', h1''⟩
    rcases ih with rfl | ih
    · exact h5
    · rcases h5 with rfl | h5
      · exact .inr ih
      · exact .inr (by omega)

theorem ordB_iff (l : List St) : ordB l = true ↔ OrdP l := by
  unfold ordB
  rw [decide_eq_true_iff]
  constructor
  · intro h
    refine ⟨fun x hx => ?_, fun x hx y hy hs => ?_⟩
    · obtain ⟨i, hi, rfl⟩ := memGet ((sortO_mem l x).2 hx)
      exact (h i hi).1
    · obtain ⟨i, hi, rfl⟩ := memGet ((sortO_mem l x).2 hx)
      obtain ⟨j, hj, rfl⟩ := memGet ((sortO_mem l y).2 hy)
      rcases Nat.le_total i j with hij | hij
      · obtain ⟨d, rfl⟩ := Nat.exists_eq_add_of_le hij
        have := chain h d i hj hs
        generalize (sortO l).getD i default = a at *
        generalize (sortO l).getD (i + d) default = b at *
        rcases this with rfl | h5
        · exact ⟨fun _ => rfl, fun h => absurd h (by omega)⟩
        · exact ⟨fun h => absurd h (by omega), fun _ => h5.2⟩
      · obtain ⟨d, rfl⟩ := Nat.exists_eq_add_of_le hij
        have := chain h d j hi hs.symm
        generalize (sortO l).getD j default = a at *
        generalize (sortO l).getD (j + d) default = b at *
        rcases this with rfl | h5
        · exact ⟨fun _ => rfl, fun h => absurd h (by omega)⟩
        · exact ⟨fun h => absurd h (by omega), fun h => absurd h (by omega)⟩
  · rintro ⟨h1, h2⟩ i hi
    refine ⟨h1 _ ((sortO_mem l _).1 (getMem hi)), ?_⟩
    rcases Nat.eq_zero_or_pos i with h0 | h0
    · exact .inl h0
    · have ha := (sortO_mem l _).1 (getMem (l := sortO l) (i := i - 1) (by omega))
      have hb := (sortO_mem l _).1 (getMem hi)
      have h3 := sortO_le (l := l) (i := i - 1) (j := i) (by omega) hi
      rw [ltO] at h3
      generalize (sortO l).getD (i - 1) default = a at *
      generalize (sortO l).getD i default = b at *
      by_cases hs : a.2.2.1 = b.2.2.1
      · obtain ⟨h4, h5⟩ := h2 a ha b hb hs
        by_cases hq : a.2.2.2 = b.2.2.2
        · exact .inr (.inl (h4 hq))
        · exact .inr (.inr (.inr ⟨hq, h5 (by omega)⟩))
      · exact .inr (.inr (.inl hs))

/-- What holds of the stamp that Next returns. -/
theorem nextLast {l : List St} {site tick : Int} (h : nextErr l site tick = 0) : ValidP (nextSt l site tick) ∧ (nextSt l site tick).2.2.1 = site ∧ (nextSt l site tick).1 = tick ∧
    ∀ x ∈ l, ValidP x ∧ x.1 ≤ tick ∧ x.2.1 < (nextSt l site tick).2.1 ∧ (x.2.2.1 = site → x.2.2.2 < (nextSt l site tick).2.2.2) := by
  have hst : nextSt l site tick = (tick, clkAll l, site, cntAll l site + 1) := by unfold nextSt; rw [if_pos h]
  have hcnt := cntAll_bound l site
  unfold nextErr at h
  split at h
  · cases h
  rename_i h1
  split at h
  · cases h
  rename_i h2
  split at h
  · cases h
  rename_i h3
  split at h
  · cases h
  rename_i h4
  have hv : ∀ x ∈ l, ValidP x := firstBad_neg.1 (by omega)
  have hclk := clkTo_bound hv l.length
  have hclk' : clkAll l = clkTo l l.length := rfl
  rw [hst]
  refine ⟨by unfold ValidP; simp only; omega, rfl, rfl, fun x hx => ⟨hv x hx, ?_, ?_, ?_⟩⟩
  · rcases Int.lt_or_le tick x.1 with h | h
    · exact absurd ⟨x, hx, h⟩ h3
    · exact h
  · obtain ⟨i, hi, rfl⟩ := memGet hx
    have h5 := clkTo_succ hi
    have hmono : ∀ d, clkTo l (i + 1) ≤ clkTo l (i + 1 + d) := fun d => by
      induction d with
      | zero => exact Int.le_refl _
      | succ d ih =>
        rcases Nat.lt_or_ge (i + 1 + d) l.length with h | h
        · have := clkTo_succ h
          rw [show i + 1 + (d + 1) = i + 1 + d + 1 by omega, ← this]
          omega
        · have : clkTo l (i + 1 + (d + 1)) = clkTo l (i + 1 + d) := by
            unfold clkTo
            rw [List.take_of_length_le (by omega), List.take_of_length_le (by omega)]
          rw [this]
          exact ih
    have h6 := hmono (l.length - (i + 1))
    rw [show i + 1 + (l.length - (i + 1)) = l.length by omega] at h6
    simp only
    omega
  · intro hs
    obtain ⟨i, hi, rfl⟩ := memGet hx
    have h5 := cntTo_yes hi hs (hv _ hx)
    have hmono : ∀ d, cntTo l site (i + 1) ≤ cntTo l site (i + 1 + d) := fun d => by
      induction d with
      | zero => exact Int.le_refl _
      | succ d ih =>
        rcases Nat.lt_or_ge (i + 1 + d) l.length with h | h
        · have := cntTo_succ (s := site) h
          rw [show i + 1 + (d + 1) = i + 1 + d + 1 by omega, this]
          split <;> omega
        · have : cntTo l site (i + 1 + (d + 1)) = cntTo l site (i + 1 + d) := by
            unfold cntTo
            rw [List.take_of_length_le (by omega), List.take_of_length_le (by omega)]
          rw [this]
          exact ih
    have h6 := hmono (l.length - (i + 1))
    rw [show i + 1 + (l.length - (i + 1)) = l.length by omega] at h6
    have h7 : cntAll l site = cntTo l site l.length := rfl
    simp only
    omega

theorem nextBad {l : List St} {site tick : Int} (h : ¬ nextErr l site tick = 0) : nextSt l site tick = (0, 0, 0, 0) := by unfold nextSt; rw [if_neg h]

theorem nextCmp {l : List St} {site tick : Int} (h : nextErr l site tick = 0) {i : Nat} (hi : i < l.length) : cmpS (l.getD i default) (nextSt l site tick) < 0 := by
  obtain ⟨_, _, h1, h2⟩ := nextLast h
  obtain ⟨_, h3, h4, _⟩ := h2 _ (getMem hi)
  rw [cmpS_neg]
  omega

theorem nextSeq {l : List St} {site tick : Int} (h : nextErr l site tick = 0) {i : Nat} (hi : i < l.length) (hs : (l.getD i default).2.2.1 = (nextSt l site tick).2.2.1) : (l.getD i default).2.2.2 < (nextSt l site tick).2.2.2 := by
  obtain ⟨_, h0, _, h2⟩ := nextLast h
  obtain ⟨_, _, _, h4⟩ := h2 _ (getMem hi)
  exact h4 (hs.trans h0)

theorem nextOrd {l b : List St} {site tick : Int} (h : nextErr l site tick = 0) (hb : b = l ++ [nextSt l site tick]) : ordB b = true ↔ ordB l = true := by
  subst hb
  rw [ordB_iff, ordB_iff]
  obtain ⟨h0, h1, h2, h3⟩ := nextLast h
  generalize nextSt l site tick = s at *
  constructor
  · rintro ⟨q1, q2⟩
    exact ⟨fun x hx => q1 x (List.mem_append_left _ hx), fun x hx y hy => q2 x (List.mem_append_left _ hx) y (List.mem_append_left _ hy)⟩
  · rintro ⟨q1, q2⟩
    have hm : ∀ x, x ∈ l ++ [s] → x ∈ l ∨ x = s := fun x hx => by
      rcases List.mem_append.1 hx with h | h
      · exact .inl h
      · exact .inr (by simpa using h)
    refine ⟨fun x hx => ?_, fun x hx y hy hs => ?_⟩
    · rcases hm x hx with h | rfl
      · exact q1 x h
      · exact h0
    · rcases hm x hx with hx2 | rfl
      · rcases hm y hy with hy2 | rfl
        · exact q2 x hx2 y hy2 hs
        · obtain ⟨_, k1, k2, k3⟩ := h3 x hx2
          have := k3 (by omega)
          exact ⟨fun h => absurd h (by omega), fun _ => ⟨k2, by omega⟩⟩
      · rcases hm y hy with hy2 | rfl
        · obtain ⟨_, k1, k2, k3⟩ := h3 y hy2
          have := k3 (by omega)
          exact ⟨fun h => absurd h (by omega), fun h => absurd h (by omega)⟩
        · exact ⟨fun _ => rfl, fun h => absurd h (by omega)⟩

end AE
end Go.Proofs.YtheaofepenbcgaaDoor

/- stamp.Next, by the explorer -/
namespace Go.Proofs.YtheaofepenbcgaaDoor
open Go Go.Proofs Go.RowKit
namespace AE
namespace NextG
noncomputable def body : Code := (Tryd.f8.body).getD .skip
def N : Nat := 67
noncomputable abbrev at' (N : Nat) (F : List (FOp × Value)) (C : List (FuncId × List Value × Value)) (c : Code) (s : ASt) : Option Stop := evalTo Tryd.prog F C N 1000 10 c s
noncomputable abbrev leave' (N : Nat) (F : List (FOp × Value)) (C : List (FuncId × List Value × Value)) (ks : List KI) (o : Option Stop) : Option Stop := evalLeave Tryd.prog F C N 1000 10 ks o
noncomputable abbrev unr' (N : Nat) (F : List (FOp × Value)) (C : List (FuncId × List Value × Value)) (m : Nat) (o : Option Stop) : Option Stop := evalUnroll Tryd.prog F C N 1000 10 m o
noncomputable abbrev res' (N : Nat) (F : List (FOp × Value)) (C : List (FuncId × List Value × Value)) (ks : List KI) (x : AX) (s : ASt) : Option Stop := evalRes Tryd.prog F C N 1000 10 ks x s
def s0 : ASt := { sl := slots [(2, symv 2), (1, symv 1), (0, symv 0)], ms := [], A := start }
def F0 : List (FOp × Value) := [(.bin .lss 3 (symv 1) (.int .i64 1), .bool true)]
def C0 : List (FuncId × List Value × Value) := []
set_option maxRecDepth 100000 in
theorem e0 : endVal Tryd.prog Tryd.f8 (at' 67 F0 C0 body s0) = some (.tuple ⟨[.agg ⟨[.int .i64 0, .int .i64 0, .int .i64 0, .int .i64 0]⟩, .int .i64 1]⟩) := by kernel_rfl
def F1 : List (FOp × Value) := [(.bin .lss 3 (symv 1) (.int .i64 1), .bool false),
    (.bin .gtr 3 (symv 1) (.int .i64 8), .bool true)]
def C1 : List (FuncId × List Value × Value) := []
set_option maxRecDepth 100000 in
theorem e1 : endVal Tryd.prog Tryd.f8 (at' 67 F1 C1 body s0) = some (.tuple ⟨[.agg ⟨[.int .i64 0, .int .i64 0, .int .i64 0, .int .i64 0]⟩, .int .i64 1]⟩) := by kernel_rfl
def F2 : List (FOp × Value) := [(.bin .lss 3 (symv 1) (.int .i64 1), .bool false),
    (.bin .gtr 3 (symv 1) (.int .i64 8), .bool false)]
def C2 : List (FuncId × List Value × Value) := [(21, [symv 0, .func (.func 22) ⟨[]⟩ ⟨[]⟩], .bool true)]
set_option maxRecDepth 100000 in
theorem e2 : endVal Tryd.prog Tryd.f8 (at' 67 F2 C2 body s0) = some (.tuple ⟨[.agg ⟨[.int .i64 0, .int .i64 0, .int .i64 0, .int .i64 0]⟩, .int .i64 1]⟩) := by kernel_rfl
def F3 : List (FOp × Value) := [(.bin .lss 3 (symv 1) (.int .i64 1), .bool false),
    (.bin .gtr 3 (symv 1) (.int .i64 8), .bool false),
    (.bin .lss 3 (symv 2) (.int .i64 0), .bool true)]
def C3 : List (FuncId × List Value × Value) := [(21, [symv 0, .func (.func 22) ⟨[]⟩ ⟨[]⟩], .bool false)]
set_option maxRecDepth 100000 in
theorem e3 : endVal Tryd.prog Tryd.f8 (at' 67 F3 C3 body s0) = some (.tuple ⟨[.agg ⟨[.int .i64 0, .int .i64 0, .int .i64 0, .int .i64 0]⟩, .int .i64 19]⟩) := by kernel_rfl
def F4 : List (FOp × Value) := [(.bin .lss 3 (symv 1) (.int .i64 1), .bool false),
    (.bin .gtr 3 (symv 1) (.int .i64 8), .bool false),
    (.bin .lss 3 (symv 2) (.int .i64 0), .bool false),
    (.bin .gtr 3 (symv 2) (.int .i64 4000), .bool true)]
def C4 : List (FuncId × List Value × Value) := [(21, [symv 0, .func (.func 22) ⟨[]⟩ ⟨[]⟩], .bool false)]
set_option maxRecDepth 100000 in
theorem e4 : endVal Tryd.prog Tryd.f8 (at' 67 F4 C4 body s0) = some (.tuple ⟨[.agg ⟨[.int .i64 0, .int .i64 0, .int .i64 0, .int .i64 0]⟩, .int .i64 19]⟩) := by kernel_rfl
def F5 : List (FOp × Value) := [(.bin .lss 3 (symv 1) (.int .i64 1), .bool false),
    (.bin .gtr 3 (symv 1) (.int .i64 8), .bool false),
    (.bin .lss 3 (symv 2) (.int .i64 0), .bool false),
    (.bin .gtr 3 (symv 2) (.int .i64 4000), .bool false),
    (.bin .sub 3 (symv 1) (.int .i64 1), symv 11),
    (.ix 41 (.agg ⟨[symv 3, symv 4, symv 5, symv 6, symv 7, symv 8, symv 9, symv 10]⟩) (symv 11), symv 12),
    (.bin .add 3 (symv 12) (.int .i64 1), symv 13),
    (.len #[27] 3 (symv 0), symv 14)]
def C5 : List (FuncId × List Value × Value) := [(21, [symv 0, .func (.func 22) ⟨[]⟩ ⟨[]⟩], .bool false),
    (17, [symv 0], .agg ⟨[symv 3, symv 4, symv 5, symv 6, symv 7, symv 8, symv 9, symv 10]⟩)]
-- loop 0: slots [(40, .int .i64 0), (39, symv 14), (38, symv 0), (37, .agg ⟨[symv 2, .int .i64 1, symv 1, symv 13]⟩), (36, symv 13), (35, symv 12), (34, symv 11), (33, symv 1), (32, .agg ⟨[symv 3, symv 4, symv 5, symv 6, symv 7, symv 8, symv 9, symv 10]⟩), (31, symv 0), (30, symv 1), (29, symv 2), (27, .bool false), (26, .bool false), (25, symv 2), (24, .bool false), (23, .bool false), (22, symv 2), (20, .bool false), (19, .bool false), (18, symv 0), (17, .bool false), (16, .bool false), (15, .bool false), (14, symv 1), (13, .bool false), (12, .bool false), (11, symv 1), (8, .pointer (some ⟨1, 0, none⟩)), (7, .int .i64 0), (6, .pointer (some ⟨0, 0, none⟩)), (2, symv 2), (1, symv 1), (0, symv 0)] blocks 2 ms [] [.int .i64 0, .int .i64 0, .int .i64 0, .int .i64 0, symv 2, .int .i64 1, symv 1, symv 13]
noncomputable def bks0 : List Bk := [⟨.cells [.int .i64 0, .int .i64 0, .int .i64 0, .int .i64 0], 23, 0⟩, ⟨.cells [symv 2, symv 16, symv 1, symv 13], 23, 0⟩]
def head0 : Sl := slots [(40, symv 15), (39, symv 14), (38, symv 0), (8, .pointer (some ⟨1, 0, none⟩)), (6, .pointer (some ⟨0, 0, none⟩)), (2, symv 2)]
noncomputable abbrev at0 := at' 67 F5 C5 body s0
set_option maxRecDepth 100000 in
theorem e5 : headObs head0 bks0 at0 = some [(symv 14, symv 14), (symv 2, symv 2), (.int .i64 0, symv 15), (symv 0, symv 0), (symv 2, symv 2), (.int .i64 1, symv 16), (symv 1, symv 1), (symv 13, symv 13)] := by kernel_rfl
def F6 : List (FOp × Value) := [(.bin .lss 3 (symv 15) (symv 14), .bool true),
    (.ixa 27 (symv 0) (symv 15), symv 17),
    (.ld 23 (symv 17), .agg ⟨[symv 18, symv 19, symv 20, symv 21]⟩),
    (.bin .gtr 3 (symv 18) (symv 2), .bool true)]
def C6 : List (FuncId × List Value × Value) := []
set_option maxRecDepth 100000 in
theorem e6 : endVal Tryd.prog Tryd.f8 (leave' 67 F6 C6 (stopKs at0) (at' 67 F6 C6 (stopCode at0) (headSt head0 bks0))) = some (.tuple ⟨[.agg ⟨[.int .i64 0, .int .i64 0, .int .i64 0, .int .i64 0]⟩, .int .i64 22]⟩) := by kernel_rfl
def F7 : List (FOp × Value) := [(.bin .lss 3 (symv 15) (symv 14), .bool true),
    (.ixa 27 (symv 0) (symv 15), symv 17),
    (.ld 23 (symv 17), .agg ⟨[symv 18, symv 19, symv 20, symv 21]⟩),
    (.bin .gtr 3 (symv 18) (symv 2), .bool false),
    (.bin .add 3 (symv 19) (.int .i64 1), symv 22),
    (.mx #[3, 3] 3 (symv 16) (symv 22), symv 23),
    (.bin .add 3 (symv 15) (.int .i64 1), symv 24)]
def C7 : List (FuncId × List Value × Value) := []
set_option maxRecDepth 100000 in
theorem e7 : backObs head0 bks0 (at' 67 F7 C7 (stopCode at0) (headSt head0 bks0)) = some [(symv 14, symv 14), (symv 2, symv 2), (symv 24, symv 15), (symv 0, symv 0), (symv 2, symv 2), (symv 23, symv 16), (symv 1, symv 1), (symv 13, symv 13)] := by kernel_rfl
def F8 : List (FOp × Value) := [(.bin .lss 3 (symv 15) (symv 14), .bool false),
    (.bin .gtr 3 (symv 13) (.int .i64 1000), .bool true)]
def C8 : List (FuncId × List Value × Value) := []
set_option maxRecDepth 100000 in
theorem e8 : endVal Tryd.prog Tryd.f8 (leave' 67 F8 C8 (stopKs at0) (at' 67 F8 C8 (stopCode at0) (headSt head0 bks0))) = some (.tuple ⟨[.agg ⟨[.int .i64 0, .int .i64 0, .int .i64 0, .int .i64 0]⟩, .int .i64 15]⟩) := by kernel_rfl
def F9 : List (FOp × Value) := [(.bin .lss 3 (symv 15) (symv 14), .bool false),
    (.bin .gtr 3 (symv 13) (.int .i64 1000), .bool false),
    (.bin .gtr 3 (symv 16) (.int .i64 1000000), .bool true)]
def C9 : List (FuncId × List Value × Value) := []
set_option maxRecDepth 100000 in
theorem e9 : endVal Tryd.prog Tryd.f8 (leave' 67 F9 C9 (stopKs at0) (at' 67 F9 C9 (stopCode at0) (headSt head0 bks0))) = some (.tuple ⟨[.agg ⟨[.int .i64 0, .int .i64 0, .int .i64 0, .int .i64 0]⟩, .int .i64 15]⟩) := by kernel_rfl
def F10 : List (FOp × Value) := [(.bin .lss 3 (symv 15) (symv 14), .bool false),
    (.bin .gtr 3 (symv 13) (.int .i64 1000), .bool false),
    (.bin .gtr 3 (symv 16) (.int .i64 1000000), .bool false)]
def C10 : List (FuncId × List Value × Value) := []
set_option maxRecDepth 100000 in
theorem e10 : endVal Tryd.prog Tryd.f8 (leave' 67 F10 C10 (stopKs at0) (at' 67 F10 C10 (stopCode at0) (headSt head0 bks0))) = some (.tuple ⟨[.agg ⟨[symv 2, symv 16, symv 1, symv 13]⟩, .int .i64 0]⟩) := by kernel_rfl
@[reducible] def sg (W : World) (l : List St) (a_l : Option Addr) (c_l : Nat) (site : Int) (tick : Int) (i : Nat) : Sig := sgL (heapOf W) [.slice a_l l.length c_l, .int .i64 site, .int .i64 tick, .int .i64 (cntAll l 1), .int .i64 (cntAll l 2), .int .i64 (cntAll l 3), .int .i64 (cntAll l 4), .int .i64 (cntAll l 5), .int .i64 (cntAll l 6), .int .i64 (cntAll l 7), .int .i64 (cntAll l 8), .int .i64 (site - 1), .int .i64 (cntAll l site), .int .i64 ((cntAll l site) + 1), .int .i64 ((l.length : Nat) : Int), .int .i64 ((i : Nat) : Int), .int .i64 (clkTo l i), cellPtr (.slice a_l l.length c_l) (i * 4), .int .i64 (l.getD (i) default).1, .int .i64 (l.getD (i) default).2.1, .int .i64 (l.getD (i) default).2.2.1, .int .i64 (l.getD (i) default).2.2.2, .int .i64 ((l.getD (i) default).2.1 + 1), .int .i64 (max (clkTo l i) ((l.getD (i) default).2.1 + 1)), .int .i64 ((i + 1 : Nat) : Int)]
set_option maxHeartbeats 4000000 in
set_option maxRecDepth 100000 in
theorem any (W : World) {v_l : Value} {l : List St} (hl : Arr (heapOf W) 4 encS v_l l) (site : Int) (tick : Int) (hn : (l.length : Int) < 9223372036854775807) : Calls Tryd.prog 8 #[v_l, .int .i64 site, .int .i64 tick] W fun e w' => e = .returned (nextV l site tick) ∧ Low W.heap.size W w' := by
  obtain ⟨a_l, c_l, rfl⟩ := hl.slice
  refine @walk_enter (sg W l a_l c_l site tick 0) Tryd.prog 8 Tryd.f8 body [symv 0, symv 1, symv 2] (slots [(2, symv 2), (1, symv 1), (0, symv 0)]) N W _ Tryd.func8 (by kernel_rfl) (by kernel_rfl) (by kernel_rfl) (by kernel_rfl) (immW_sgL W _) fun a hh => ?_
  letI := (sg W l a_l c_l site tick 0)
  have hcb := cntAll_bound l site
  by_cases h0 : site < 1
  · refine walk_to (F := F0) (T := C0) (fuel := 1000) (d := 10) mixed (allF_cons (FactOk.bi rfl rfl rfl rfl rfl rfl (boolT (by omega))) allF_nil) allC_nil ?_ hh
    exact ostop_end e0 fun w2 hb2 _ => ⟨(by show Ending.returned _ = _; congr 1; first | exact nextV_err (nextErr_arg (by omega)) (by decide) | exact nextV_err (nextErr_tick (by omega) (by omega)) (by decide) | exact nextV_err (nextErr_stale (by omega) (by omega) (show i < l.length by omega) (by omega)) (by decide) | exact nextV_err (nextErr_full (by omega) (by omega) (allTo hI.2 (by omega)) (by rw [← clkTo_len hI.1 (by omega)]; omega)) (by decide) | exact nextV_okAt hI.1 (by omega) (by omega) (by omega) hI.2 (by omega)), hb2⟩   -- returns .tuple ⟨[.agg ⟨[.int .i64 0, .int .i64 0, .int .i64 0, .int .i64 0]⟩, .int .i64 1]⟩
  · by_cases h1 : 8 < site
    · refine walk_to (F := F1) (T := C1) (fuel := 1000) (d := 10) mixed (allF_cons (FactOk.bi rfl rfl rfl rfl rfl rfl (boolF (by omega))) (allF_cons (FactOk.bi rfl rfl rfl rfl rfl rfl (boolT (by omega))) allF_nil)) allC_nil ?_ hh
      exact ostop_end e1 fun w2 hb2 _ => ⟨(by show Ending.returned _ = _; congr 1; first | exact nextV_err (nextErr_arg (by omega)) (by decide) | exact nextV_err (nextErr_tick (by omega) (by omega)) (by decide) | exact nextV_err (nextErr_stale (by omega) (by omega) (show i < l.length by omega) (by omega)) (by decide) | exact nextV_err (nextErr_full (by omega) (by omega) (allTo hI.2 (by omega)) (by rw [← clkTo_len hI.1 (by omega)]; omega)) (by decide) | exact nextV_okAt hI.1 (by omega) (by omega) (by omega) hI.2 (by omega)), hb2⟩   -- returns .tuple ⟨[.agg ⟨[.int .i64 0, .int .i64 0, .int .i64 0, .int .i64 0]⟩, .int .i64 1]⟩
    · by_cases h2 : 0 ≤ firstBad l
      · refine walk_to (F := F2) (T := C2) (fuel := 1000) (d := 10) mixed (allF_cons (FactOk.bi rfl rfl rfl rfl rfl rfl (boolF (by omega))) (allF_cons (FactOk.bi rfl rfl rfl rfl rfl rfl (boolF (by omega))) allF_nil)) (allC_cons (callContT rfl rfl hl hn h2) allC_nil) ?_ hh
        exact ostop_end e2 fun w2 hb2 _ => ⟨(by show Ending.returned _ = _; congr 1; first | exact nextV_err (nextErr_arg (by omega)) (by decide) | exact nextV_err (nextErr_tick (by omega) (by omega)) (by decide) | exact nextV_err (nextErr_stale (by omega) (by omega) (show i < l.length by omega) (by omega)) (by decide) | exact nextV_err (nextErr_full (by omega) (by omega) (allTo hI.2 (by omega)) (by rw [← clkTo_len hI.1 (by omega)]; omega)) (by decide) | exact nextV_okAt hI.1 (by omega) (by omega) (by omega) hI.2 (by omega)), hb2⟩   -- returns .tuple ⟨[.agg ⟨[.int .i64 0, .int .i64 0, .int .i64 0, .int .i64 0]⟩, .int .i64 1]⟩
      · by_cases h3 : tick < 0
        · refine walk_to (F := F3) (T := C3) (fuel := 1000) (d := 10) mixed (allF_cons (FactOk.bi rfl rfl rfl rfl rfl rfl (boolF (by omega))) (allF_cons (FactOk.bi rfl rfl rfl rfl rfl rfl (boolF (by omega))) (allF_cons (FactOk.bi rfl rfl rfl rfl rfl rfl (boolT (by omega))) allF_nil))) (allC_cons (callContF rfl rfl hl hn h2) allC_nil) ?_ hh
          exact ostop_end e3 fun w2 hb2 _ => ⟨(by show Ending.returned _ = _; congr 1; first | exact nextV_err (nextErr_arg (by omega)) (by decide) | exact nextV_err (nextErr_tick (by omega) (by omega)) (by decide) | exact nextV_err (nextErr_stale (by omega) (by omega) (show i < l.length by omega) (by omega)) (by decide) | exact nextV_err (nextErr_full (by omega) (by omega) (allTo hI.2 (by omega)) (by rw [← clkTo_len hI.1 (by omega)]; omega)) (by decide) | exact nextV_okAt hI.1 (by omega) (by omega) (by omega) hI.2 (by omega)), hb2⟩   -- returns .tuple ⟨[.agg ⟨[.int .i64 0, .int .i64 0, .int .i64 0, .int .i64 0]⟩, .int .i64 19]⟩
        · by_cases h4 : 4000 < tick
          · refine walk_to (F := F4) (T := C4) (fuel := 1000) (d := 10) mixed (allF_cons (FactOk.bi rfl rfl rfl rfl rfl rfl (boolF (by omega))) (allF_cons (FactOk.bi rfl rfl rfl rfl rfl rfl (boolF (by omega))) (allF_cons (FactOk.bi rfl rfl rfl rfl rfl rfl (boolF (by omega))) (allF_cons (FactOk.bi rfl rfl rfl rfl rfl rfl (boolT (by omega))) allF_nil)))) (allC_cons (callContF rfl rfl hl hn h2) allC_nil) ?_ hh
            exact ostop_end e4 fun w2 hb2 _ => ⟨(by show Ending.returned _ = _; congr 1; first | exact nextV_err (nextErr_arg (by omega)) (by decide) | exact nextV_err (nextErr_tick (by omega) (by omega)) (by decide) | exact nextV_err (nextErr_stale (by omega) (by omega) (show i < l.length by omega) (by omega)) (by decide) | exact nextV_err (nextErr_full (by omega) (by omega) (allTo hI.2 (by omega)) (by rw [← clkTo_len hI.1 (by omega)]; omega)) (by decide) | exact nextV_okAt hI.1 (by omega) (by omega) (by omega) hI.2 (by omega)), hb2⟩   -- returns .tuple ⟨[.agg ⟨[.int .i64 0, .int .i64 0, .int .i64 0, .int .i64 0]⟩, .int .i64 19]⟩
          · refine walk_to (F := F5) (T := C5) (fuel := 1000) (d := 10) mixed (allF_cons (FactOk.bi rfl rfl rfl rfl rfl rfl (boolF (by omega))) (allF_cons (FactOk.bi rfl rfl rfl rfl rfl rfl (boolF (by omega))) (allF_cons (FactOk.bi rfl rfl rfl rfl rfl rfl (boolF (by omega))) (allF_cons (FactOk.bi rfl rfl rfl rfl rfl rfl (boolF (by omega))) (allF_cons (FactOk.bi rfl rfl rfl rfl rfl rfl (intI (by omega) (by omega) (by omega))) (allF_cons (ixCounts rfl rfl rfl rfl rfl rfl (by omega) (by omega)) (allF_cons (FactOk.bi rfl rfl rfl rfl rfl rfl (intI (by omega) (by omega) (by omega))) (allF_cons (FactOk.arrLen hl rfl rfl under27 rfl rfl) allF_nil)))))))) (allC_cons (callContF rfl rfl hl hn h2) (allC_cons (callCounts rfl rfl rfl rfl hl hn) allC_nil)) ?_ hh
            -- LOOP 0: slot 7 = .int .i64 0 is written in the loop: left out
            refine ostop_loop (sg := (fun i => sg W l a_l c_l site tick i)) (fun i => i ≤ l.length ∧ (∀ j, j < i → ∀ x, l[j]? = some x → x.1 ≤ tick)) (fun i => l.length - i) 0 e5 (meet_cons (by first | exact meetV (.int .i64 ((l.length : Nat) : Int)) rfl rfl | exact meetI rfl rfl (by exact clkTo_succ (by omega))) (meet_cons (by first | exact meetV (.int .i64 tick) rfl rfl | exact meetI rfl rfl (by exact clkTo_succ (by omega))) (meet_cons (by first | rfl | exact meetInt (by exact clkTo_succ (by omega))) (meet_cons (by first | exact meetV (.slice a_l l.length c_l) rfl rfl | exact meetI rfl rfl (by exact clkTo_succ (by omega))) (meet_cons (by first | exact meetV (.int .i64 tick) rfl rfl | exact meetI rfl rfl (by exact clkTo_succ (by omega))) (meet_cons (by first | rfl | exact meetInt (by exact clkTo_succ (by omega))) (meet_cons (by first | exact meetV (.int .i64 site) rfl rfl | exact meetI rfl rfl (by exact clkTo_succ (by omega))) (meet_cons (by first | exact meetV (.int .i64 ((cntAll l site) + 1)) rfl rfl | exact meetI rfl rfl (by exact clkTo_succ (by omega))) meet_nil)))))))) (fun _ _ h => h) (by exact ⟨Nat.zero_le _, fun j h => absurd h (Nat.not_lt_zero _)⟩) ?_
            intro i hI a w hh
            letI := (sg W l a_l c_l site tick i)
            have hv := validAt (firstBad_neg.1 (show firstBad l < 0 by omega)) i
            by_cases p0 : ((i : Nat) : Int) < ((l.length : Nat) : Int)
            · by_cases p1 : tick < (l.getD (i) default).1
              · refine walk_to (F := F6) (T := C6) (fuel := 1000) (d := 10) mixed (allF_cons (FactOk.bi rfl rfl rfl rfl rfl rfl (boolT (by omega))) (allF_cons (FactOk.arrIxa hl (show i < l.length by omega) rfl rfl rfl under27 sizeSt rfl rfl rfl) (allF_cons (FactOk.arrLd hl (getSome (show i < l.length by omega)) rfl rfl aggSt sizeSt rfl rfl rfl) (allF_cons (FactOk.bi rfl rfl rfl rfl rfl rfl (boolT (by omega))) allF_nil)))) allC_nil ?_ hh
                refine walk_leave (F := F6) (T := C6) (fuel := 1000) (d := 10) mixed (allF_cons (FactOk.bi rfl rfl rfl rfl rfl rfl (boolT (by omega))) (allF_cons (FactOk.arrIxa hl (show i < l.length by omega) rfl rfl rfl under27 sizeSt rfl rfl rfl) (allF_cons (FactOk.arrLd hl (getSome (show i < l.length by omega)) rfl rfl aggSt sizeSt rfl rfl rfl) (allF_cons (FactOk.bi rfl rfl rfl rfl rfl rfl (boolT (by omega))) allF_nil)))) allC_nil ?_
                exact ostop_end e6 fun w2 hb2 _ => ⟨(by show Ending.returned _ = _; congr 1; first | exact nextV_err (nextErr_arg (by omega)) (by decide) | exact nextV_err (nextErr_tick (by omega) (by omega)) (by decide) | exact nextV_err (nextErr_stale (by omega) (by omega) (show i < l.length by omega) (by omega)) (by decide) | exact nextV_err (nextErr_full (by omega) (by omega) (allTo hI.2 (by omega)) (by rw [← clkTo_len hI.1 (by omega)]; omega)) (by decide) | exact nextV_okAt hI.1 (by omega) (by omega) (by omega) hI.2 (by omega)), hb2⟩   -- returns .tuple ⟨[.agg ⟨[.int .i64 0, .int .i64 0, .int .i64 0, .int .i64 0]⟩, .int .i64 22]⟩
              · refine walk_to (F := F7) (T := C7) (fuel := 1000) (d := 10) mixed (allF_cons (FactOk.bi rfl rfl rfl rfl rfl rfl (boolT (by omega))) (allF_cons (FactOk.arrIxa hl (show i < l.length by omega) rfl rfl rfl under27 sizeSt rfl rfl rfl) (allF_cons (FactOk.arrLd hl (getSome (show i < l.length by omega)) rfl rfl aggSt sizeSt rfl rfl rfl) (allF_cons (FactOk.bi rfl rfl rfl rfl rfl rfl (boolF (by omega))) (allF_cons (FactOk.bi rfl rfl rfl rfl rfl rfl (intI (by omega) (by omega) (by omega))) (allF_cons (FactOk.maxI rfl rfl rfl rfl rfl rfl) (allF_cons (FactOk.bi rfl rfl rfl rfl rfl rfl (intI (by omega) (by omega) (by omega))) allF_nil))))))) allC_nil ?_ hh
                exact ostop_back (sg := (fun i => sg W l a_l c_l site tick i)) (I := fun i => i ≤ l.length ∧ (∀ j, j < i → ∀ x, l[j]? = some x → x.1 ≤ tick)) (μ := fun i => l.length - i) (x := i) (i + 1) e7 (meet_cons (by first | exact meetV (.int .i64 ((l.length : Nat) : Int)) rfl rfl | exact meetI rfl rfl (by exact clkTo_succ (by omega))) (meet_cons (by first | exact meetV (.int .i64 tick) rfl rfl | exact meetI rfl rfl (by exact clkTo_succ (by omega))) (meet_cons (by first | exact meetV (.int .i64 ((i + 1 : Nat) : Int)) rfl rfl | exact meetI rfl rfl (by exact clkTo_succ (by omega))) (meet_cons (by first | exact meetV (.slice a_l l.length c_l) rfl rfl | exact meetI rfl rfl (by exact clkTo_succ (by omega))) (meet_cons (by first | exact meetV (.int .i64 tick) rfl rfl | exact meetI rfl rfl (by exact clkTo_succ (by omega))) (meet_cons (by first | exact meetV (.int .i64 (max (clkTo l i) ((l.getD (i) default).2.1 + 1))) rfl rfl | exact meetI rfl rfl (by exact clkTo_succ (by omega))) (meet_cons (by first | exact meetV (.int .i64 site) rfl rfl | exact meetI rfl rfl (by exact clkTo_succ (by omega))) (meet_cons (by first | exact meetV (.int .i64 ((cntAll l site) + 1)) rfl rfl | exact meetI rfl rfl (by exact clkTo_succ (by omega))) meet_nil)))))))) (fun _ _ h => h) (by exact ⟨by omega, fun j hj x hx => by rcases Nat.lt_succ_iff_lt_or_eq.1 hj with h | rfl; exact hI.2 j h x hx; rw [getSome (show j < l.length by omega)] at hx; cases hx; omega⟩) (by show _ < _; omega)
            · by_cases p1 : 1000 < ((cntAll l site) + 1)
              · refine walk_to (F := F8) (T := C8) (fuel := 1000) (d := 10) mixed (allF_cons (FactOk.bi rfl rfl rfl rfl rfl rfl (boolF (by omega))) (allF_cons (FactOk.bi rfl rfl rfl rfl rfl rfl (boolT (by omega))) allF_nil)) allC_nil ?_ hh
                refine walk_leave (F := F8) (T := C8) (fuel := 1000) (d := 10) mixed (allF_cons (FactOk.bi rfl rfl rfl rfl rfl rfl (boolF (by omega))) (allF_cons (FactOk.bi rfl rfl rfl rfl rfl rfl (boolT (by omega))) allF_nil)) allC_nil ?_
                exact ostop_end e8 fun w2 hb2 _ => ⟨(by show Ending.returned _ = _; congr 1; first | exact nextV_err (nextErr_arg (by omega)) (by decide) | exact nextV_err (nextErr_tick (by omega) (by omega)) (by decide) | exact nextV_err (nextErr_stale (by omega) (by omega) (show i < l.length by omega) (by omega)) (by decide) | exact nextV_err (nextErr_full (by omega) (by omega) (allTo hI.2 (by omega)) (by rw [← clkTo_len hI.1 (by omega)]; omega)) (by decide) | exact nextV_okAt hI.1 (by omega) (by omega) (by omega) hI.2 (by omega)), hb2⟩   -- returns .tuple ⟨[.agg ⟨[.int .i64 0, .int .i64 0, .int .i64 0, .int .i64 0]⟩, .int .i64 15]⟩
              · by_cases p2 : 1000000 < (clkTo l i)
                · refine walk_to (F := F9) (T := C9) (fuel := 1000) (d := 10) mixed (allF_cons (FactOk.bi rfl rfl rfl rfl rfl rfl (boolF (by omega))) (allF_cons (FactOk.bi rfl rfl rfl rfl rfl rfl (boolF (by omega))) (allF_cons (FactOk.bi rfl rfl rfl rfl rfl rfl (boolT (by omega))) allF_nil))) allC_nil ?_ hh
                  refine walk_leave (F := F9) (T := C9) (fuel := 1000) (d := 10) mixed (allF_cons (FactOk.bi rfl rfl rfl rfl rfl rfl (boolF (by omega))) (allF_cons (FactOk.bi rfl rfl rfl rfl rfl rfl (boolF (by omega))) (allF_cons (FactOk.bi rfl rfl rfl rfl rfl rfl (boolT (by omega))) allF_nil))) allC_nil ?_
                  exact ostop_end e9 fun w2 hb2 _ => ⟨(by show Ending.returned _ = _; congr 1; first | exact nextV_err (nextErr_arg (by omega)) (by decide) | exact nextV_err (nextErr_tick (by omega) (by omega)) (by decide) | exact nextV_err (nextErr_stale (by omega) (by omega) (show i < l.length by omega) (by omega)) (by decide) | exact nextV_err (nextErr_full (by omega) (by omega) (allTo hI.2 (by omega)) (by rw [← clkTo_len hI.1 (by omega)]; omega)) (by decide) | exact nextV_okAt hI.1 (by omega) (by omega) (by omega) hI.2 (by omega)), hb2⟩   -- returns .tuple ⟨[.agg ⟨[.int .i64 0, .int .i64 0, .int .i64 0, .int .i64 0]⟩, .int .i64 15]⟩
                · refine walk_to (F := F10) (T := C10) (fuel := 1000) (d := 10) mixed (allF_cons (FactOk.bi rfl rfl rfl rfl rfl rfl (boolF (by omega))) (allF_cons (FactOk.bi rfl rfl rfl rfl rfl rfl (boolF (by omega))) (allF_cons (FactOk.bi rfl rfl rfl rfl rfl rfl (boolF (by omega))) allF_nil))) allC_nil ?_ hh
                  refine walk_leave (F := F10) (T := C10) (fuel := 1000) (d := 10) mixed (allF_cons (FactOk.bi rfl rfl rfl rfl rfl rfl (boolF (by omega))) (allF_cons (FactOk.bi rfl rfl rfl rfl rfl rfl (boolF (by omega))) (allF_cons (FactOk.bi rfl rfl rfl rfl rfl rfl (boolF (by omega))) allF_nil))) allC_nil ?_
                  exact ostop_end e10 fun w2 hb2 _ => ⟨(by show Ending.returned _ = _; congr 1; first | exact nextV_err (nextErr_arg (by omega)) (by decide) | exact nextV_err (nextErr_tick (by omega) (by omega)) (by decide) | exact nextV_err (nextErr_stale (by omega) (by omega) (show i < l.length by omega) (by omega)) (by decide) | exact nextV_err (nextErr_full (by omega) (by omega) (allTo hI.2 (by omega)) (by rw [← clkTo_len hI.1 (by omega)]; omega)) (by decide) | exact nextV_okAt hI.1 (by omega) (by omega) (by omega) hI.2 (by omega)), hb2⟩   -- returns .tuple ⟨[.agg ⟨[symv 2, symv 16, symv 1, symv 13]⟩, .int .i64 0]⟩
end NextG
end AE
end Go.Proofs.YtheaofepenbcgaaDoor

/- stamp.Orderly for all lists -/
namespace Go.Proofs.YtheaofepenbcgaaDoor
open Go Go.Proofs Go.RowKit
namespace AE
-- stops at: a call with an effect
-- stops at: a call with an effect
namespace OrderlyG
noncomputable def body : Code := (Tryd.f10.body).getD .skip
def N : Nat := 68
noncomputable abbrev at' (N : Nat) (F : List (FOp × Value)) (C : List (FuncId × List Value × Value)) (c : Code) (s : ASt) : Option Stop := evalTo Tryd.prog F C N 1000 10 c s
noncomputable abbrev leave' (N : Nat) (F : List (FOp × Value)) (C : List (FuncId × List Value × Value)) (ks : List KI) (o : Option Stop) : Option Stop := evalLeave Tryd.prog F C N 1000 10 ks o
noncomputable abbrev unr' (N : Nat) (F : List (FOp × Value)) (C : List (FuncId × List Value × Value)) (m : Nat) (o : Option Stop) : Option Stop := evalUnroll Tryd.prog F C N 1000 10 m o
noncomputable abbrev res' (N : Nat) (F : List (FOp × Value)) (C : List (FuncId × List Value × Value)) (ks : List KI) (x : AX) (s : ASt) : Option Stop := evalRes Tryd.prog F C N 1000 10 ks x s
noncomputable abbrev ops' (N : Nat) (F : List (FOp × Value)) (C : List (FuncId × List Value × Value)) (r : List Oper) (ops : Array Oper) (ks : List KI) (s : ASt) : Option Stop := evalOps Tryd.prog F C N 1000 10 r ops ks s
def s0 : ASt := { sl := slots [(0, symv 0)], ms := [], A := start }
def F0 : List (FOp × Value) := []
def C0 : List (FuncId × List Value × Value) := []
set_option maxRecDepth 100000 in
theorem e0 : callAt Tryd.prog (at' 68 F0 C0 body s0) = some (23, [symv 0]) := by kernel_rfl
noncomputable abbrev so0 := at' 68 F0 C0 body s0
noncomputable def bk0 : List Bk := []
def hd0 : Sl := slots [(2, .bool false)]
def hp0 : Sl := match aput 68 hd0 (some 8) (symv 1) with | some s => s | none => .nil
set_option maxRecDepth 100000 in
theorem e1 : trAll (stopSt so0) hd0 bk0 = some [] := by kernel_rfl
set_option maxRecDepth 100000 in
theorem e2 : aput 68 hd0 (stopDst so0) (symv 1) = some hp0 := by kernel_rfl
set_option maxRecDepth 100000 in
theorem e3 : callAt Tryd.prog (ops' 68 F0 C0 (stopRest so0) (stopOps so0) (stopKs so0) { sl := hp0, ms := [], A := mkAS bk0 }) = some (24, [symv 1, .func (.func 25) ⟨[]⟩ ⟨[]⟩]) := by kernel_rfl
noncomputable abbrev so1 := ops' 68 F0 C0 (stopRest so0) (stopOps so0) (stopKs so0) { sl := hp0, ms := [], A := mkAS bk0 }
noncomputable def bk1 : List Bk := []
def hd1 : Sl := slots [(3, symv 1), (2, .bool false)]
def hp1 : Sl := match aput 68 hd1 (some 10) (.tuple ⟨[]⟩) with | some s => s | none => .nil
set_option maxRecDepth 100000 in
theorem e4 : trAll (stopSt so1) hd1 bk1 = some [(symv 1, symv 1)] := by kernel_rfl
set_option maxRecDepth 100000 in
theorem e5 : aput 68 hd1 (stopDst so1) (.tuple ⟨[]⟩) = some hp1 := by kernel_rfl
def F1 : List (FOp × Value) := [(.len #[27] 3 (symv 1), symv 2)]
def C1 : List (FuncId × List Value × Value) := []
-- loop 0: slots [(13, .int .i64 0), (12, symv 2), (11, symv 1), (10, .tuple ⟨[]⟩), (3, symv 1), (2, .bool false)] blocks 0 ms [] []
noncomputable def bks0 : List Bk := []
def head0 : Sl := slots [(13, symv 3), (12, symv 2), (11, symv 1), (3, symv 1)]
noncomputable abbrev at0 := ops' 68 F1 C1 (stopRest so1) (stopOps so1) (stopKs so1) { sl := hp1, ms := [], A := mkAS bk1 }
set_option maxRecDepth 100000 in
theorem e6 : headObs head0 bks0 at0 = some [(symv 1, symv 1), (symv 1, symv 1), (.int .i64 0, symv 3), (symv 2, symv 2)] := by kernel_rfl
def F2 : List (FOp × Value) := [(.bin .lss 3 (symv 3) (symv 2), .bool true),
    (.ixa 27 (symv 1) (symv 3), symv 4),
    (.ld 23 (symv 4), .agg ⟨[symv 5, symv 6, symv 7, symv 8]⟩),
    (.bin .eql 3 (symv 3) (.int .i64 0), .bool true),
    (.bin .add 3 (symv 3) (.int .i64 1), symv 9)]
def C2 : List (FuncId × List Value × Value) := [(9, [.agg ⟨[symv 5, symv 6, symv 7, symv 8]⟩], .bool true)]
set_option maxRecDepth 100000 in
theorem e7 : backObs head0 bks0 (at' 68 F2 C2 (stopCode at0) (headSt head0 bks0)) = some [(symv 1, symv 1), (symv 1, symv 1), (symv 9, symv 3), (symv 2, symv 2)] := by kernel_rfl
def F3 : List (FOp × Value) := [(.bin .lss 3 (symv 3) (symv 2), .bool true),
    (.ixa 27 (symv 1) (symv 3), symv 4),
    (.ld 23 (symv 4), .agg ⟨[symv 5, symv 6, symv 7, symv 8]⟩),
    (.bin .eql 3 (symv 3) (.int .i64 0), .bool false),
    (.bin .sub 3 (symv 3) (.int .i64 1), symv 10),
    (.ixa 27 (symv 1) (symv 10), symv 11),
    (.ld 23 (symv 11), .agg ⟨[symv 12, symv 13, symv 14, symv 15]⟩),
    (.bin .eql 23 (.agg ⟨[symv 12, symv 13, symv 14, symv 15]⟩) (.agg ⟨[symv 5, symv 6, symv 7, symv 8]⟩), .bool true),
    (.bin .add 3 (symv 3) (.int .i64 1), symv 9)]
def C3 : List (FuncId × List Value × Value) := [(9, [.agg ⟨[symv 5, symv 6, symv 7, symv 8]⟩], .bool true)]
set_option maxRecDepth 100000 in
theorem e8 : backObs head0 bks0 (at' 68 F3 C3 (stopCode at0) (headSt head0 bks0)) = some [(symv 1, symv 1), (symv 1, symv 1), (symv 9, symv 3), (symv 2, symv 2)] := by kernel_rfl
def F4 : List (FOp × Value) := [(.bin .lss 3 (symv 3) (symv 2), .bool true),
    (.ixa 27 (symv 1) (symv 3), symv 4),
    (.ld 23 (symv 4), .agg ⟨[symv 5, symv 6, symv 7, symv 8]⟩),
    (.bin .eql 3 (symv 3) (.int .i64 0), .bool false),
    (.bin .sub 3 (symv 3) (.int .i64 1), symv 10),
    (.ixa 27 (symv 1) (symv 10), symv 11),
    (.ld 23 (symv 11), .agg ⟨[symv 12, symv 13, symv 14, symv 15]⟩),
    (.bin .eql 23 (.agg ⟨[symv 12, symv 13, symv 14, symv 15]⟩) (.agg ⟨[symv 5, symv 6, symv 7, symv 8]⟩), .bool false),
    (.fa 23 (symv 11) 2, symv 16),
    (.ld 3 (symv 16), symv 14),
    (.bin .neq 3 (symv 14) (symv 7), .bool false),
    (.bin .eql 3 (symv 15) (symv 8), .bool true)]
def C4 : List (FuncId × List Value × Value) := [(9, [.agg ⟨[symv 5, symv 6, symv 7, symv 8]⟩], .bool true)]
set_option maxRecDepth 100000 in
theorem e9 : endVal Tryd.prog Tryd.f10 (leave' 68 F0 C0 (stopKs at0) (at' 68 F4 C4 (stopCode at0) (headSt head0 bks0))) = some (.bool false) := by kernel_rfl
def F5 : List (FOp × Value) := [(.bin .lss 3 (symv 3) (symv 2), .bool true),
    (.ixa 27 (symv 1) (symv 3), symv 4),
    (.ld 23 (symv 4), .agg ⟨[symv 5, symv 6, symv 7, symv 8]⟩),
    (.bin .eql 3 (symv 3) (.int .i64 0), .bool false),
    (.bin .sub 3 (symv 3) (.int .i64 1), symv 10),
    (.ixa 27 (symv 1) (symv 10), symv 11),
    (.ld 23 (symv 11), .agg ⟨[symv 12, symv 13, symv 14, symv 15]⟩),
    (.bin .eql 23 (.agg ⟨[symv 12, symv 13, symv 14, symv 15]⟩) (.agg ⟨[symv 5, symv 6, symv 7, symv 8]⟩), .bool false),
    (.fa 23 (symv 11) 2, symv 16),
    (.ld 3 (symv 16), symv 14),
    (.bin .neq 3 (symv 14) (symv 7), .bool false),
    (.bin .eql 3 (symv 15) (symv 8), .bool false),
    (.bin .geq 3 (symv 13) (symv 6), .bool true)]
def C5 : List (FuncId × List Value × Value) := [(9, [.agg ⟨[symv 5, symv 6, symv 7, symv 8]⟩], .bool true)]
set_option maxRecDepth 100000 in
theorem e10 : endVal Tryd.prog Tryd.f10 (leave' 68 F0 C0 (stopKs at0) (at' 68 F5 C5 (stopCode at0) (headSt head0 bks0))) = some (.bool false) := by kernel_rfl
def F6 : List (FOp × Value) := [(.bin .lss 3 (symv 3) (symv 2), .bool true),
    (.ixa 27 (symv 1) (symv 3), symv 4),
    (.ld 23 (symv 4), .agg ⟨[symv 5, symv 6, symv 7, symv 8]⟩),
    (.bin .eql 3 (symv 3) (.int .i64 0), .bool false),
    (.bin .sub 3 (symv 3) (.int .i64 1), symv 10),
    (.ixa 27 (symv 1) (symv 10), symv 11),
    (.ld 23 (symv 11), .agg ⟨[symv 12, symv 13, symv 14, symv 15]⟩),
    (.bin .eql 23 (.agg ⟨[symv 12, symv 13, symv 14, symv 15]⟩) (.agg ⟨[symv 5, symv 6, symv 7, symv 8]⟩), .bool false),
    (.fa 23 (symv 11) 2, symv 16),
    (.ld 3 (symv 16), symv 14),
    (.bin .neq 3 (symv 14) (symv 7), .bool false),
    (.bin .eql 3 (symv 15) (symv 8), .bool false),
    (.bin .geq 3 (symv 13) (symv 6), .bool false),
    (.bin .gtr 3 (symv 12) (symv 5), .bool true)]
def C6 : List (FuncId × List Value × Value) := [(9, [.agg ⟨[symv 5, symv 6, symv 7, symv 8]⟩], .bool true)]
set_option maxRecDepth 100000 in
theorem e11 : endVal Tryd.prog Tryd.f10 (leave' 68 F0 C0 (stopKs at0) (at' 68 F6 C6 (stopCode at0) (headSt head0 bks0))) = some (.bool false) := by kernel_rfl
def F7 : List (FOp × Value) := [(.bin .lss 3 (symv 3) (symv 2), .bool true),
    (.ixa 27 (symv 1) (symv 3), symv 4),
    (.ld 23 (symv 4), .agg ⟨[symv 5, symv 6, symv 7, symv 8]⟩),
    (.bin .eql 3 (symv 3) (.int .i64 0), .bool false),
    (.bin .sub 3 (symv 3) (.int .i64 1), symv 10),
    (.ixa 27 (symv 1) (symv 10), symv 11),
    (.ld 23 (symv 11), .agg ⟨[symv 12, symv 13, symv 14, symv 15]⟩),
    (.bin .eql 23 (.agg ⟨[symv 12, symv 13, symv 14, symv 15]⟩) (.agg ⟨[symv 5, symv 6, symv 7, symv 8]⟩), .bool false),
    (.fa 23 (symv 11) 2, symv 16),
    (.ld 3 (symv 16), symv 14),
    (.bin .neq 3 (symv 14) (symv 7), .bool false),
    (.bin .eql 3 (symv 15) (symv 8), .bool false),
    (.bin .geq 3 (symv 13) (symv 6), .bool false),
    (.bin .gtr 3 (symv 12) (symv 5), .bool false),
    (.bin .add 3 (symv 3) (.int .i64 1), symv 9)]
def C7 : List (FuncId × List Value × Value) := [(9, [.agg ⟨[symv 5, symv 6, symv 7, symv 8]⟩], .bool true)]
set_option maxRecDepth 100000 in
theorem e12 : backObs head0 bks0 (at' 68 F7 C7 (stopCode at0) (headSt head0 bks0)) = some [(symv 1, symv 1), (symv 1, symv 1), (symv 9, symv 3), (symv 2, symv 2)] := by kernel_rfl
def F8 : List (FOp × Value) := [(.bin .lss 3 (symv 3) (symv 2), .bool true),
    (.ixa 27 (symv 1) (symv 3), symv 4),
    (.ld 23 (symv 4), .agg ⟨[symv 5, symv 6, symv 7, symv 8]⟩),
    (.bin .eql 3 (symv 3) (.int .i64 0), .bool false),
    (.bin .sub 3 (symv 3) (.int .i64 1), symv 10),
    (.ixa 27 (symv 1) (symv 10), symv 11),
    (.ld 23 (symv 11), .agg ⟨[symv 12, symv 13, symv 14, symv 15]⟩),
    (.bin .eql 23 (.agg ⟨[symv 12, symv 13, symv 14, symv 15]⟩) (.agg ⟨[symv 5, symv 6, symv 7, symv 8]⟩), .bool false),
    (.fa 23 (symv 11) 2, symv 16),
    (.ld 3 (symv 16), symv 14),
    (.bin .neq 3 (symv 14) (symv 7), .bool true),
    (.bin .add 3 (symv 3) (.int .i64 1), symv 9)]
def C8 : List (FuncId × List Value × Value) := [(9, [.agg ⟨[symv 5, symv 6, symv 7, symv 8]⟩], .bool true)]
set_option maxRecDepth 100000 in
theorem e13 : backObs head0 bks0 (at' 68 F8 C8 (stopCode at0) (headSt head0 bks0)) = some [(symv 1, symv 1), (symv 1, symv 1), (symv 9, symv 3), (symv 2, symv 2)] := by kernel_rfl
def F9 : List (FOp × Value) := [(.bin .lss 3 (symv 3) (symv 2), .bool true),
    (.ixa 27 (symv 1) (symv 3), symv 4),
    (.ld 23 (symv 4), .agg ⟨[symv 5, symv 6, symv 7, symv 8]⟩)]
def C9 : List (FuncId × List Value × Value) := [(9, [.agg ⟨[symv 5, symv 6, symv 7, symv 8]⟩], .bool false)]
set_option maxRecDepth 100000 in
theorem e14 : endVal Tryd.prog Tryd.f10 (leave' 68 F0 C0 (stopKs at0) (at' 68 F9 C9 (stopCode at0) (headSt head0 bks0))) = some (.bool false) := by kernel_rfl
def F10 : List (FOp × Value) := [(.bin .lss 3 (symv 3) (symv 2), .bool false)]
def C10 : List (FuncId × List Value × Value) := []
set_option maxRecDepth 100000 in
theorem e15 : endVal Tryd.prog Tryd.f10 (leave' 68 F0 C0 (stopKs at0) (at' 68 F10 C10 (stopCode at0) (headSt head0 bks0))) = some (.bool true) := by kernel_rfl
@[reducible] def vL (l : List St) (a_l : Option Addr) (c_l : Nat) (i : Nat) (b0 : List St) (a0 : Option Addr) (c0 : Nat) (b1 : List St) : List Value := [.slice a_l l.length c_l, .slice a0 b0.length c0, .int .i64 ((b1.length : Nat) : Int), .int .i64 ((i : Nat) : Int), cellPtr (.slice a0 b0.length c0) (i * 4), .int .i64 (b1.getD (i) default).1, .int .i64 (b1.getD (i) default).2.1, .int .i64 (b1.getD (i) default).2.2.1, .int .i64 (b1.getD (i) default).2.2.2, .int .i64 ((i + 1 : Nat) : Int), .int .i64 (((i : Nat) : Int) - 1), cellPtr (.slice a0 b0.length c0) (((((i : Nat) : Int) - 1)).toNat * 4), .int .i64 (b1.getD (((((i : Nat) : Int) - 1)).toNat) default).1, .int .i64 (b1.getD (((((i : Nat) : Int) - 1)).toNat) default).2.1, .int .i64 (b1.getD (((((i : Nat) : Int) - 1)).toNat) default).2.2.1, .int .i64 (b1.getD (((((i : Nat) : Int) - 1)).toNat) default).2.2.2, cellPtr (.slice a0 b0.length c0) (((((i : Nat) : Int) - 1)).toNat * 4 + 2)]
@[reducible] def sg (M : Mem) (l : List St) (a_l : Option Addr) (c_l : Nat) (i : Nat) (b0 : List St) (a0 : Option Addr) (c0 : Nat) (b1 : List St) : Sig := sgL M (vL l a_l c_l i b0 a0 c0 b1)
set_option maxHeartbeats 4000000 in
set_option maxRecDepth 100000 in
theorem any (W : World) {v_l : Value} {l : List St} (hl : Arr (heapOf W) 4 encS v_l l) (hn : l.length ≤ 100000) : Calls Tryd.prog 10 #[v_l] W fun e w' => e = .returned (.bool (ordB l)) ∧ Low W.heap.size W w' := by
  obtain ⟨a_l, c_l, rfl⟩ := hl.slice
  refine @walk_enter (sg (heapOf W) l a_l c_l 0 [] none 0 []) Tryd.prog 10 Tryd.f10 body [symv 0] (slots [(0, symv 0)]) N W _ Tryd.func10 (by kernel_rfl) (by kernel_rfl) (by kernel_rfl) (by kernel_rfl) (immW_sgL W _) fun a hh => ?_
  letI := (sg (heapOf W) l a_l c_l 0 [] none 0 [])
  refine walk_to (F := F0) (T := C0) (fuel := 1000) (d := 10) mixed allF_nil allC_nil ?_ hh
  obtain ⟨b0, hb0⟩ : ∃ b0 : List St, b0 = l := ⟨_, rfl⟩
  refine ostop_callT (Y := Option Addr × Nat) (vals2 := fun y => (vL l a_l c_l 0 b0 y.1 y.2 [])) (T := none) (R := fun y M' => OArr W.heap.size M' elS 4 encS (.slice y.1 b0.length y.2) b0 ∧ Keeps (heapOf W) M' none) e0 e1 e2 rfl (fun w hw hB => by subst hb0; exact newOf hw hB (fun y M' => rfl) (CloneG.any w (hl.mono hw) (by omega))) (fun _ _ _ => meet_nil) ?_
  intro M0 ⟨a0, c0⟩ hR0 a w hh
  obtain ⟨hO0, hK0⟩ := hR0
  have hM0 := hK0.up (fun _ h => by cases h) (Nat.le_refl _) (fun _ _ h => h)
  have hn0 : b0.length = l.length := by rw [hb0]; first | done | exact rfl
  letI := (sg M0 l a_l c_l 0 b0 a0 c0 [])
  refine walk_ops (F := F0) (T := C0) (fuel := 1000) (d := 10) mixed allF_nil allC_nil ?_ hh
  obtain ⟨b1, hb1⟩ : ∃ b1 : List St, b1 = sortO b0 := ⟨_, rfl⟩
  have hn1 : b1.length = b0.length := by rw [hb1]; first | done | exact sortO_len b0
  refine ostop_callT (Y := Unit) (vals2 := fun _ => (vL l a_l c_l 0 b0 a0 c0 b1)) (T := obl (.slice a0 b0.length c0)) (R := fun _ M' => OArr W.heap.size M' elS 4 encS (.slice a0 b0.length c0) b1 ∧ Keeps M0 M' (obl (.slice a0 b0.length c0))) e3 e4 e5 rfl (fun w hw hB => by subst hb1; exact inplOf (fun M' => rfl) (sortOrd hO0 hw hB (by omega))) (fun _ _ _ => (meet_cons (by exact meetV (.slice a0 b0.length c0) rfl rfl) meet_nil)) ?_
  intro M1 _ hR1 a w hh
  obtain ⟨hO1, hK1⟩ := hR1
  have hM1 := hK1.up (fun i h => (hO0.known i h).2) (Nat.le_refl _) hM0
  letI := (sg M1 l a_l c_l 0 b0 a0 c0 b1)
  refine walk_ops (F := F1) (T := C1) (fuel := 1000) (d := 10) mixed (allF_cons (FactOk.arrLen (hO1.arr hkS) rfl rfl under27 rfl rfl) allF_nil) allC_nil ?_ hh
  -- LOOP 0: slot 2 = .bool false is written in the loop: left out
  refine ostop_loop (sg := (fun i => sg M1 l a_l c_l i b0 a0 c0 b1)) (fun i => i ≤ b1.length ∧ (∀ j, j < i → okAt b1 j)) (fun i => b1.length - i) 0 e6 (meet_cons (by exact meetV (.slice a0 b0.length c0) rfl rfl) (meet_cons (by exact meetV (.slice a0 b0.length c0) rfl rfl) (meet_cons rfl (meet_cons (by exact meetV (.int .i64 ((b1.length : Nat) : Int)) rfl rfl) meet_nil)))) (fun _ _ h => h) (by exact ⟨Nat.zero_le _, fun j h => absurd h (Nat.not_lt_zero _)⟩) ?_
  intro i hI a w hh
  letI := (sg M1 l a_l c_l i b0 a0 c0 b1)
  have e1 : (((i : Nat) : Int) - 1).toNat = i - 1 := by omega
  by_cases r0 : ((i : Nat) : Int) < ((b1.length : Nat) : Int)
  · by_cases r1 : ValidP (b1.getD (i) default)
    · by_cases r2 : ((i : Nat) : Int) = 0
      · refine walk_to (F := F2) (T := C2) (fuel := 1000) (d := 10) mixed (allF_cons (FactOk.bi rfl rfl rfl rfl rfl rfl (boolT (by omega))) (allF_cons (FactOk.arrIxa (hO1.arr hkS) (show i < b1.length by omega) rfl rfl rfl under27 sizeSt rfl rfl rfl) (allF_cons (FactOk.arrLd (hO1.arr hkS) (getSome (show i < b1.length by omega)) rfl rfl aggSt sizeSt rfl rfl rfl) (allF_cons (FactOk.bi rfl rfl rfl rfl rfl rfl (boolT (by omega))) (allF_cons (FactOk.bi rfl rfl rfl rfl rfl rfl (intI (by omega) (by omega) (by omega))) allF_nil))))) (allC_cons (callValidT rfl rfl r1) allC_nil) ?_ hh
        exact ostop_back (sg := (fun i => sg M1 l a_l c_l i b0 a0 c0 b1)) (I := fun i => i ≤ b1.length ∧ (∀ j, j < i → okAt b1 j)) (μ := fun i => b1.length - i) (x := i) (i + 1) e7 (meet_cons (by exact meetV (.slice a0 b0.length c0) rfl rfl) (meet_cons (by exact meetV (.slice a0 b0.length c0) rfl rfl) (meet_cons (by exact meetV (.int .i64 ((i + 1 : Nat) : Int)) rfl rfl) (meet_cons (by exact meetV (.int .i64 ((b1.length : Nat) : Int)) rfl rfl) meet_nil)))) (fun _ _ h => h) (by exact ⟨by omega, fun j hj => by rcases Nat.lt_succ_iff_lt_or_eq.1 hj with h | rfl; exact hI.2 j h; simp only [e1] at *; exact ⟨r1, by first | exact .inl (by omega) | exact .inr (.inl r3) | exact .inr (.inr (.inl r4)) | exact .inr (.inr (.inr ⟨r5, by omega, by omega⟩))⟩⟩) (by show _ < _; omega)
      · by_cases r3 : (b1.getD (((((i : Nat) : Int) - 1)).toNat) default) = (b1.getD (i) default)
        · refine walk_to (F := F3) (T := C3) (fuel := 1000) (d := 10) mixed (allF_cons (FactOk.bi rfl rfl rfl rfl rfl rfl (boolT (by omega))) (allF_cons (FactOk.arrIxa (hO1.arr hkS) (show i < b1.length by omega) rfl rfl rfl under27 sizeSt rfl rfl rfl) (allF_cons (FactOk.arrLd (hO1.arr hkS) (getSome (show i < b1.length by omega)) rfl rfl aggSt sizeSt rfl rfl rfl) (allF_cons (FactOk.bi rfl rfl rfl rfl rfl rfl (boolF (by omega))) (allF_cons (FactOk.bi rfl rfl rfl rfl rfl rfl (intI (by omega) (by omega) (by omega))) (allF_cons (FactOk.arrIxa (hO1.arr hkS) (show ((((i : Nat) : Int) - 1)).toNat < b1.length by omega) rfl rfl rfl under27 sizeSt rfl (natI (by omega)) rfl) (allF_cons (FactOk.arrLd (hO1.arr hkS) (getSome (show ((((i : Nat) : Int) - 1)).toNat < b1.length by omega)) rfl rfl aggSt sizeSt rfl rfl rfl) (allF_cons (eqS rfl rfl rfl rfl (decide_eq_true r3).symm) (allF_cons (FactOk.bi rfl rfl rfl rfl rfl rfl (intI (by omega) (by omega) (by omega))) allF_nil))))))))) (allC_cons (callValidT rfl rfl r1) allC_nil) ?_ hh
          exact ostop_back (sg := (fun i => sg M1 l a_l c_l i b0 a0 c0 b1)) (I := fun i => i ≤ b1.length ∧ (∀ j, j < i → okAt b1 j)) (μ := fun i => b1.length - i) (x := i) (i + 1) e8 (meet_cons (by exact meetV (.slice a0 b0.length c0) rfl rfl) (meet_cons (by exact meetV (.slice a0 b0.length c0) rfl rfl) (meet_cons (by exact meetV (.int .i64 ((i + 1 : Nat) : Int)) rfl rfl) (meet_cons (by exact meetV (.int .i64 ((b1.length : Nat) : Int)) rfl rfl) meet_nil)))) (fun _ _ h => h) (by exact ⟨by omega, fun j hj => by rcases Nat.lt_succ_iff_lt_or_eq.1 hj with h | rfl; exact hI.2 j h; simp only [e1] at *; exact ⟨r1, by first | exact .inl (by omega) | exact .inr (.inl r3) | exact .inr (.inr (.inl r4)) | exact .inr (.inr (.inr ⟨r5, by omega, by omega⟩))⟩⟩) (by show _ < _; omega)
        · by_cases r4 : (b1.getD (((((i : Nat) : Int) - 1)).toNat) default).2.2.1 = (b1.getD (i) default).2.2.1
          · by_cases r5 : (b1.getD (((((i : Nat) : Int) - 1)).toNat) default).2.2.2 = (b1.getD (i) default).2.2.2
            · refine walk_to (F := F4) (T := C4) (fuel := 1000) (d := 10) mixed (allF_cons (FactOk.bi rfl rfl rfl rfl rfl rfl (boolT (by omega))) (allF_cons (FactOk.arrIxa (hO1.arr hkS) (show i < b1.length by omega) rfl rfl rfl under27 sizeSt rfl rfl rfl) (allF_cons (FactOk.arrLd (hO1.arr hkS) (getSome (show i < b1.length by omega)) rfl rfl aggSt sizeSt rfl rfl rfl) (allF_cons (FactOk.bi rfl rfl rfl rfl rfl rfl (boolF (by omega))) (allF_cons (FactOk.bi rfl rfl rfl rfl rfl rfl (intI (by omega) (by omega) (by omega))) (allF_cons (FactOk.arrIxa (hO1.arr hkS) (show ((((i : Nat) : Int) - 1)).toNat < b1.length by omega) rfl rfl rfl under27 sizeSt rfl (natI (by omega)) rfl) (allF_cons (FactOk.arrLd (hO1.arr hkS) (getSome (show ((((i : Nat) : Int) - 1)).toNat < b1.length by omega)) rfl rfl aggSt sizeSt rfl rfl rfl) (allF_cons (eqS rfl rfl rfl rfl (decide_eq_false r3).symm) (allF_cons (arrFa2 (hO1.arr hkS) (show ((((i : Nat) : Int) - 1)).toNat < b1.length by omega) rfl rfl rfl rfl) (allF_cons (FactOk.arrLd1 (j := 2) (hO1.arr hkS) (getSome (show ((((i : Nat) : Int) - 1)).toNat < b1.length by omega)) rfl rfl aggInt rfl rfl rfl rfl) (allF_cons (FactOk.bi rfl rfl rfl rfl rfl rfl (nboolF (by omega))) (allF_cons (FactOk.bi rfl rfl rfl rfl rfl rfl (boolT (by omega))) allF_nil)))))))))))) (allC_cons (callValidT rfl rfl r1) allC_nil) ?_ hh
              refine walk_leave (F := F0) (T := C0) (fuel := 1000) (d := 10) mixed allF_nil allC_nil ?_
              exact ostop_end e9 fun w2 hb2 hi2 => ⟨(by refine congrArg (fun z => Ending.returned (.bool z)) ?_; first | exact ordB_yes (hb1.trans (by rw [hb0])) (fun j hj => hI.2 j (by omega)) | (refine ordB_no (hb1.trans (by rw [hb0])) (show i < b1.length by omega) ?_; rintro ⟨v, h⟩; simp only [e1] at *; first | exact r1 v | (rcases h with h | h | h | ⟨h, h', h''⟩ <;> first | omega | exact r3 h | exact h r4 | exact h r5))), hb2⟩   -- returns .bool false
            · by_cases r6 : (b1.getD (i) default).2.1 ≤ (b1.getD (((((i : Nat) : Int) - 1)).toNat) default).2.1
              · refine walk_to (F := F5) (T := C5) (fuel := 1000) (d := 10) mixed (allF_cons (FactOk.bi rfl rfl rfl rfl rfl rfl (boolT (by omega))) (allF_cons (FactOk.arrIxa (hO1.arr hkS) (show i < b1.length by omega) rfl rfl rfl under27 sizeSt rfl rfl rfl) (allF_cons (FactOk.arrLd (hO1.arr hkS) (getSome (show i < b1.length by omega)) rfl rfl aggSt sizeSt rfl rfl rfl) (allF_cons (FactOk.bi rfl rfl rfl rfl rfl rfl (boolF (by omega))) (allF_cons (FactOk.bi rfl rfl rfl rfl rfl rfl (intI (by omega) (by omega) (by omega))) (allF_cons (FactOk.arrIxa (hO1.arr hkS) (show ((((i : Nat) : Int) - 1)).toNat < b1.length by omega) rfl rfl rfl under27 sizeSt rfl (natI (by omega)) rfl) (allF_cons (FactOk.arrLd (hO1.arr hkS) (getSome (show ((((i : Nat) : Int) - 1)).toNat < b1.length by omega)) rfl rfl aggSt sizeSt rfl rfl rfl) (allF_cons (eqS rfl rfl rfl rfl (decide_eq_false r3).symm) (allF_cons (arrFa2 (hO1.arr hkS) (show ((((i : Nat) : Int) - 1)).toNat < b1.length by omega) rfl rfl rfl rfl) (allF_cons (FactOk.arrLd1 (j := 2) (hO1.arr hkS) (getSome (show ((((i : Nat) : Int) - 1)).toNat < b1.length by omega)) rfl rfl aggInt rfl rfl rfl rfl) (allF_cons (FactOk.bi rfl rfl rfl rfl rfl rfl (nboolF (by omega))) (allF_cons (FactOk.bi rfl rfl rfl rfl rfl rfl (boolF (by omega))) (allF_cons (FactOk.bi rfl rfl rfl rfl rfl rfl (boolT (by omega))) allF_nil))))))))))))) (allC_cons (callValidT rfl rfl r1) allC_nil) ?_ hh
                refine walk_leave (F := F0) (T := C0) (fuel := 1000) (d := 10) mixed allF_nil allC_nil ?_
                exact ostop_end e10 fun w2 hb2 hi2 => ⟨(by refine congrArg (fun z => Ending.returned (.bool z)) ?_; first | exact ordB_yes (hb1.trans (by rw [hb0])) (fun j hj => hI.2 j (by omega)) | (refine ordB_no (hb1.trans (by rw [hb0])) (show i < b1.length by omega) ?_; rintro ⟨v, h⟩; simp only [e1] at *; first | exact r1 v | (rcases h with h | h | h | ⟨h, h', h''⟩ <;> first | omega | exact r3 h | exact h r4 | exact h r5))), hb2⟩   -- returns .bool false
              · by_cases r7 : (b1.getD (i) default).1 < (b1.getD (((((i : Nat) : Int) - 1)).toNat) default).1
                · refine walk_to (F := F6) (T := C6) (fuel := 1000) (d := 10) mixed (allF_cons (FactOk.bi rfl rfl rfl rfl rfl rfl (boolT (by omega))) (allF_cons (FactOk.arrIxa (hO1.arr hkS) (show i < b1.length by omega) rfl rfl rfl under27 sizeSt rfl rfl rfl) (allF_cons (FactOk.arrLd (hO1.arr hkS) (getSome (show i < b1.length by omega)) rfl rfl aggSt sizeSt rfl rfl rfl) (allF_cons (FactOk.bi rfl rfl rfl rfl rfl rfl (boolF (by omega))) (allF_cons (FactOk.bi rfl rfl rfl rfl rfl rfl (intI (by omega) (by omega) (by omega))) (allF_cons (FactOk.arrIxa (hO1.arr hkS) (show ((((i : Nat) : Int) - 1)).toNat < b1.length by omega) rfl rfl rfl under27 sizeSt rfl (natI (by omega)) rfl) (allF_cons (FactOk.arrLd (hO1.arr hkS) (getSome (show ((((i : Nat) : Int) - 1)).toNat < b1.length by omega)) rfl rfl aggSt sizeSt rfl rfl rfl) (allF_cons (eqS rfl rfl rfl rfl (decide_eq_false r3).symm) (allF_cons (arrFa2 (hO1.arr hkS) (show ((((i : Nat) : Int) - 1)).toNat < b1.length by omega) rfl rfl rfl rfl) (allF_cons (FactOk.arrLd1 (j := 2) (hO1.arr hkS) (getSome (show ((((i : Nat) : Int) - 1)).toNat < b1.length by omega)) rfl rfl aggInt rfl rfl rfl rfl) (allF_cons (FactOk.bi rfl rfl rfl rfl rfl rfl (nboolF (by omega))) (allF_cons (FactOk.bi rfl rfl rfl rfl rfl rfl (boolF (by omega))) (allF_cons (FactOk.bi rfl rfl rfl rfl rfl rfl (boolF (by omega))) (allF_cons (FactOk.bi rfl rfl rfl rfl rfl rfl (boolT (by omega))) allF_nil)))))))))))))) (allC_cons (callValidT rfl rfl r1) allC_nil) ?_ hh
                  refine walk_leave (F := F0) (T := C0) (fuel := 1000) (d := 10) mixed allF_nil allC_nil ?_
                  exact ostop_end e11 fun w2 hb2 hi2 => ⟨(by refine congrArg (fun z => Ending.returned (.bool z)) ?_; first | exact ordB_yes (hb1.trans (by rw [hb0])) (fun j hj => hI.2 j (by omega)) | (refine ordB_no (hb1.trans (by rw [hb0])) (show i < b1.length by omega) ?_; rintro ⟨v, h⟩; simp only [e1] at *; first | exact r1 v | (rcases h with h | h | h | ⟨h, h', h''⟩ <;> first | omega | exact r3 h | exact h r4 | exact h r5))), hb2⟩   -- returns .bool false
                · refine walk_to (F := F7) (T := C7) (fuel := 1000) (d := 10) mixed (allF_cons (FactOk.bi rfl rfl rfl rfl rfl rfl (boolT (by omega))) (allF_cons (FactOk.arrIxa (hO1.arr hkS) (show i < b1.length by omega) rfl rfl rfl under27 sizeSt rfl rfl rfl) (allF_cons (FactOk.arrLd (hO1.arr hkS) (getSome (show i < b1.length by omega)) rfl rfl aggSt sizeSt rfl rfl rfl) (allF_cons (FactOk.bi rfl rfl rfl rfl rfl rfl (boolF (by omega))) (allF_cons (FactOk.bi rfl rfl rfl rfl rfl rfl (intI (by omega) (by omega) (by omega))) (allF_cons (FactOk.arrIxa (hO1.arr hkS) (show ((((i : Nat) : Int) - 1)).toNat < b1.length by omega) rfl rfl rfl under27 sizeSt rfl (natI (by omega)) rfl) (allF_cons (FactOk.arrLd (hO1.arr hkS) (getSome (show ((((i : Nat) : Int) - 1)).toNat < b1.length by omega)) rfl rfl aggSt sizeSt rfl rfl rfl) (allF_cons (eqS rfl rfl rfl rfl (decide_eq_false r3).symm) (allF_cons (arrFa2 (hO1.arr hkS) (show ((((i : Nat) : Int) - 1)).toNat < b1.length by omega) rfl rfl rfl rfl) (allF_cons (FactOk.arrLd1 (j := 2) (hO1.arr hkS) (getSome (show ((((i : Nat) : Int) - 1)).toNat < b1.length by omega)) rfl rfl aggInt rfl rfl rfl rfl) (allF_cons (FactOk.bi rfl rfl rfl rfl rfl rfl (nboolF (by omega))) (allF_cons (FactOk.bi rfl rfl rfl rfl rfl rfl (boolF (by omega))) (allF_cons (FactOk.bi rfl rfl rfl rfl rfl rfl (boolF (by omega))) (allF_cons (FactOk.bi rfl rfl rfl rfl rfl rfl (boolF (by omega))) (allF_cons (FactOk.bi rfl rfl rfl rfl rfl rfl (intI (by omega) (by omega) (by omega))) allF_nil))))))))))))))) (allC_cons (callValidT rfl rfl r1) allC_nil) ?_ hh
                  exact ostop_back (sg := (fun i => sg M1 l a_l c_l i b0 a0 c0 b1)) (I := fun i => i ≤ b1.length ∧ (∀ j, j < i → okAt b1 j)) (μ := fun i => b1.length - i) (x := i) (i + 1) e12 (meet_cons (by exact meetV (.slice a0 b0.length c0) rfl rfl) (meet_cons (by exact meetV (.slice a0 b0.length c0) rfl rfl) (meet_cons (by exact meetV (.int .i64 ((i + 1 : Nat) : Int)) rfl rfl) (meet_cons (by exact meetV (.int .i64 ((b1.length : Nat) : Int)) rfl rfl) meet_nil)))) (fun _ _ h => h) (by exact ⟨by omega, fun j hj => by rcases Nat.lt_succ_iff_lt_or_eq.1 hj with h | rfl; exact hI.2 j h; simp only [e1] at *; exact ⟨r1, by first | exact .inl (by omega) | exact .inr (.inl r3) | exact .inr (.inr (.inl r4)) | exact .inr (.inr (.inr ⟨r5, by omega, by omega⟩))⟩⟩) (by show _ < _; omega)
          · refine walk_to (F := F8) (T := C8) (fuel := 1000) (d := 10) mixed (allF_cons (FactOk.bi rfl rfl rfl rfl rfl rfl (boolT (by omega))) (allF_cons (FactOk.arrIxa (hO1.arr hkS) (show i < b1.length by omega) rfl rfl rfl under27 sizeSt rfl rfl rfl) (allF_cons (FactOk.arrLd (hO1.arr hkS) (getSome (show i < b1.length by omega)) rfl rfl aggSt sizeSt rfl rfl rfl) (allF_cons (FactOk.bi rfl rfl rfl rfl rfl rfl (boolF (by omega))) (allF_cons (FactOk.bi rfl rfl rfl rfl rfl rfl (intI (by omega) (by omega) (by omega))) (allF_cons (FactOk.arrIxa (hO1.arr hkS) (show ((((i : Nat) : Int) - 1)).toNat < b1.length by omega) rfl rfl rfl under27 sizeSt rfl (natI (by omega)) rfl) (allF_cons (FactOk.arrLd (hO1.arr hkS) (getSome (show ((((i : Nat) : Int) - 1)).toNat < b1.length by omega)) rfl rfl aggSt sizeSt rfl rfl rfl) (allF_cons (eqS rfl rfl rfl rfl (decide_eq_false r3).symm) (allF_cons (arrFa2 (hO1.arr hkS) (show ((((i : Nat) : Int) - 1)).toNat < b1.length by omega) rfl rfl rfl rfl) (allF_cons (FactOk.arrLd1 (j := 2) (hO1.arr hkS) (getSome (show ((((i : Nat) : Int) - 1)).toNat < b1.length by omega)) rfl rfl aggInt rfl rfl rfl rfl) (allF_cons (FactOk.bi rfl rfl rfl rfl rfl rfl (nboolT (by omega))) (allF_cons (FactOk.bi rfl rfl rfl rfl rfl rfl (intI (by omega) (by omega) (by omega))) allF_nil)))))))))))) (allC_cons (callValidT rfl rfl r1) allC_nil) ?_ hh
            exact ostop_back (sg := (fun i => sg M1 l a_l c_l i b0 a0 c0 b1)) (I := fun i => i ≤ b1.length ∧ (∀ j, j < i → okAt b1 j)) (μ := fun i => b1.length - i) (x := i) (i + 1) e13 (meet_cons (by exact meetV (.slice a0 b0.length c0) rfl rfl) (meet_cons (by exact meetV (.slice a0 b0.length c0) rfl rfl) (meet_cons (by exact meetV (.int .i64 ((i + 1 : Nat) : Int)) rfl rfl) (meet_cons (by exact meetV (.int .i64 ((b1.length : Nat) : Int)) rfl rfl) meet_nil)))) (fun _ _ h => h) (by exact ⟨by omega, fun j hj => by rcases Nat.lt_succ_iff_lt_or_eq.1 hj with h | rfl; exact hI.2 j h; simp only [e1] at *; exact ⟨r1, by first | exact .inl (by omega) | exact .inr (.inl r3) | exact .inr (.inr (.inl r4)) | exact .inr (.inr (.inr ⟨r5, by omega, by omega⟩))⟩⟩) (by show _ < _; omega)
    · refine walk_to (F := F9) (T := C9) (fuel := 1000) (d := 10) mixed (allF_cons (FactOk.bi rfl rfl rfl rfl rfl rfl (boolT (by omega))) (allF_cons (FactOk.arrIxa (hO1.arr hkS) (show i < b1.length by omega) rfl rfl rfl under27 sizeSt rfl rfl rfl) (allF_cons (FactOk.arrLd (hO1.arr hkS) (getSome (show i < b1.length by omega)) rfl rfl aggSt sizeSt rfl rfl rfl) allF_nil))) (allC_cons (callValidF rfl rfl r1) allC_nil) ?_ hh
      refine walk_leave (F := F0) (T := C0) (fuel := 1000) (d := 10) mixed allF_nil allC_nil ?_
      exact ostop_end e14 fun w2 hb2 hi2 => ⟨(by refine congrArg (fun z => Ending.returned (.bool z)) ?_; first | exact ordB_yes (hb1.trans (by rw [hb0])) (fun j hj => hI.2 j (by omega)) | (refine ordB_no (hb1.trans (by rw [hb0])) (show i < b1.length by omega) ?_; rintro ⟨v, h⟩; simp only [e1] at *; first | exact r1 v | (rcases h with h | h | h | ⟨h, h', h''⟩ <;> first | omega | exact r3 h | exact h r4 | exact h r5))), hb2⟩   -- returns .bool false
  · refine walk_to (F := F10) (T := C10) (fuel := 1000) (d := 10) mixed (allF_cons (FactOk.bi rfl rfl rfl rfl rfl rfl (boolF (by omega))) allF_nil) allC_nil ?_ hh
    refine walk_leave (F := F0) (T := C0) (fuel := 1000) (d := 10) mixed allF_nil allC_nil ?_
    exact ostop_end e15 fun w2 hb2 hi2 => ⟨(by refine congrArg (fun z => Ending.returned (.bool z)) ?_; first | exact ordB_yes (hb1.trans (by rw [hb0])) (fun j hj => hI.2 j (by omega)) | (refine ordB_no (hb1.trans (by rw [hb0])) (show i < b1.length by omega) ?_; rintro ⟨v, h⟩; simp only [e1] at *; first | exact r1 v | (rcases h with h | h | h | ⟨h, h', h''⟩ <;> first | omega | exact r3 h | exact h r4 | exact h r5))), hb2⟩   -- returns .bool true
end OrderlyG
end AE
end Go.Proofs.YtheaofepenbcgaaDoor

/- Calls of Next, Orderly and the sanity example, by contract. -/
namespace Go.Proofs.YtheaofepenbcgaaDoor
open Go Go.Proofs Go.RowKit
namespace AE
variable [Sig]

theorem callSanity : CallFactOk Tryd.prog (6, [], .bool true) :=
  callAny (a := #[]) rfl rfl rfl rfl fun w _ => sanity_any w
theorem callNext {v x y r : Value} {u : Value} {l : List St} {site tick : Int} (hp : plainSL [v, x, y] = true) (hr : plainS r = true) (ev : interpL [v, x, y] = [u, .int .i64 site, .int .i64 tick]) (er : interp r = nextV l site tick) (hl : Arr Sig.imm 4 encS u l) (hn : (l.length : Int) < 9223372036854775807) : CallFactOk Tryd.prog (8, [v, x, y], r) :=
  callAny (a := #[u, .int .i64 site, .int .i64 tick]) hp hr ev er fun w hw => NextG.any w (hl.mono hw) site tick hn
theorem callOrdT {v : Value} {u : Value} {l : List St} (hp : plainSL [v] = true) (ev : interpL [v] = [u]) (hl : Arr Sig.imm 4 encS u l) (hn : l.length ≤ 100000) (h : ordB l = true) : CallFactOk Tryd.prog (10, [v], .bool true) :=
  callAny (a := #[u]) hp rfl ev rfl fun w hw => (OrderlyG.any w (hl.mono hw) hn).mono fun e w' h' => by rw [h] at h'; exact h'
theorem callOrdF {v : Value} {u : Value} {l : List St} (hp : plainSL [v] = true) (ev : interpL [v] = [u]) (hl : Arr Sig.imm 4 encS u l) (hn : l.length ≤ 100000) (h : ¬ ordB l = true) : CallFactOk Tryd.prog (10, [v], .bool false) :=
  callAny (a := #[u]) hp rfl ev rfl fun w hw => (OrderlyG.any w (hl.mono hw) hn).mono fun e w' h' => by rw [Bool.not_eq_true] at h; rw [h] at h'; exact h'

end AE
end Go.Proofs.YtheaofepenbcgaaDoor

/- StampOrderIsTotal returns true for any three stamps. -/
import Derived.Test.YtheaofepenbcgaaDoorCmp
namespace Go.Proofs.YtheaofepenbcgaaDoor
open Go Go.Proofs Go.RowKit
namespace AE

@[reducible] def tabT (r1 r2 r3 : Int) : CallTab Tryd.prog :=
  ⟨[(6, [], .bool true), (7, [stS 0, stS 4], .int .i64 r1), (7, [stS 4, stS 0], .int .i64 (-r1)),
    (7, [stS 4, stS 8], .int .i64 r2), (7, [stS 0, stS 8], .int .i64 r3)]⟩

@[reducible] def facT (e : Bool) : Facts Tryd.prog := ⟨[(.bin .eql 23 (stS 0) (stS 4), .bool e)]⟩

noncomputable def totOk (r : Int × Int × Int) : Bool :=
  match @evalCall Tryd.prog _ (facT (r.1 == 0)) (tabT r.1 r.2.1 r.2.2) 1000 10 3 [stS 0, stS 4, stS 8] with
  | some (.bool b) => b
  | _ => false

def signs : List (Int × Int × Int) := [(0, 0, 0), (0, 0, -1), (0, 1, 0), (0, 1, 1), (0, 1, -1), (0, -1, 0), (0, -1, -1),
  (1, 0, 0), (1, 0, 1), (1, 0, -1), (1, 1, 0), (1, 1, 1), (1, 1, -1), (1, -1, 0), (1, -1, 1), (1, -1, -1), (-1, 0, 0), (-1, 0, -1), (-1, 1, 0), (-1, 1, 1), (-1, 1, -1), (-1, -1, 0), (-1, -1, -1)]

set_option maxRecDepth 100000 in
theorem tot_all : signs.all totOk = true := by kernel_rfl

theorem signI_neg (a b : Int) : signI b a = -signI a b := by unfold signI; (repeat' split) <;> omega
theorem signI_zero (a b : Int) : signI a b = 0 ↔ a = b := by
  unfold signI
  (repeat' split) <;> constructor <;> intro h <;> first | omega | (exfalso; omega)

theorem cmpI_cases (t c s q t' c' s' q' : Int) : cmpI t c s q t' c' s' q' = 0 ∨ cmpI t c s q t' c' s' q' = 1 ∨ cmpI t c s q t' c' s' q' = -1 := by
  unfold cmpI
  (repeat' split) <;> exact signI_cases _ _

theorem cmpI_neg (t c s q t' c' s' q' : Int) : cmpI t' c' s' q' t c s q = -cmpI t c s q t' c' s' q' := by
  unfold cmpI
  rw [signI_neg t t', signI_neg c c', signI_neg s s', signI_neg q q']
  (repeat' split) <;> omega

theorem cmpI_zero (t c s q t' c' s' q' : Int) : (cmpI t c s q t' c' s' q' == 0) = eqSt t c s q t' c' s' q' := by
  rw [Bool.eq_iff_iff]
  unfold cmpI eqSt
  simp only [beq_iff_eq, decide_eq_true_eq]
  rw [← signI_zero t t', ← signI_zero c c', ← signI_zero s s', ← signI_zero q q']
  (repeat' split) <;> constructor <;> intro h <;> first | omega | (exfalso; omega)

theorem signI_step {a b c : Int} (h1 : signI a b ≤ 0) (h2 : signI b c ≤ 0) : signI a c ≤ 0 ∧ (signI a c = 0 → signI a b = 0 ∧ signI b c = 0) := by
  unfold signI at *
  (repeat' split at h1) <;> (repeat' split at h2) <;> (repeat' split) <;> constructor <;> first | omega | (intro h; omega)

theorem lex_le {a b d r1 r2 r3 : Int} (g : a ≤ 0 → b ≤ 0 → d ≤ 0 ∧ (d = 0 → a = 0 ∧ b = 0)) (hr : r1 ≤ 0 → r2 ≤ 0 → r3 ≤ 0) (h1 : (if a ≠ 0 then a else r1) ≤ 0) (h2 : (if b ≠ 0 then b else r2) ≤ 0) : (if d ≠ 0 then d else r3) ≤ 0 := by
  have ha : a ≤ 0 := by split at h1 <;> omega
  have hb : b ≤ 0 := by split at h2 <;> omega
  obtain ⟨g1, g2⟩ := g ha hb
  split
  · exact g1
  · rename_i hd
    obtain ⟨e1, e2⟩ := g2 (by omega)
    rw [if_neg (by omega)] at h1 h2
    exact hr h1 h2

theorem cmpI_trans (t c s q t' c' s' q' t2 c2 s2 q2 : Int) (h1 : cmpI t c s q t' c' s' q' ≤ 0) (h2 : cmpI t' c' s' q' t2 c2 s2 q2 ≤ 0) : cmpI t c s q t2 c2 s2 q2 ≤ 0 :=
  lex_le signI_step (lex_le signI_step (lex_le signI_step fun h1 h2 => (signI_step h1 h2).1)) h1 h2

theorem total_any (t c s q t' c' s' q' t2 c2 s2 q2 : Int) (w : World) :
    Calls Tryd.prog 3 #[stV t c s q, stV t' c' s' q', stV t2 c2 s2 q2] w fun e w' => e = .returned (.bool true) ∧ Below w.heap.size w w' := by
  let x : Nat → Int := fun k => [t, c, s, q, t', c', s', q', t2, c2, s2, q2].getD k 0
  let r1 := cmpI t c s q t' c' s' q'
  let r2 := cmpI t' c' s' q' t2 c2 s2 q2
  let r3 := cmpI t c s q t2 c2 s2 q2
  have hmem : (r1, r2, r3) ∈ signs := by
    have h1 : r1 = 0 ∨ r1 = 1 ∨ r1 = -1 := cmpI_cases _ _ _ _ _ _ _ _
    have h2 : r2 = 0 ∨ r2 = 1 ∨ r2 = -1 := cmpI_cases _ _ _ _ _ _ _ _
    have h3 : r3 = 0 ∨ r3 = 1 ∨ r3 = -1 := cmpI_cases _ _ _ _ _ _ _ _
    have h4 : r1 ≤ 0 → r2 ≤ 0 → r3 ≤ 0 := cmpI_trans _ _ _ _ _ _ _ _ _ _ _ _
    generalize r1 = a at *
    generalize r2 = b at *
    generalize r3 = d at *
    unfold signs
    rcases h1 with rfl | rfl | rfl <;> rcases h2 with rfl | rfl | rfl <;> rcases h3 with rfl | rfl | rfl <;> first | (exfalso; omega) | simp
  have hok := List.all_eq_true.1 tot_all _ hmem
  unfold totOk at hok
  split at hok
  · rename_i b hres
    subst hok
    letI := sgI x
    letI := facT (r1 == 0)
    letI := tabT r1 r2 r3
    have hF : FactsOk Tryd.prog := fun p hp => by
      rcases List.mem_cons.1 hp with rfl | hp
      · refine ⟨rfl, rfl, fun xo yo w => ?_⟩
        show _ = Result.ok (Next.value (.bool (r1 == 0))) w
        rw [show (r1 == 0) = eqSt t c s q t' c' s' q' from cmpI_zero t c s q t' c' s' q']
        exact eqlSt_run t c s q t' c' s' q' xo yo w
      · cases hp
    have hC : CallsOk Tryd.prog := fun p hp => by
      rcases List.mem_cons.1 hp with rfl | hp
      · exact ⟨rfl, rfl, fun w _ => sanity_any w⟩
      rcases List.mem_cons.1 hp with rfl | hp
      · exact ⟨rfl, rfl, fun w _ => compare_any t c s q t' c' s' q' w⟩
      rcases List.mem_cons.1 hp with rfl | hp
      · refine ⟨rfl, rfl, fun w _ => ?_⟩
        have := compare_any t' c' s' q' t c s q w
        rw [cmpI_neg t c s q t' c' s' q'] at this
        exact this
      rcases List.mem_cons.1 hp with rfl | hp
      · exact ⟨rfl, rfl, fun w _ => compare_any t' c' s' q' t2 c2 s2 q2 w⟩
      rcases List.mem_cons.1 hp with rfl | hp
      · exact ⟨rfl, rfl, fun w _ => compare_any t c s q t2 c2 s2 q2 w⟩
      cases hp
    exact evalCall_any (P := Tryd.prog) mixed hF hC hres (w := w) (immW_sgI x w)
  · cases hok

end AE
end Go.Proofs.YtheaofepenbcgaaDoor

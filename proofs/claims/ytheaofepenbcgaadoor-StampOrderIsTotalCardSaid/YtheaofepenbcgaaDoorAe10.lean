/- AE, part 10: slices of slices, copy, make, lengths, conversions, comparisons with nil, interfaces. -/
import Derived.Test.YtheaofepenbcgaaDoorAe9
namespace Go.Proofs.YtheaofepenbcgaaDoor
open Go
namespace AE
variable [Sig]

section
variable {P : Program} {φ : Emb} {A A' : AS} {w : World}

omit [Sig] in
theorem runtimePanic_bounds_pure {α : Type} (x y : Int) (sg : Bool) (c : BoundsCode) : pureRun P (runtimePanic (.bounds x y sg c) : Sem α) = none := rfl

omit [Sig] in
theorem boundsPanic_pure {α : Type} (k : IntKind) (x y : Int) (c : BoundsCode) : pureRun P (boundsPanic k x y c : Sem α) = none := by
  unfold boundsPanic
  dsimp only
  split
  · rw [pureRun_bind]
    have : pureRun P ((fun x => x == 1) <$> choose (.extern "runtime.boundsError.signed" 2)) = none := rfl
    rw [this]; rfl
  · rw [pureRun_bind]; rfl

omit [Sig] in
theorem sliceBound_pure {v : Value} {y : Nat} {c : BoundsCode} {r : Nat} (h : pureRun P (Instr.sliceBound v y c) = some r) : ∃ k i, v = .int k i ∧ 0 ≤ i ∧ i ≤ y ∧ r = i.toNat := by
  unfold Instr.sliceBound at h
  rw [pureRun_bind] at h
  cases v with
  | int k i =>
    simp only [asIntOf, pureRun_pure, Option.bind_some] at h
    split at h
    · rename_i hb
      simp only [pureRun_pure, Option.some.injEq] at h
      exact ⟨k, i, rfl, hb.1, hb.2, h.symm⟩
    · rw [boundsPanic_pure] at h; cases h
  | pointer a => cases a <;> cases h
  | _ => cases h

omit [Sig] in
theorem pure_sliceBound (k : IntKind) (i : Int) (y : Nat) (c : BoundsCode) (h0 : 0 ≤ i) (h1 : i ≤ y) : pureRun P (Instr.sliceBound (.int k i) y c) = some i.toNat := by
  unfold Instr.sliceBound
  rw [pureRun_bind]
  simp only [asIntOf, pureRun_pure, Option.bind_some]
  rw [if_pos ⟨h0, h1⟩]
  rfl

omit [Sig] in
/-- The bounds of a slice expression, at a capacity that may be greater. -/
theorem sliceBounds_mono {b : Bool} {len c c' l h m : Nat} {lo hi mx : Option Value} (hc : c ≤ c') (hb : pureRun P (Instr.sliceBounds b len c lo hi mx) = some (l, h, m)) :
    pureRun P (Instr.sliceBounds b len c' lo hi mx) = some (l, h, if mx.isSome then m else c') ∧ (mx = none → m = c) ∧ m ≤ c ∧ l ≤ h ∧ (mx.isSome = true → h ≤ m) := by
  have low : ∀ (y m0 m1 : Nat) (cd : BoundsCode) {l h m : Nat}, pureRun P (do
      let l ← match lo with
        | some v => Instr.sliceBound v y cd
        | none => pure 0
      pure (l, y, m0)) = some (l, h, m) → pureRun P (do
      let l ← match lo with
        | some v => Instr.sliceBound v y cd
        | none => pure 0
      pure (l, y, m1)) = some (l, h, m1) ∧ h = y ∧ m = m0 ∧ l ≤ y := by
    intro y m0 m1 cd l h m hl
    cases lo with
    | none =>
      simp only [pureRun_bind, pureRun_pure, Option.bind_some, Option.some.injEq, Prod.mk.injEq] at hl ⊢
      obtain ⟨rfl, rfl, rfl⟩ := hl
      simp
    | some v =>
      simp only [pureRun_bind] at hl ⊢
      cases hs : pureRun P (Instr.sliceBound v y cd) with
      | none => rw [hs] at hl; cases hl
      | some r =>
        rw [hs] at hl
        simp only [Option.bind_some, pureRun_pure, Option.some.injEq, Prod.mk.injEq] at hl ⊢
        obtain ⟨k, i, _, h0, h1, h2⟩ := sliceBound_pure hs
        obtain ⟨rfl, rfl, rfl⟩ := hl
        refine ⟨by simp, rfl, rfl, by omega⟩
  cases mx with
  | none =>
    cases hi with
    | none =>
      have e : ∀ c0, Instr.sliceBounds b len c0 lo none none = (do
          let l ← match lo with
            | some v => Instr.sliceBound v len (if (none : Option Value).isSome then .slice3C else .sliceB)
            | none => pure 0
          pure (l, len, c0)) := fun c0 => by unfold Instr.sliceBounds; cases lo <;> rfl
      rw [e] at hb ⊢
      obtain ⟨g1, g2, g3, g4⟩ := low len c c' _ hb
      subst g2; subst g3
      exact ⟨by simpa using g1, fun _ => rfl, Nat.le_refl _, g4, fun h => by cases h⟩
    | some vh =>
      have e : ∀ c0, Instr.sliceBounds b len c0 lo (some vh) none = (do
          let h ← Instr.sliceBound vh c0 (if b then .sliceAcap else .sliceAlen)
          let l ← match lo with
            | some v => Instr.sliceBound v h (if (none : Option Value).isSome then .slice3C else .sliceB)
            | none => pure 0
          pure (l, h, c0)) := fun c0 => by unfold Instr.sliceBounds; cases lo <;> rfl
      rw [e] at hb ⊢
      rw [pureRun_bind] at hb ⊢
      cases hs : pureRun P (Instr.sliceBound vh c (if b = true then .sliceAcap else .sliceAlen)) with
      | none => rw [hs] at hb; cases hb
      | some r =>
        rw [hs, Option.bind_some] at hb
        obtain ⟨k, i, rfl, h0, h1, rfl⟩ := sliceBound_pure hs
        rw [pure_sliceBound k i c' _ h0 (by omega), Option.bind_some]
        obtain ⟨g1, g2, g3, g4⟩ := low i.toNat c c' _ hb
        subst g2; subst g3
        exact ⟨by simpa using g1, fun _ => rfl, Nat.le_refl _, g4, fun h => by cases h⟩
  | some vm =>
    cases hi with
    | none =>
      exfalso
      have e : Instr.sliceBounds b len c lo none (some vm) = (do
          let m ← Instr.sliceBound vm c (if b then .slice3Acap else .slice3Alen)
          let h ← (stuck "Slice: max without high" : Sem Nat)
          let l ← match lo with
            | some v => Instr.sliceBound v h (if (some vm).isSome then .slice3C else .sliceB)
            | none => pure 0
          pure (l, h, m)) := by unfold Instr.sliceBounds; cases lo <;> rfl
      rw [e, pureRun_bind] at hb
      cases hs : pureRun P (Instr.sliceBound vm c (if b = true then .slice3Acap else .slice3Alen)) with
      | none => rw [hs] at hb; cases hb
      | some r => rw [hs] at hb; cases hb
    | some vh =>
      have e : ∀ c0, Instr.sliceBounds b len c0 lo (some vh) (some vm) = (do
          let m ← Instr.sliceBound vm c0 (if b then .slice3Acap else .slice3Alen)
          let h ← Instr.sliceBound vh m .slice3B
          let l ← match lo with
            | some v => Instr.sliceBound v h (if (some vm).isSome then .slice3C else .sliceB)
            | none => pure 0
          pure (l, h, m)) := fun c0 => by unfold Instr.sliceBounds; cases lo <;> rfl
      rw [e, pureRun_bind] at hb ⊢
      cases hs : pureRun P (Instr.sliceBound vm c (if b = true then .slice3Acap else .slice3Alen)) with
      | none => rw [hs] at hb; cases hb
      | some r =>
        rw [hs, Option.bind_some] at hb
        obtain ⟨k, i, rfl, h0, h1, rfl⟩ := sliceBound_pure hs
        rw [pure_sliceBound k i c' _ h0 (by omega), Option.bind_some]
        rw [pureRun_bind] at hb ⊢
        cases hs1 : pureRun P (Instr.sliceBound vh i.toNat .slice3B) with
        | none => rw [hs1] at hb; cases hb
        | some r1 =>
          rw [hs1, Option.bind_some] at hb
          rw [Option.bind_some]
          obtain ⟨k4, i4, _, q0, q1, q2⟩ := sliceBound_pure hs1
          obtain ⟨g1, g2, g3, g4⟩ := low r1 i.toNat i.toNat _ hb
          subst g2; subst g3
          refine ⟨by simpa using g1, fun h => by simp at h, by omega, g4, fun _ => by omega⟩

def aSlice (P : Program) (A : AS) (t : TypeId) (x : Value) (lo hi mx : Option Value) : Option Value :=
  match pureRun P (underlying t), x with
  | some (.array n elem), .pointer (some ⟨b, off, none⟩) =>
    match pureRun P (Instr.sliceBounds false n n lo hi mx), pureRun P (sizeOf elem) with
    | some (l, h, m), some sz => some (.slice (some ⟨b, if m = l then off else off + l * sz, none⟩) (h - l) (m - l))
    | _, _ => none
  | some (.slice elem), .slice (some ⟨b, off, none⟩) len cap =>
    match pureRun P (Instr.sliceBounds true len cap lo hi mx), pureRun P (sizeOf elem), A.bl.get b with
    | some (l, h, m), some sz, some k =>
      bif Nat.beq k.stride 0 || Nat.beq k.stride sz then
        match mx with
        | some _ => bif Nat.beq m l then some (.slice (some ⟨dead, 0, none⟩) 0 0) else some (.slice (some ⟨b, off + l * sz, none⟩) (h - l) (m - l))
        | none => bif Nat.ble h m then (bif Nat.beq m l then some (.slice (some ⟨dead, 1, none⟩) 0 0) else some (.slice (some ⟨b, off + l * sz, none⟩) (h - l) (m - l))) else none
      else none
    | some (_, h, m), some _, none => bif Nat.beq cap 0 && Nat.beq len 0 && Nat.ble h m then some (.slice (some ⟨b, off, none⟩) 0 0) else none
    | _, _, _ => none
  | _, _ => none

theorem snd_slice (hr : Rel φ A w) {t : TypeId} {x x' v : Value} {lo hi mx : Option Value} (hx : VRel φ x x') (h : aSlice P A t x lo hi mx = some v) : Snd (RV v) P φ A w (Instr.sliceAt t x' lo hi mx) A := by
  unfold aSlice at h
  split at h
  · rename_i n elem b off hu
    split at h
    · rename_i l hh m sz hb hsz
      simp only [Option.some.injEq] at h
      subst h
      cases hx with
      | ptr he =>
        rename_i e
        unfold Instr.sliceAt
        refine Snd.pre hu ?_
        simp only
        refine Snd.pre (a := (⟨e.blk, e.sh + off, none⟩ : Addr)) rfl ?_
        refine Snd.pre hb ?_
        simp only
        refine Snd.pre hsz ?_
        have := VRel.slx (φ := φ) (b := b) (o := if m = l then off else off + l * sz) (hh - l) (m - l) he
        refine Snd.ret hr ?_
        show VRel φ _ _
        by_cases hm : m = l
        · simp only [hm, if_true] at this ⊢
          exact this
        · simp only [hm, if_false, Addr.add_at] at this ⊢
          rw [← Nat.add_assoc] at this
          exact this
    · cases h
  · rename_i elem b off len cap hu
    -- the run in the model, at its own capacity
    have run : ∀ (a : Addr) (cap' l hh m sz : Nat), pureRun P (Instr.sliceBounds true len cap' lo hi mx) = some (l, hh, m) → pureRun P (sizeOf elem) = some sz →
        (Instr.sliceAt t (.slice (some a) len cap') lo hi mx).run P w = .ok (.slice (if m = l then some a else some (a.add (l * sz))) (hh - l) (m - l)) w := by
      intro a cap' l hh m sz hb hsz
      unfold Instr.sliceAt
      refine run_pre hu ?_
      simp only
      unfold Instr.slice
      refine run_pre hu ?_
      simp only
      refine run_pre hb ?_
      simp only
      refine run_pre hsz ?_
      rfl
    split at h
    · rename_i l hh m sz k hb hsz hk
      cases hst : (Nat.beq k.stride 0 || Nat.beq k.stride sz) with
      | false => rw [hst] at h; cases h
      | true =>
        rw [hst, cond_true] at h
        have hst' : k.stride = 0 ∨ k.stride = sz := by
          simp only [Bool.or_eq_true] at hst
          exact hst.imp Nat.eq_of_beq_eq_true Nat.eq_of_beq_eq_true
        split at h
        · rename_i vm
          -- with a maximum: both capacities are known
          have both : ∀ (e : Em) (cap' : Nat), φ b = some e → cap ≤ cap' → Snd (RV v) P φ A w (Instr.sliceAt t (.slice (some ⟨e.blk, e.sh + off, none⟩) len cap') lo hi (some vm)) A := by
            intro e cap' he hle
            obtain ⟨g1, g2, g3, g4, g5⟩ := sliceBounds_mono hle hb
            simp only [Option.isSome_some, if_true] at g1 g5
            have hr1 := run ⟨e.blk, e.sh + off, none⟩ cap' l hh m sz g1 hsz
            refine ⟨φ, w, _, hr1, ?_, Step.refl hr⟩
            cases hml : Nat.beq m l with
            | true =>
              rw [hml, cond_true, Option.some.injEq] at h
              subst h
              have hml' : m = l := Nat.eq_of_beq_eq_true hml
              have h1 : hh - l = 0 := by have := g5 trivial; omega
              have h2 : m - l = 0 := by omega
              rw [if_pos hml', h1, h2]
              exact .slz _ (fun _ => rfl)
            | false =>
              rw [hml, cond_false, Option.some.injEq] at h
              subst h
              have hml' : m ≠ l := fun e => by subst e; simp at hml
              rw [if_neg hml', Addr.add_at]
              have := VRel.slx (φ := φ) (b := b) (o := off + l * sz) (hh - l) (m - l) he
              rw [← Nat.add_assoc] at this
              exact this
          cases hx with
          | slx _ _ he => exact both _ _ he (Nat.le_refl _)
          | slg _ _ c' he q1 q2 q3 => exact both _ _ he q2
          | slz a' hz =>
            rename_i c'
            obtain ⟨f1, _⟩ := sliceBounds_mono (Nat.zero_le c') hb
            have hr1 := run a' c' l hh m sz (by simpa using f1) hsz
            obtain ⟨g1, g2, g3, g4, g5⟩ := sliceBounds_mono (Nat.le_refl _) hb
            have := g5 rfl
            have e1 : l = 0 := by omega
            have e2 : hh = 0 := by omega
            have e3 : m = 0 := by omega
            subst e1; subst e2; subst e3
            refine ⟨φ, w, _, hr1, ?_, Step.refl hr⟩
            simp only [Nat.beq_refl, cond_true, Option.some.injEq] at h
            subst h
            simp only [if_true, Nat.sub_self]
            exact .slz _ (fun _ => rfl)
        · -- without
          cases hhm : Nat.ble hh m with
          | false => rw [hhm] at h; cases h
          | true =>
          rw [hhm, cond_true] at h
          have hhm' := Nat.ble_eq.mp hhm
          obtain ⟨g1, g2, g3, g4, g5⟩ := sliceBounds_mono (Nat.le_refl _) hb
          have hmc := g2 rfl
          subst hmc
          -- a slice of no capacity that is known
          have empty : ∀ (a' : Addr) (c' : Nat), m = l → ∀ x', (x' = some a' ∨ ∃ a'', x' = some a'') → VRel φ (.slice (some ⟨dead, 1, none⟩) 0 0) (.slice x' (hh - l) (c' - l)) := by
            intro a' c' hml x' hx'
            rw [show hh - l = 0 by omega]
            rcases hx' with rfl | ⟨a'', rfl⟩ <;> exact .slz _ (fun h => absurd h (by decide))
          have ifs : ∀ (p : Prop) [Decidable p] (a b : Addr), ∃ a'', (if p then some a else some b) = some a'' := fun p _ a b => by
            by_cases hp : p
            · exact ⟨a, if_pos hp⟩
            · exact ⟨b, if_neg hp⟩
          cases hml : Nat.beq m l with
          | true =>
            have hml' : m = l := Nat.eq_of_beq_eq_true hml
            rw [hml, cond_true, Option.some.injEq] at h
            subst h
            cases hx with
            | slx _ _ he =>
              rename_i e
              refine ⟨φ, w, _, run ⟨e.blk, e.sh + off, none⟩ m l hh m sz hb hsz, empty ⟨e.blk, e.sh + off, none⟩ m hml' _ (.inr (ifs _ _ _)), Step.refl hr⟩
            | slg _ _ c' he q1 q2 q3 =>
              rename_i e
              obtain ⟨f1, _⟩ := sliceBounds_mono q2 hb
              exact ⟨φ, w, _, run ⟨e.blk, e.sh + off, none⟩ c' l hh c' sz (by simpa using f1) hsz, empty ⟨e.blk, e.sh + off, none⟩ c' hml' _ (.inr (ifs _ _ _)), Step.refl hr⟩
            | slz a' hz =>
              rename_i c'
              obtain ⟨f1, _⟩ := sliceBounds_mono (Nat.zero_le c') hb
              exact ⟨φ, w, _, run a' c' l hh c' sz (by simpa using f1) hsz, empty a' c' hml' _ (.inr (ifs _ _ _)), Step.refl hr⟩
          | false =>
            have hml' : m ≠ l := fun e => by subst e; simp at hml
            rw [hml, cond_false, Option.some.injEq] at h
            subst h
            cases hx with
            | slx _ _ he =>
              rename_i e
              have hr1 := run ⟨e.blk, e.sh + off, none⟩ m l hh m sz hb hsz
              refine ⟨φ, w, _, hr1, ?_, Step.refl hr⟩
              rw [if_neg hml', Addr.add_at]
              have := VRel.slx (φ := φ) (b := b) (o := off + l * sz) (hh - l) (m - l) he
              rw [← Nat.add_assoc] at this
              exact this
            | slg _ _ c' he q1 q2 q3 =>
              rename_i e
              obtain ⟨f1, _⟩ := sliceBounds_mono q2 hb
              have hr1 := run ⟨e.blk, e.sh + off, none⟩ c' l hh c' sz (by simpa using f1) hsz
              refine ⟨φ, w, _, hr1, ?_, Step.refl hr⟩
              rw [if_neg (by omega), Addr.add_at]
              obtain ⟨k', hk', hest, _⟩ := hr.dom b e he
              rw [hk] at hk'; cases hk'
              have hes : e.stride = sz := by
                rcases hst' with h0 | h0
                · omega
                · exact hest.trans h0
              have hsum : l * sz + (c' - l) * sz = c' * sz := by rw [← Nat.add_mul]; congr 1; omega
              have := VRel.slg (φ := φ) (b := b) (o := off + l * sz) (hh - l) (m - l) (c' - l) he q1 (by omega) (by rw [hes] at q3 ⊢; omega)
              rw [← Nat.add_assoc] at this
              exact this
            | slz a' hz => omega
    · rename_i l hh m sz hb hsz hk
      cases h00 : (Nat.beq cap 0 && Nat.beq len 0 && Nat.ble hh m) with
      | false => rw [h00] at h; cases h
      | true =>
        rw [h00, cond_true, Option.some.injEq] at h
        subst h
        simp only [Bool.and_eq_true] at h00
        have e1 : cap = 0 := Nat.eq_of_beq_eq_true h00.1.1
        have e2 : len = 0 := Nat.eq_of_beq_eq_true h00.1.2
        have e3 : hh ≤ m := Nat.ble_eq.mp h00.2
        subst e1; subst e2
        have nomap : ∀ e, φ b ≠ some e := fun e he => by
          obtain ⟨k, hk', _⟩ := hr.dom b e he
          rw [hk] at hk'; cases hk'
        cases hx with
        | slx _ _ he => exact absurd he (nomap _)
        | slg _ _ c' he q1 q2 q3 => exact absurd he (nomap _)
        | slz a' hz =>
          rename_i c'
          obtain ⟨g1, g2, g3, g4, g5⟩ := sliceBounds_mono (Nat.zero_le c') hb
          have hr1 := run a' c' l hh _ sz g1 hsz
          refine ⟨φ, w, _, hr1, ?_, Step.refl hr⟩
          have hm : m = 0 := by omega
          have e1 : l = 0 := by omega
          have e2 : hh = 0 := by omega
          subst hm; subst e1; subst e2
          have hc : off = 0 → (if mx.isSome = true then 0 else c') - 0 = 0 := fun ho => by
            by_cases hmx : mx.isSome = true
            · simp [hmx]
            · simp [hmx, hz ho]
          show VRel φ _ (.slice (if (if mx.isSome = true then 0 else c') = 0 then some a' else some (a'.add (0 * sz))) 0 ((if mx.isSome = true then 0 else c') - 0))
          by_cases hz2 : (if mx.isSome = true then 0 else c') = 0
          · rw [if_pos hz2]; exact .slz _ hc
          · rw [if_neg hz2]; exact .slz _ hc
    · cases h
  · cases h

end
end AE
end Go.Proofs.YtheaofepenbcgaaDoor

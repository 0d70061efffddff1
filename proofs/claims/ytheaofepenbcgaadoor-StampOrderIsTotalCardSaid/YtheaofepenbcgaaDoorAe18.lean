/- AE, part 18: code and calls. -/
import Derived.Test.YtheaofepenbcgaaDoorAe17
import Derived.LoopNIn
namespace Go.Proofs.YtheaofepenbcgaaDoor
open Go
namespace AE
variable [Sig]

section
variable {P : Program} {ops : Array Oper}

omit [Sig] in
theorem tail_phaseI {ro : Option Nat} {Q : Exit → Act → World → Prop} {m : Nat} (hback : ∀ i j, i < ops.size → direct ops i j = true → j < i) (hanc : ∀ i j, i < ops.size → m ≤ j → j < i → anc ops 8 i j = true) :
    ∀ (fuel k : Nat) (listed : Array Bool) (a : Act) (w : World), m ≤ k → listed.size = ops.size → (∀ i, listed.getD i false = decide (i < k ∧ i < ops.size)) →
      unl listed ≤ fuel → wpListIn (Fr ro) 0 P ops Q (ops.toList.drop k) a w → wpAnyIn (Fr ro) 0 P .any ops Q fuel listed a w := by
  intro fuel
  induction fuel with
  | zero =>
    intro k listed a w hmk hs hl hf h
    have hk : ops.size ≤ k := by
      rcases Nat.lt_or_ge k ops.size with hk | hk
      · exfalso
        have h1 := hl k
        simp only [Nat.lt_irrefl, false_and, decide_false] at h1
        have := unl_set (i := k) (listed := listed) (by omega) (by rw [getD_true_of_lt (by omega)]; exact h1)
        omega
      · exact hk
    have hr : Region.ready .any ops listed = [] := by
      apply List.eq_nil_iff_forall_not_mem.2
      intro i hi
      obtain ⟨h0, o, ho, _⟩ := mem_ready.1 hi
      have hio : i < ops.size := (Array.getElem?_eq_some_iff.1 ho).1
      rw [getD_true_of_lt (by omega), hl i] at h0
      simp [hio] at h0
      omega
    rw [List.drop_of_length_le (by simpa using hk)] at h
    exact ⟨hr, h⟩
  | succ fuel ih =>
    intro k listed a w hmk hs hl hf h
    rcases Nat.lt_or_ge k ops.size with hk | hk
    · have hkf : listed.getD k false = false := by rw [hl k]; simp
      have ho : ops[k]? = some ops[k] := Array.getElem?_eq_getElem hk
      have hready : k ∈ Region.ready .any ops listed := by
        refine mem_ready.2 ⟨by rw [getD_true_of_lt (by omega)]; exact hkf, ops[k], ho, fun e he hb => ?_⟩
        have : direct ops k e.on = true := by
          simp only [direct, ho]
          exact Array.any_eq_true'.2 ⟨e, he, by simp [hb]⟩
        have := hback k e.on hk this
        rw [hl e.on]
        simp; omega
      refine ⟨fun h0 => absurd (h0 ▸ hready) (by simp), fun i hi => ?_⟩
      have hik : i = k := by
        obtain ⟨h0, o, ho', _⟩ := mem_ready.1 hi
        have hio : i < ops.size := (Array.getElem?_eq_some_iff.1 ho').1
        rw [getD_true_of_lt (by omega), hl i] at h0
        simp only [hio, and_true, decide_eq_false_iff_not, Nat.not_lt] at h0
        rcases Nat.lt_or_eq_of_le h0 with hki | hki
        · exfalso
          have down : ∀ i j, listed.getD i false = true → direct ops i j = true → listed.getD j false = true := by
            intro i j h1 h2
            rw [hl i] at h1
            simp only [decide_eq_true_eq] at h1
            have := hback i j h1.2 h2
            rw [hl j]
            simp; omega
          have := anc_listed down 8 i k (ready_direct hi) (hanc i k hio (by omega) hki)
          rw [hkf] at this
          cases this
        · exact hki.symm
      subst hik
      have hdrop : ops.toList.drop i = ops[i] :: ops.toList.drop (i + 1) := by
        rw [List.drop_eq_getElem_cons (by simpa using hk)]
        simp
      rw [hdrop] at h
      have hnext : ∀ a' w', wpListIn (Fr ro) 0 P ops Q (ops.toList.drop (i + 1)) a' w' → wpAnyIn (Fr ro) 0 P .any ops Q fuel (listed.setIfInBounds i true) a' w' := by
        intro a' w' h'
        refine ih (i + 1) _ a' w' (by omega) (by simpa using hs) ?_ ?_ h'
        · intro j
          by_cases hj : j = i
          · subst hj
            simp [Array.getD_eq_getD_getElem?, hs, hk]
          · rw [getD_set_ne false (Ne.symm hj), hl j]
            congr 1
            simp only [eq_iff_iff]
            omega
        · have := unl_set (i := i) (listed := listed) (by omega) (by rw [getD_true_of_lt (by omega)]; exact hkf)
          omega
      unfold wpOpIn
      simp only [ho]
      unfold wpListIn at h
      split at h
      · rename_i hw
        rw [if_pos hw]
        exact Oper.wpIn_mono hnext h
      · rename_i hw
        rw [if_neg hw]
        exact ⟨h.1, hnext _ _ h.2⟩
    · refine ⟨fun _ => ?_, fun i hi => ?_⟩
      · rw [List.drop_of_length_le (by simpa using hk)] at h
        exact h
      · exfalso
        obtain ⟨h0, o, ho, _⟩ := mem_ready.1 hi
        have hio : i < ops.size := (Array.getElem?_eq_some_iff.1 ho).1
        rw [getD_true_of_lt (by omega), hl i] at h0
        simp [hio] at h0
        omega


end

section
variable {P : Program} [Lib P] [Facts P] {C : ACalls} {gl : Tr Nat} {N : Nat} {ds : List Deferred} {ro : Option Nat} {ops : Array Oper} {m : Nat} {slP sl0 sl1 : Sl} {L : List Nat} {B : Nat → AS} {vs : List Value} {φ0 : Emb} {w0 : World} {a0 : Act}

theorem free_run {Q : Exit → Act → World → Prop} (hok : freeOkL ops L m N = true) (hcall : CallOk P gl C) (hfx : Fx φ0 B vs m) (hr0 : Rel φ0 (B 0) w0) (hg0 : GRel gl φ0) (hs0 : SR N ds φ0 sl0 a0) (hdead : (B m).n ≤ dead)
    (hP : aputs N ops (fun _ => poison) (List.range m) sl0 = some slP) (h1 : aputs N ops (fun j => vs.getD j poison) (List.range m) slP = some sl1)
    (hl : ∀ i o, i < m → ops[i]? = some o → Link P C gl N ops L m slP i o (vs.take i) (vs.getD i poison) (B i) (B (i + 1)))
    (htail : ∀ φ a w, SR N ds φ sl1 a → Step φ0 (B 0) w0 φ (B m) w → wpListIn (Fr ro) 0 P ops Q (ops.toList.drop m) a w) :
    ∀ (fuel : Nat) (listed : Array Bool) (a : Act) (w : World) (φ : Emb), DInv gl N ds ops m B vs φ0 w0 a0 φ listed a w → (∀ j ∈ L, j < m → listed.getD j false = true) → unl listed ≤ fuel → wpAnyIn (Fr ro) 0 P .any ops Q fuel listed a w := by
  obtain ⟨hm, hsel, hdst, hlt, hneed, hback, hanc⟩ := freeOkL_spec hok
  have tail : ∀ (fuel : Nat) (listed : Array Bool) (a : Act) (w : World) (φ : Emb), DInv gl N ds ops m B vs φ0 w0 a0 φ listed a w → unl listed ≤ fuel → (∀ i, i < m → listed.getD i false = true) → wpAnyIn (Fr ro) 0 P .any ops Q fuel listed a w := by
    intro fuel listed a w φ hI hf hdone
    refine tail_phaseI hback (fun i j hi hj hji => (hanc i j hi (by omega) hji).resolve_left (by omega)) fuel m listed a w (Nat.le_refl _) hI.size (fun i => ?_) hf ?_
    · by_cases hi : i < m
      · rw [hdone i hi]; simp; omega
      · rw [hI.tailoff i (by omega)]; simp; omega
    · obtain ⟨q1, q2⟩ := hI.done hfx hr0 hs0 hdone hP h1
      exact htail φ a w q1 q2
  intro fuel
  induction fuel with
  | zero =>
    intro listed a w φ hI hLl hf
    refine tail 0 listed a w φ hI hf fun i hi => ?_
    cases h : listed.getD i false with
    | true => rfl
    | false =>
      exfalso
      have := unl_set (i := i) (listed := listed) (by have := hI.size; omega) (by rw [getD_true_of_lt (by have := hI.size; omega)]; exact h)
      omega
  | succ fuel ih =>
    intro listed a w φ hI hLl hf
    by_cases hdone : ∀ i, i < m → listed.getD i false = true
    · exact tail (fuel + 1) listed a w φ hI hf hdone
    · obtain ⟨i0, hi0⟩ := Classical.not_forall.1 hdone
      obtain ⟨hi0m, hi0f⟩ := Classical.not_imp.1 hi0
      have hi0f : listed.getD i0 false = false := by simpa using hi0f
      have hready : Region.ready .any ops listed ≠ [] := by
        have key : ∀ n i, i < n → i < m → listed.getD i false = false → ∃ k, k ∈ Region.ready .any ops listed := by
          intro n
          induction n with
          | zero => intro i hi; omega
          | succ n ihn =>
            intro i hi him hif
            by_cases hp : ∀ k, direct ops i k = true → listed.getD k false = true
            · refine ⟨i, mem_ready.2 ⟨by rw [getD_true_of_lt (by have := hI.size; omega)]; exact hif, ops[i]'(by omega), Array.getElem?_eq_getElem _, fun e he hb => hp _ ?_⟩⟩
              have ho : ops[i]? = some (ops[i]'(by omega)) := Array.getElem?_eq_getElem _
              simp only [direct, ho]
              exact Array.any_eq_true'.2 ⟨e, he, by simp [hb]⟩
            · obtain ⟨k, hk⟩ := Classical.not_forall.1 hp
              obtain ⟨hd, hkf⟩ := Classical.not_imp.1 hk
              have := hback i k (by omega) hd
              exact ihn k (by omega) (by omega) (by simpa using hkf)
        obtain ⟨k, hk⟩ := key (i0 + 1) i0 (by omega) hi0m hi0f
        intro h
        rw [h] at hk
        cases hk
      refine ⟨fun h0 => absurd h0 hready, fun i hi => ?_⟩
      obtain ⟨hun, o, ho, _⟩ := mem_ready.1 hi
      have hio : i < ops.size := (Array.getElem?_eq_some_iff.1 ho).1
      have hlf : listed.getD i false = false := by rw [← getD_true_of_lt (by have := hI.size; omega)]; exact hun
      have him : i < m := by
        rcases Nat.lt_or_ge i m with h | h
        · exact h
        · exfalso
          rcases hanc i i0 hio h (by omega) with ⟨hiL, _⟩ | ha
          · have := hLl i0 hiL hi0m
            rw [hi0f] at this
            cases this
          · have := anc_listed hI.down 8 i i0 (ready_direct hi) ha
            rw [hi0f] at this
            cases this
      obtain ⟨sl, hsl, hlk⟩ := hl i o him ho
      have hlk' : ∃ A1, aval P C gl ops o sl { B i with low := (B i).n } = some (vs.getD i poison, A1) ∧ (B i).n ≤ A1.low ∧ B (i + 1) = { A1 with low := (B i).low } := by
        rcases hlk with ⟨hiL, _⟩ | ⟨_, h⟩
        · have := hLl i hiL him
          rw [hlf] at this
          cases this
        · exact h
      obtain ⟨A1, hv, hlow, hB1⟩ := hlk'
      have hhere := hI.here hfx hr0 hdead him
      have hext : ∀ b e, φ0 b = some e → restrict φ (B i).n b = some e := fun b e hb => by
        have hb0 := hr0.lt hb
        have := hfx.nle' (Nat.zero_le i) (by omega)
        unfold restrict
        rw [if_pos (by omega), hI.old b hb0]
        exact hb
      have hslots : ∀ t v, sl.get t = some v → VRel (restrict φ (B i).n) v (a.tmps.getD t undef) := by
        intro t v htv
        rcases aputs_spec _ _ _ hsl t v htv with ⟨j, hj, hd, rfl⟩ | ⟨hnn, hg1⟩
        · have hdj := hneed i o him ho j hj
          have hji := hback i j hio hdj
          have hlj := ready_direct hi j hdj
          have hval := hI.val j t (by omega) hlj hd
          have e1 : (vs.take i).getD j poison = vs.getD j poison := by
            simp only [List.getD_eq_getElem?_getD, List.getElem?_take, if_pos hji]
          rw [e1]
          exact hval.mono (restrict_mono (hfx.nle' (by omega) (by omega)))
        · rcases aputs_spec _ _ _ hP t v hg1 with ⟨j, hj, hd, rfl⟩ | ⟨hnm, hg2⟩
          · exact .poison _
          · rw [hI.other t fun j hj _ => hnm j (List.mem_range.2 hj)]
            exact (hs0.get t v hg2).mono hext
      unfold wpOpIn
      simp only [ho]
      refine wp_aval hcall (hhere.lower (B i).n) (hg0.mono hext) hslots hv fun φ' v' w' hvv hstep => ?_
      obtain ⟨φ2, hI2⟩ := hI.step hfx hr0 him hm ho hlf (ready_direct hi) hdst hlt hlow hB1 hvv hstep
      exact ih _ _ _ φ2 hI2 (fun j hj hjm => by
        by_cases hji : j = i
        · subst hji
          have := hI.size
          simp [Array.getD_eq_getD_getElem?, show j < listed.size by omega]
        · rw [getD_set_ne false (Ne.symm hji)]
          exact hLl j hj hjm) (by
        have := unl_set (i := i) (listed := listed) (by have := hI.size; omega) hun
        omega)

end

section
variable {P : Program} [Lib P] [Facts P] {C : ACalls} {gl : Tr Nat} {N : Nat} {ds : List Deferred} {ro : Option Nat} {ops : Array Oper} {m : Nat} {slP sl0 : Sl} {L : List Nat} {B : Nat → AS} {vs : List Value} {φ0 : Emb} {w0 : World} {a0 : Act}

omit [Lib P] [Facts P] in
theorem DInv.stepPure {φ : Emb} {listed : Array Bool} {a : Act} {w : World} (hI : DInv gl N ds ops m B vs φ0 w0 a0 φ listed a w) {i : Nat} {o : Oper} (hi : i < m) (hm : m ≤ ops.size) (ho : ops[i]? = some o) (hun : listed.getD i false = false)
    (hdn : ∀ k, direct ops i k = true → listed.getD k false = true) (hdst : ∀ i j, i < m → j < m → i ≠ j → ∀ t, dstOf ops i = some t → dstOf ops j ≠ some t) (hlt : ∀ i t, i < m → dstOf ops i = some t → t < N)
    (hB1 : B (i + 1) = B i) {v' : Value} (hv : VRel (restrict φ (B i).n) (vs.getD i poison) v') : DInv gl N ds ops m B vs φ0 w0 a0 φ (listed.setIfInBounds i true) (a.put o.dst v') w := by
  have hdi : dstOf ops i = o.dst := by simp [dstOf, ho]
  have hset : ∀ j, (listed.setIfInBounds i true).getD j false = true ↔ j = i ∨ listed.getD j false = true := by
    intro j
    by_cases hj : j = i
    · subst hj
      have := hI.size
      simp [Array.getD_eq_getD_getElem?, show j < listed.size by omega]
    · rw [getD_set_ne false (Ne.symm hj)]
      simp [hj]
  refine ⟨by simpa using hI.size, ?_, ?_, by rw [Act.defers_put]; exact hI.defers, by rw [Act.size_put]; exact hI.tsize, hI.rel, hI.old, ?_, ?_, hI.new, hI.cross, hI.keep, hI.hsize, hI.os, hI.tape, hI.output, ?_, ?_⟩
  · intro j k hj hd
    rw [hset] at hj ⊢
    rcases hj with rfl | hj
    · exact .inr (hdn k hd)
    · exact .inr (hI.down j k hj hd)
  · intro j hj
    rw [getD_set_ne false (by omega)]
    exact hI.tailoff j hj
  · intro b e h0 hb
    obtain ⟨j, hj, hlj, hoj⟩ := hI.mapped b e h0 hb
    exact ⟨j, hj, (hset j).2 (.inr hlj), hoj⟩
  · intro j b hj hl hoj
    rcases (hset j).1 hl with rfl | hl
    · exfalso
      unfold own at hoj
      rw [hB1] at hoj
      omega
    · exact hI.total j b hj hl hoj
  · intro t h
    have hti : o.dst ≠ some t := fun hh => h i hi ((hset i).2 (.inl rfl)) (hdi.trans hh)
    have : (a.put o.dst v').tmps.getD t undef = a.tmps.getD t undef := by
      rcases Nat.lt_or_ge t a.tmps.size with htN | htN
      · rw [Act.get_put _ _ _ _ htN, if_neg hti]
      · simp [Array.getD_eq_getD_getElem?, Array.getElem?_eq_none htN, Array.getElem?_eq_none (show (a.put o.dst v').tmps.size ≤ t by rw [Act.size_put]; exact htN)]
    rw [this]
    exact hI.other t fun j hj hl => h j hj ((hset j).2 (.inr hl))
  · intro j t hj hl hd
    by_cases hji : j = i
    · subst hji
      have htN : t < N := hlt j t hj hd
      have : (a.put o.dst v').tmps.getD t undef = v' := by
        rw [Act.get_put _ _ _ _ (by rw [hI.tsize]; exact htN), if_pos (hdi.symm.trans hd)]
      rw [this, hB1]
      exact hv
    · have hlj := ((hset j).1 hl).resolve_left hji
      have htN : t < N := hlt j t hj hd
      have : (a.put o.dst v').tmps.getD t undef = a.tmps.getD t undef := by
        rw [Act.get_put _ _ _ _ (by rw [hI.tsize]; exact htN), if_neg]
        intro hh
        exact hdst i j hi hj (Ne.symm hji) t (hdi.trans hh) hd
      rw [this]
      exact hI.val j t hj hlj hd

theorem take_run {Q : Exit → Act → World → Prop} (hok : freeOkL ops L m N = true) (hF : FactsOk P) (hfx : Fx φ0 B vs m) (hr0 : Rel φ0 (B 0) w0) (hg0 : GRel gl φ0) (hs0 : SR N ds φ0 sl0 a0)
    (hP : aputs N ops (fun _ => poison) (List.range m) sl0 = some slP) (hQp : ∀ c a w, ¬ Q (.panic c) a w)
    (hl : ∀ i o, i < m → ops[i]? = some o → Link P C gl N ops L m slP i o (vs.take i) (vs.getD i poison) (B i) (B (i + 1)))
    (hfin : ∀ (fuel : Nat) (listed : Array Bool) (a : Act), DInv gl N ds ops m B vs φ0 w0 a0 φ0 listed a w0 → (∀ j ∈ L, j < m → listed.getD j false = true) → unl listed ≤ fuel → wpAnyIn (Fr ro) 0 P .any ops Q fuel listed a w0) :
    ∀ (r : List Nat) (fuel : Nat) (listed : Array Bool) (a : Act), (r ≠ [] → ro = none) → takeOk ops r listed = true → (∀ i ∈ r, i ∈ L ∧ i < m) → (∀ j ∈ L, j < m → listed.getD j false = true ∨ j ∈ r) → DInv gl N ds ops m B vs φ0 w0 a0 φ0 listed a w0 →
      unl listed ≤ fuel → wpAnyIn (Fr ro) 0 P .any ops Q fuel listed a w0 := by
  obtain ⟨hm, hsel, hdst, hlt, hneed, hback, hanc⟩ := freeOkL_spec hok
  intro r
  induction r with
  | nil =>
    intro fuel listed a _ _ _ hL hI hf
    exact hfin fuel listed a hI (fun j hj hjm => (hL j hj hjm).resolve_right (by simp)) hf
  | cons i r ih =>
    intro fuel listed a hro hto hr hL hI hf
    have hron : ro = none := hro (by simp)
    obtain ⟨hiL, him⟩ := hr i List.mem_cons_self
    simp only [takeOk, Bool.and_eq_true] at hto
    obtain ⟨⟨hready, hfree⟩, hpk, hto⟩ := hto
    have hi : i ∈ Region.ready .any ops listed := by simpa using hready
    obtain ⟨hun, o, ho, _⟩ := mem_ready.1 hi
    have hio : i < ops.size := (Array.getElem?_eq_some_iff.1 ho).1
    have hlf : listed.getD i false = false := by rw [← getD_true_of_lt (by have := hI.size; omega)]; exact hun
    rw [ho] at hpk
    simp only at hpk
    have hunl := unl_set (i := i) (listed := listed) (by have := hI.size; omega) hun
    cases fuel with
    | zero => omega
    | succ fuel =>
      obtain ⟨sl, hsl, hlk⟩ := hl i o him ho
      have hlk' : pureVal P (evs gl sl) o = some (vs.getD i poison) ∧ B (i + 1) = B i := by
        rcases hlk with ⟨_, h⟩ | ⟨hn, _⟩
        · exact h
        · exact absurd hiL hn
      obtain ⟨hpv, hB1⟩ := hlk'
      have hext : ∀ b e, φ0 b = some e → restrict φ0 (B i).n b = some e := fun b e hb => by
        have hb0 := hr0.lt hb
        have := hfx.nle' (Nat.zero_le i) (by omega)
        unfold restrict
        rw [if_pos (by omega)]
        exact hb
      have hslots : ∀ t v, sl.get t = some v → VRel (restrict φ0 (B i).n) v (a.tmps.getD t undef) := by
        intro t v htv
        rcases aputs_spec _ _ _ hsl t v htv with ⟨j, hj, hd, rfl⟩ | ⟨hnn, hg1⟩
        · have hdj := hneed i o him ho j hj
          have hji := hback i j hio hdj
          have hlj := ready_direct hi j hdj
          have hval := hI.val j t (by omega) hlj hd
          have e1 : (vs.take i).getD j poison = vs.getD j poison := by
            simp only [List.getD_eq_getElem?_getD, List.getElem?_take, if_pos hji]
          rw [e1]
          exact hval.mono (restrict_mono (hfx.nle' (by omega) (by omega)))
        · rcases aputs_spec _ _ _ hP t v hg1 with ⟨j, hj, hd, rfl⟩ | ⟨hnm, hg2⟩
          · exact .poison _
          · rw [hI.other t fun j hj _ => hnm j (List.mem_range.2 hj)]
            exact (hs0.get t v hg2).mono hext
      obtain ⟨v', hrun, hv⟩ := pureVal_run hF (evs_rel (hg0.mono hext) hslots) hpv
      have hwant : Region.wanted o (yielded ops a.tmps) = true := by
        unfold pureKind at hpk
        unfold Region.wanted
        cases hg : o.guard with
        | none => rfl
        | some g => rw [hg] at hpk; simp at hpk
      have habout : ∀ w, o.about P w a.eval = none := by
        intro w
        unfold Oper.about
        unfold pureKind at hpk
        cases hop : o.op <;> simp only [hop, Bool.and_false, Bool.false_eq_true] at hpk ⊢
      have hyf : YieldsFenced P ops o v' a := ⟨.inl ⟨hwant, hrun⟩, habout⟩
      refine wpAnyIn_take (F := Fr ro) (by rw [hron]; rfl) ho hsel hfree hready (fun c a w h => absurd h (hQp c _ w)) hyf ?_
      refine ih fuel _ _ (fun _ => hron) hto (fun k hk => hr k (List.mem_cons_of_mem _ hk)) (fun j hj hjm => ?_) (hI.stepPure him hm ho hlf (ready_direct hi) hdst hlt hB1 hv) (by omega)
      by_cases hji : j = i
      · subst hji
        refine .inl ?_
        have := hI.size
        simp [Array.getD_eq_getD_getElem?, show j < listed.size by omega]
      · rw [getD_set_ne false (Ne.symm hji)]
        rcases hL j hj hjm with h | h
        · exact .inl h
        · rcases List.mem_cons.1 h with rfl | h
          · exact absurd rfl hji
          · exact .inr h

end

omit [Sig] in
theorem planOf_spec {ops : Array Oper} {N : Nat} {rnd : Bool} {L : List Nat} {m : Nat} (h : planOf ops N rnd = some (L, m)) :
    freeOkL ops L m N = true ∧ takeOk ops L (Array.replicate ops.size false) = true ∧ (∀ i ∈ L, i < m) ∧ (rnd = true → L = []) := by
  unfold planOf at h
  simp only at h
  generalize hm : mGuessGo (maskOf (bif rnd then [] else takeL ops)) ops.toList 0 [] 0 = m' at h
  generalize hL : (bif rnd then [] else takeL ops).filter (fun i => Nat.blt i m') = L' at h
  cases hb : (freeOkL ops L' m' N && takeOk ops L' (Array.replicate ops.size false)) with
  | false => rw [hb] at h; cases h
  | true =>
    rw [hb] at h
    cases h
    simp only [Bool.and_eq_true] at hb
    refine ⟨hb.1, hb.2, fun i hi => ?_, fun hr => ?_⟩
    · rw [← hL] at hi
      exact Nat.blt_eq.mp (List.mem_filter.1 hi).2
    · rw [← hL, hr]; rfl

section
variable {P : Program} [Lib P] [Facts P] {C : ACalls} {gl : Tr Nat} {N : Nat}

theorem wp_adraw (hmix : P.follows .mixedOrders = true) (hcall : CallOk P gl C) {ro : Option Nat} {ds : List Deferred} {Q : Exit → Act → World → Prop} {id : Nat} {ops : Array Oper} {sl sl' : Sl} {A A' : AS} {φ : Emb} {w : World} {a : Act} (hr : Rel φ A w) (hg : GRel gl φ) (hs : SR N ds φ sl a) {rnd : Bool} (hro : rnd = false → ro = none) (hQp : ∀ c a w, ¬ Q (.panic c) a w)
    (h : adraw P C gl N rnd ops sl A = some (sl', A'))  (hQ : ∀ φ' a' w', SR N ds φ' sl' a' → Step φ A w φ' A' w' → Q .normal a' w') : (Code.region id ops true).wpIn (Fr ro) 0 P Q a w := by
  unfold adraw at h
  split at h
  · rename_i L m hmo
    obtain ⟨hok, htok, hLm, hLr⟩ := planOf_spec hmo
    have hmle : m ≤ ops.size := (freeOkL_spec hok).1
    split at h
    · rename_i slP hP
      split at h
      · rename_i vs A1 hF
        cases hb : Nat.ble A1.n dead with
        | false => rw [hb] at h; cases h
        | true =>
          rw [hb, cond_true] at h
          split at h
          · rename_i sl1 h1
            obtain ⟨B, b0, b1, b2, b3, b4⟩ := chain_of _ 0 [] _ _ _ rfl hF
            have hlen : (ops.toList.take m).length = m := by simp; omega
            rw [hlen] at b1
            subst b0
            have hl : ∀ i o, i < m → ops[i]? = some o → Link P C gl N ops L m slP i o (vs.take i) (vs.getD i poison) (B i) (B (i + 1)) := by
              intro i o hi ho
              have := b4 i o (by rw [List.getElem?_take, if_pos hi]; simpa using ho)
              simpa using this
            have hr0 : Rel φ (B 0) { w with drawn := w.drawn + 1 } := (Step.drawn hr (w.drawn + 1)).rel
            obtain ⟨_, _, _, _, hneed, hback, _⟩ := freeOkL_spec hok
            have hfx : Fx φ B vs m := fx_of hcall hr0 hg rfl hmle (fun t v hv => ⟨_, hs.get t v hv⟩) hP (fun i o hi ho j hj => hback i j (by omega) (hneed i o hi ho j hj)) hl
            refine wpIn_region_any hmix ?_
            refine take_run hok hcall.facts hfx hr0 hg hs hP hQp hl (fun fuel listed a2 hI2 hLl hf2 => free_run hok hcall hfx hr0 hg hs (by rw [b1]; exact Nat.ble_eq.mp hb) hP h1 hl (fun φ1 a1 w1 q1 q2 => ?_) fuel listed a2 _ φ hI2 hLl hf2) L ops.size _ a ?_ htok (fun i hi => ⟨hi, hLm i hi⟩) (fun j hj _ => .inr hj) ?_ ?_
            · rw [b1] at q2
              refine wpList_aregion hcall _ _ _ _ _ _ _ _ q2.rel (hg.mono (q2.ext hr0)) q1 h fun φ2 a2 w2 r1 r2 => ?_
              exact hQ φ2 a2 w2 r1 (Step.trans hr (Step.drawn hr (w.drawn + 1)) (Step.trans hr0 q2 r2))
            · intro hne
              refine hro ?_
              cases hr2 : rnd with
              | false => rfl
              | true => exact absurd (hLr hr2) hne
            · have hf : ∀ i, (Array.replicate ops.size false).getD i false = false := fun i => by
                rw [Array.getD_eq_getD_getElem?, Array.getElem?_replicate]
                split <;> rfl
              have hlt0 : ∀ b e, φ b = some e → ¬ (B 0).n ≤ b := fun b e hb => by have := hr0.lt hb; omega
              refine ⟨by simp, fun i j hi => absurd hi (by rw [hf]; simp), fun i _ => hf i, hs.defers, hs.size, ?_, fun _ _ => rfl, fun b e h0 hb => absurd h0 (hlt0 b e hb), fun j b _ hl => absurd hl (by rw [hf]; simp),
                fun b e h0 hb => absurd h0 (hlt0 b e hb), fun j b e b' e' hj ho _ hb => ?_, fun _ _ _ => rfl, Nat.le_refl _, rfl, rfl, rfl, fun _ _ => rfl, fun i t _ hl => absurd hl (by rw [hf]; simp)⟩
              · obtain ⟨ψ, w', g1, _⟩ := hfx.ex m (Nat.le_refl _)
                refine ⟨g1.wf, fun b e hb => ?_, fun b e k b' e' k' hb hb' hk hk' hne => ?_, fun b e k b' e' k' hb hb' hk hk' hf hblk => ?_, hr0.imm⟩
                · obtain ⟨k, hk, q1, q2⟩ := hr0.dom b e hb
                  exact ⟨k, by rw [hfx.same' (Nat.zero_le m) (Nat.le_refl _) b (hr0.lt hb)]; exact hk, q1, q2⟩
                · rw [hfx.same' (Nat.zero_le m) (Nat.le_refl _) b (hr0.lt hb)] at hk
                  rw [hfx.same' (Nat.zero_le m) (Nat.le_refl _) b' (hr0.lt hb')] at hk'
                  exact hr0.apart b e k b' e' k' hb hb' hk hk' hne
                · rw [hfx.same' (Nat.zero_le m) (Nat.le_refl _) b (hr0.lt hb)] at hk
                  rw [hfx.same' (Nat.zero_le m) (Nat.le_refl _) b' (hr0.lt hb')] at hk'
                  exact hr0.along b e k b' e' k' hb hb' hk hk' hf hblk
              · exfalso
                have := hfx.nle' (Nat.zero_le j) (by omega)
                exact hlt0 b e hb (Nat.le_trans this ho.1)
            · unfold unl
              exact Nat.le_trans List.count_le_length (by simp)
          · cases h
      · cases h
    · cases h
  · cases h

end
end AE
end Go.Proofs.YtheaofepenbcgaaDoor

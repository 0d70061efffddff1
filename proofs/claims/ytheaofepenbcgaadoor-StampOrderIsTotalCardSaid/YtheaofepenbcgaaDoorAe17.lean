/- AE, part 17: a region that draws its order: whatever the order, the evaluator's result. -/
import Derived.Test.YtheaofepenbcgaaDoorAe16
namespace Go.Proofs.YtheaofepenbcgaaDoor
open Go
namespace AE
variable [Sig]

/-- What holds between two operations. -/
structure DInv (gl : Tr Nat) (N : Nat) (ds : List Deferred) (ops : Array Oper) (m : Nat) (B : Nat → AS) (vs : List Value) (φ0 : Emb) (w0 : World) (a0 : Act) (φ : Emb) (listed : Array Bool) (a : Act) (w : World) : Prop where
  size : listed.size = ops.size
  down : ∀ i j, listed.getD i false = true → direct ops i j = true → listed.getD j false = true
  tailoff : ∀ i, m ≤ i → listed.getD i false = false
  defers : a.defers = ds
  tsize : a.tmps.size = N
  rel : Rel φ (B m) w
  old : ∀ b, b < (B 0).n → φ b = φ0 b
  mapped : ∀ b e, (B 0).n ≤ b → φ b = some e → ∃ j, j < m ∧ listed.getD j false = true ∧ own B j b
  total : ∀ j b, j < m → listed.getD j false = true → own B j b → φ b ≠ none
  new : ∀ b e, (B 0).n ≤ b → φ b = some e → w0.heap.size ≤ e.blk
  cross : ∀ j b e b' e', j < m → own B j b → ¬ own B j b' → φ b = some e → φ b' = some e' → e.blk ≠ e'.blk
  keep : ∀ i, i < w0.heap.size → (∀ b e k, φ0 b = some e → e.blk = i → (B 0).bl.get b = some k → k.ro = true) → w.heap[i]? = w0.heap[i]?
  hsize : w0.heap.size ≤ w.heap.size
  os : w.os = w0.os
  tape : w.tape = w0.tape
  output : w.output = w0.output
  other : ∀ t, (∀ i, i < m → listed.getD i false = true → dstOf ops i ≠ some t) → a.tmps.getD t undef = a0.tmps.getD t undef
  val : ∀ i t, i < m → listed.getD i false = true → dstOf ops i = some t → VRel (restrict φ (B (i + 1)).n) (vs.getD i poison) (a.tmps.getD t undef)

omit [Sig] in
theorem restrict_some {φ : Emb} {n b : Nat} {e : Em} (h : restrict φ n b = some e) : b < n ∧ φ b = some e := by
  unfold restrict at h
  by_cases hb : b < n
  · rw [if_pos hb] at h; exact ⟨hb, h⟩
  · rw [if_neg hb] at h; cases h

omit [Sig] in
theorem restrict_mono {φ : Emb} {n n' : Nat} (h : n ≤ n') : ∀ b e, restrict φ n b = some e → restrict φ n' b = some e := fun b e hb => by
  obtain ⟨h1, h2⟩ := restrict_some hb
  unfold restrict
  rw [if_pos (by omega)]; exact h2

section
variable {P : Program} [Lib P] [Facts P] {C : ACalls} {gl : Tr Nat} {N : Nat} {ds : List Deferred} {ops : Array Oper} {m : Nat} {slP sl0 : Sl} {B : Nat → AS} {vs : List Value} {φ0 φ : Emb} {w0 w : World} {a0 a : Act} {listed : Array Bool}

/-- All are done. -/
theorem DInv.done (hfx : Fx φ0 B vs m) (hr0 : Rel φ0 (B 0) w0) (hs0 : SR N ds φ0 sl0 a0) (hI : DInv gl N ds ops m B vs φ0 w0 a0 φ listed a w) (hall : ∀ i, i < m → listed.getD i false = true)
    (hP : aputs N ops (fun _ => poison) (List.range m) sl0 = some slP) {sl1 : Sl} (h1 : aputs N ops (fun j => vs.getD j poison) (List.range m) slP = some sl1) :
    SR N ds φ sl1 a ∧ Step φ0 (B 0) w0 φ (B m) w := by
  have hext : ∀ b e, φ0 b = some e → φ b = some e := fun b e hb => by rw [hI.old b (hr0.lt hb)]; exact hb
  refine ⟨⟨hI.tsize, hI.defers, fun t v hv => ?_⟩, ?_⟩
  · rcases aputs_spec _ _ _ h1 t v hv with ⟨j, hj, hd, rfl⟩ | ⟨hn, hg⟩
    · have hjm := List.mem_range.1 hj
      exact (hI.val j t hjm (hall j hjm) hd).mono fun b e hb => (restrict_some hb).2
    · rcases aputs_spec _ _ _ hP t v hg with ⟨j, hj, hd, rfl⟩ | ⟨_, hg2⟩
      · exact .poison _
      · rw [hI.other t fun i hi _ => hn i (List.mem_range.2 hi)]
        exact (hs0.get t v hg2).mono hext
  · refine { rel := hI.rel, dom := hI.old, newm := fun b hb hb' => ?_, new := fun b e hb he => .inl (hI.new b e hb he), n_le := hfx.nle' (Nat.zero_le _) (Nat.le_refl _), low := by rw [hfx.lowe' (Nat.le_refl _)]; exact Nat.le_refl _,
             same := fun b hb _ => hfx.same' (Nat.zero_le _) (Nat.le_refl _) b hb, ro := fun b k hk _ => ?_, keep := hI.keep, hsize := hI.hsize, os := hI.os, tape := hI.tape, output := hI.output }
    · obtain ⟨j, hj, ho⟩ := hfx.own_ex (Nat.le_refl _) hb hb'
      exact hI.total j b hj (hall j hj) ho
    · rw [hfx.same' (Nat.zero_le _) (Nat.le_refl _) b (hr0.wf.lt b k hk)]; exact hk

/-- What an operation that is ready finds. -/
theorem DInv.here (hfx : Fx φ0 B vs m) (hr0 : Rel φ0 (B 0) w0) (hdead : (B m).n ≤ dead) (hI : DInv gl N ds ops m B vs φ0 w0 a0 φ listed a w) {i : Nat} (hi : i < m) : Rel (restrict φ (B i).n) (B i) w := by
  obtain ⟨ψ, w', g1, g2, g3, _⟩ := hfx.ex i (by omega)
  have hd : ∀ b e, φ b = some e → b ≠ dead := fun b e hb hh => by
    have := hI.rel.lt hb
    omega
  have hget : ∀ b, b < (B i).n → (B m).bl.get b = (B i).bl.get b := fun b hb => hfx.same' (by omega) (Nat.le_refl _) b hb
  refine ⟨g1.wf, fun b e hb => ?_, fun b e k b' e' k' hb hb' hk hk' hne => ?_, fun b e k b' e' k' hb hb' hk hk' hf hblk => ?_, fun i o hi => ⟨(hI.rel.imm i o hi).1, fun b e hb => (hI.rel.imm i o hi).2 b e (restrict_some hb).2⟩⟩
  · obtain ⟨hlt, hφ⟩ := restrict_some hb
    obtain ⟨k, hk, h1, h2⟩ := hI.rel.dom b e hφ
    rw [hget b hlt] at hk
    refine ⟨k, hk, h1, ?_⟩
    have hψ : ψ b ≠ none := by
      rcases Nat.lt_or_ge b (B 0).n with h0 | h0
      · rw [g2 b h0, ← hI.old b h0, hφ]; simp
      · exact g3 b h0 hlt
    obtain ⟨e', he'⟩ := Option.ne_none_iff_exists'.1 hψ
    obtain ⟨k', hk', _, h3⟩ := g1.dom b e' he'
    rw [hk] at hk'
    cases hk'
    exact h2.restrict hd (fun b e hb => g1.lt hb) h3
  · obtain ⟨hlt, hφ⟩ := restrict_some hb
    obtain ⟨hlt', hφ'⟩ := restrict_some hb'
    exact hI.rel.apart b e k b' e' k' hφ hφ' ((hget b hlt).trans hk) ((hget b' hlt').trans hk') hne
  · obtain ⟨hlt, hφ⟩ := restrict_some hb
    obtain ⟨hlt', hφ'⟩ := restrict_some hb'
    exact hI.rel.along b e k b' e' k' hφ hφ' ((hget b hlt).trans hk) ((hget b' hlt').trans hk') hf hblk

/-- .. and what it leaves. -/
theorem DInv.step (hfx : Fx φ0 B vs m) (hr0 : Rel φ0 (B 0) w0) (hI : DInv gl N ds ops m B vs φ0 w0 a0 φ listed a w) {i : Nat} {o : Oper} (hi : i < m) (hm : m ≤ ops.size) (ho : ops[i]? = some o) (hun : listed.getD i false = false)
    (hdn : ∀ k, direct ops i k = true → listed.getD k false = true) (hdst : ∀ i j, i < m → j < m → i ≠ j → ∀ t, dstOf ops i = some t → dstOf ops j ≠ some t) (hlt : ∀ i t, i < m → dstOf ops i = some t → t < N)
    {A1 : AS} (hlow : (B i).n ≤ A1.low) (hB1 : B (i + 1) = { A1 with low := (B i).low }) {φ' : Emb} {v' : Value} {w' : World} (hv : VRel φ' (vs.getD i poison) v') (hst : Step (restrict φ (B i).n) { B i with low := (B i).n } w φ' A1 w') :
    ∃ φ2, DInv gl N ds ops m B vs φ0 w0 a0 φ2 (listed.setIfInBounds i true) (a.put o.dst v') w' := by
  have hn1 : (B (i + 1)).n = A1.n := by rw [hB1]
  have hbl1 : (B (i + 1)).bl = A1.bl := by rw [hB1]
  have hdi : dstOf ops i = o.dst := by simp [dstOf, ho]
  have hset : ∀ j, (listed.setIfInBounds i true).getD j false = true ↔ j = i ∨ listed.getD j false = true := by
    intro j
    by_cases hj : j = i
    · subst hj
      have := hI.size
      simp [Array.getD_eq_getD_getElem?, show j < listed.size by omega]
    · rw [getD_set_ne false (Ne.symm hj)]
      simp [hj]
  let φ2 : Emb := fun b => if b < (B i).n then φ b else if b < (B (i + 1)).n then φ' b else φ b
  have hlow2 : ∀ b, b < (B i).n → φ2 b = φ b := fun b hb => if_pos hb
  have hmid : ∀ b, own B i b → φ2 b = φ' b := fun b hb => by
    show (if _ then _ else if _ then _ else _) = _
    rw [if_neg (by unfold own at hb; omega), if_pos hb.2]
  have hhigh : ∀ b, (B (i + 1)).n ≤ b → φ2 b = φ b := fun b hb => by
    have := hfx.nle i hi
    show (if _ then _ else if _ then _ else _) = _
    rw [if_neg (by omega), if_neg (by omega)]
  have hcase : ∀ b, b < (B i).n ∨ own B i b ∨ (B (i + 1)).n ≤ b := fun b => by unfold own; omega
  -- φ' below
  have hφ'low : ∀ b, b < (B i).n → φ' b = φ b := fun b hb => by
    rw [hst.dom b hb]; unfold restrict; rw [if_pos hb]
  have hφ'lt : ∀ b e, φ' b = some e → b < (B (i + 1)).n := fun b e hb => by rw [hn1]; exact hst.rel.lt hb
  have hφ'2 : ∀ b e, φ' b = some e → φ2 b = some e := fun b e hb => by
    have := hφ'lt b e hb
    rcases hcase b with h | h | h
    · rw [hlow2 b h, ← hφ'low b h]; exact hb
    · rw [hmid b h]; exact hb
    · omega
  have hφnone : ∀ b, own B i b → φ b = none := fun b hb => by
    cases h : φ b with
    | none => rfl
    | some e =>
      exfalso
      have h0 : (B 0).n ≤ b := Nat.le_trans (hfx.nle' (Nat.zero_le i) (by omega)) hb.1
      obtain ⟨j, hj, hlj, hoj⟩ := hI.mapped b e h0 h
      have := hfx.own_ne hi hj hb hoj
      subst this
      rw [hun] at hlj
      cases hlj
  have hφ2 : ∀ b e, φ b = some e → φ2 b = some e := fun b e hb => by
    rcases hcase b with h | h | h
    · rw [hlow2 b h]; exact hb
    · rw [hφnone b h] at hb; cases hb
    · rw [hhigh b h]; exact hb
  -- the new blocks
  have hnewblk : ∀ b e, own B i b → φ' b = some e → w.heap.size ≤ e.blk := fun b e hb he => by
    rcases hst.new b e hb.1 he with h | ⟨b0, e0, k0, q1, _, q3, _, _⟩
    · exact h
    · exfalso
      have := (restrict_some q1).1
      omega
  have h0i : (B 0).n ≤ (B i).n := hfx.nle' (Nat.zero_le i) (by omega)
  have hgetm : ∀ b, b < (B (i + 1)).n → (B m).bl.get b = A1.bl.get b := fun b hb => by rw [hfx.same' (by omega) (Nat.le_refl _) b hb, hbl1]
  have holdlt : ∀ b e, φ b = some e → e.blk < w.heap.size := fun b e hb => by
    obtain ⟨k, _, _, h2⟩ := hI.rel.dom b e hb
    exact h2.lt
  -- where a block of the new relation comes from
  have hsrc : ∀ b e, φ2 b = some e → (b < (B (i + 1)).n ∧ φ' b = some e) ∨ ((B (i + 1)).n ≤ b ∧ φ b = some e) := fun b e hb => by
    have := hfx.nle i hi
    rcases hcase b with h | h | h
    · rw [hlow2 b h, ← hφ'low b h] at hb; exact .inl ⟨by omega, hb⟩
    · rw [hmid b h] at hb; exact .inl ⟨h.2, hb⟩
    · rw [hhigh b h] at hb; exact .inr ⟨h, hb⟩
  have hsplit : ∀ b e, φ2 b = some e → (own B i b ∧ φ' b = some e ∧ w.heap.size ≤ e.blk) ∨ (¬ own B i b ∧ φ b = some e ∧ e.blk < w.heap.size) := fun b e hb => by
    rcases hcase b with h | h | h
    · rw [hlow2 b h] at hb; exact .inr ⟨by unfold own; omega, hb, holdlt b e hb⟩
    · rw [hmid b h] at hb; exact .inl ⟨h, hb, hnewblk b e h hb⟩
    · rw [hhigh b h] at hb; exact .inr ⟨by unfold own; omega, hb, holdlt b e hb⟩
  -- a later block keeps its object
  have hkeepblk : ∀ b e, (B (i + 1)).n ≤ b → φ b = some e → w'.heap[e.blk]? = w.heap[e.blk]? := fun b e hb he => by
    have h0 : (B 0).n ≤ b := by have := hfx.nle i hi; omega
    obtain ⟨j, hj, hlj, hoj⟩ := hI.mapped b e h0 he
    refine hst.keep e.blk (holdlt b e he) fun b0 e0 k0 hb0 he0 _ => ?_
    exfalso
    obtain ⟨hb0lt, hb0φ⟩ := restrict_some hb0
    refine hI.cross j b e b0 e0 hj hoj (fun hh => ?_) he hb0φ he0.symm
    have hij : i + 1 ≤ j := by
      rcases Nat.lt_or_ge i j with h | h
      · exact h
      · exfalso
        have := hfx.nle' (i := j + 1) (j := i + 1) (by omega) (by omega)
        unfold own at hoj
        omega
    have := hfx.nle' (i := i) (j := j) (by omega) (by omega)
    unfold own at hh
    omega
  refine ⟨φ2, by simpa using hI.size, ?_, ?_, by rw [Act.defers_put]; exact hI.defers, by rw [Act.size_put]; exact hI.tsize, ⟨hI.rel.wf, ?_, ?_, ?_, fun i o hi => ⟨(hst.rel.imm i o hi).1, fun b e hb => by
      rcases hsrc b e hb with ⟨_, h⟩ | ⟨_, h⟩
      · exact (hst.rel.imm i o hi).2 b e h
      · exact (hI.rel.imm i o hi).2 b e h⟩⟩, ?_, ?_, ?_, ?_, ?_, ?_, Nat.le_trans hI.hsize hst.hsize, hst.os.trans hI.os, hst.tape.trans hI.tape, hst.output.trans hI.output, ?_, ?_⟩
  · intro j k hj hd
    rw [hset] at hj ⊢
    rcases hj with rfl | hj
    · exact .inr (hdn k hd)
    · exact .inr (hI.down j k hj hd)
  · intro j hj
    rw [getD_set_ne false (by omega)]
    exact hI.tailoff j hj
  · -- dom
    intro b e hb
    rcases hsrc b e hb with ⟨hb1, hb'⟩ | ⟨hb1, hb'⟩
    · obtain ⟨k, hk, h1, h2⟩ := hst.rel.dom b e hb'
      exact ⟨k, (hgetm b hb1).trans hk, h1, h2.mono hφ'2 rfl⟩
    · obtain ⟨k, hk, h1, h2⟩ := hI.rel.dom b e hb'
      exact ⟨k, hk, h1, h2.mono hφ2 (hkeepblk b e hb1 hb')⟩
  · -- apart
    intro b e k b' e' k' hb hb' hk hk' hne
    rcases hsplit b e hb with ⟨o1, p1, q1⟩ | ⟨o1, p1, q1⟩ <;> rcases hsplit b' e' hb' with ⟨o2, p2, q2⟩ | ⟨o2, p2, q2⟩
    · exact hst.rel.apart b e k b' e' k' p1 p2 ((hgetm b o1.2).symm.trans hk) ((hgetm b' o2.2).symm.trans hk') hne
    · omega
    · omega
    · exact hI.rel.apart b e k b' e' k' p1 p2 hk hk' hne
  · intro b e k b' e' k' hb hb' hk hk' hf hblk
    rcases hsplit b e hb with ⟨o1, p1, q1⟩ | ⟨o1, p1, q1⟩ <;> rcases hsplit b' e' hb' with ⟨o2, p2, q2⟩ | ⟨o2, p2, q2⟩
    · exact hst.rel.along b e k b' e' k' p1 p2 ((hgetm b o1.2).symm.trans hk) ((hgetm b' o2.2).symm.trans hk') hf hblk
    · omega
    · omega
    · exact hI.rel.along b e k b' e' k' p1 p2 hk hk' hf hblk
  · intro b hb
    rw [hlow2 b (by omega)]
    exact hI.old b hb
  · intro b e h0 hb
    rcases hsplit b e hb with ⟨o1, p1, _⟩ | ⟨o1, p1, _⟩
    · exact ⟨i, hi, (hset i).2 (.inl rfl), o1⟩
    · obtain ⟨j, hj, hlj, hoj⟩ := hI.mapped b e h0 p1
      exact ⟨j, hj, (hset j).2 (.inr hlj), hoj⟩
  · intro j b hj hl hoj
    rcases (hset j).1 hl with rfl | hl
    · rw [hmid b hoj]
      exact hst.newm b hoj.1 (by rw [← hn1]; exact hoj.2)
    · obtain ⟨e, he⟩ := Option.ne_none_iff_exists'.1 (hI.total j b hj hl hoj)
      rw [hφ2 b e he]; simp
  · intro b e h0 hb
    rcases hsplit b e hb with ⟨o1, p1, q1⟩ | ⟨o1, p1, _⟩
    · exact Nat.le_trans hI.hsize q1
    · exact hI.new b e h0 p1
  · -- cross
    intro j b e b' e' hj hoj hnj hb hb'
    rcases hsplit b e hb with ⟨o1, p1, q1⟩ | ⟨o1, p1, q1⟩ <;> rcases hsplit b' e' hb' with ⟨o2, p2, q2⟩ | ⟨o2, p2, q2⟩
    · exfalso
      have := hfx.own_ne hj hi hoj o1
      subst this
      exact hnj o2
    · omega
    · omega
    · exact hI.cross j b e b' e' hj hoj hnj p1 p2
  · -- keep
    intro k hk hall
    rw [hst.keep k (Nat.lt_of_lt_of_le hk hI.hsize) ?_, hI.keep k hk hall]
    intro b e kk hb he hkk
    obtain ⟨hlt1, hφb⟩ := restrict_some hb
    rcases Nat.lt_or_ge b (B 0).n with h0 | h0
    · refine hall b e kk ?_ he ?_
      · rw [← hI.old b h0]; exact hφb
      · rw [← hfx.same' (Nat.zero_le i) (by omega) b h0]; exact hkk
    · have := hI.new b e h0 hφb
      omega
  · -- the other slots
    intro t h
    have hti : o.dst ≠ some t := fun hh => h i hi ((hset i).2 (.inl rfl)) (hdi.trans hh)
    have : (a.put o.dst v').tmps.getD t undef = a.tmps.getD t undef := by
      rcases Nat.lt_or_ge t a.tmps.size with htN | htN
      · rw [Act.get_put _ _ _ _ htN, if_neg hti]
      · simp [Array.getD_eq_getD_getElem?, Array.getElem?_eq_none htN, Array.getElem?_eq_none (show (a.put o.dst v').tmps.size ≤ t by rw [Act.size_put]; exact htN)]
    rw [this]
    exact hI.other t fun j hj hl => h j hj ((hset j).2 (.inr hl))
  · intro j t hj hl hd
    by_cases hji : j = i
    · subst hji
      have htN : t < N := hlt j t hj hd
      have : (a.put o.dst v').tmps.getD t undef = v' := by
        rw [Act.get_put _ _ _ _ (by rw [hI.tsize]; exact htN), if_pos (hdi.symm.trans hd)]
      rw [this]
      refine hv.mono fun b e hb => ?_
      unfold restrict
      rw [if_pos (hφ'lt b e hb)]
      exact hφ'2 b e hb
    · have hlj := ((hset j).1 hl).resolve_left hji
      have htN : t < N := hlt j t hj hd
      have : (a.put o.dst v').tmps.getD t undef = a.tmps.getD t undef := by
        rw [Act.get_put _ _ _ _ (by rw [hI.tsize]; exact htN), if_neg]
        intro hh
        exact hdst i j hi hj (Ne.symm hji) t (hdi.trans hh) hd
      rw [this]
      refine (hI.val j t hj hlj hd).mono fun b e hb => ?_
      obtain ⟨h1, h2⟩ := restrict_some hb
      unfold restrict
      rw [if_pos h1]
      exact hφ2 b e h2

end
end AE
end Go.Proofs.YtheaofepenbcgaaDoor

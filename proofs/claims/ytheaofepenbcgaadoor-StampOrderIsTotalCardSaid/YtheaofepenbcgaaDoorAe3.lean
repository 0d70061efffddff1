/- AE, part 3: reading and writing cells. -/
import Derived.Test.YtheaofepenbcgaaDoorAe2
namespace Go.Proofs.YtheaofepenbcgaaDoor
open Go
namespace AE
variable [Sig]

def AS.load (A : AS) (b off : Nat) : Option Value :=
  match A.bl.get b with
  | some { obj := .cells c, .. } => c[off]?
  | _ => none

theorem rel_load {φ : Emb} {A : AS} {w : World} (hr : Rel φ A w) {b off : Nat} {v : Value} {e : Em} (h : A.load b off = some v) (he : φ b = some e) :
    ∃ v', w.cell? ⟨e.blk, e.sh + off, none⟩ = some v' ∧ VRel φ v v' := by
  obtain ⟨k, hk, _, ho⟩ := hr.dom b e he
  unfold AS.load at h
  rw [hk] at h
  obtain ⟨ob, fam, pos, stride, ro, ty⟩ := k
  cases ob with
  | cells c =>
    simp only [ORel] at h ho
    obtain ⟨c', fr', h1, h2, h3, h4, h5⟩ := ho
    obtain ⟨hlt, hv⟩ := List.getElem?_eq_some_iff.1 h
    refine ⟨c'.getD (e.sh + off) undef, ?_, ?_⟩
    · simp only [World.cell?, h1]
      simp [show e.sh + off < c'.size by omega]
    · have := h4 off hlt
      rw [List.getD_eq_getElem?_getD, h] at this
      simpa using this
  | map es cl => simp at h
  | oth x => simp at h

/-- What a store leaves of the other blocks of the family: that position is not known any more. -/
def psn (pos : Nat) (k : ABlk) : ABlk :=
  bif k.ro then k else
  match k.obj with
  | .cells c => bif Nat.ble k.pos pos then { k with obj := .cells (c.set (pos - k.pos) poison) } else k
  | _ => k

omit [Sig] in
theorem psn_all (pos : Nat) (k : ABlk) : (psn pos k).fam = k.fam ∧ (psn pos k).pos = k.pos ∧ (psn pos k).stride = k.stride ∧ (psn pos k).ro = k.ro ∧ psn pos (psn pos k) = psn pos k ∧ (k.ro = true → psn pos k = k) ∧ (psn pos k).ty = k.ty := by
  obtain ⟨ob, fam, p, st, ro, ty⟩ := k
  cases ro with
  | true => simp [psn]
  | false =>
    cases ob with
    | cells c => cases h : Nat.ble p pos <;> simp [psn, h]
    | map es cl => simp [psn]
    | oth x => simp [psn]
omit [Sig] in
theorem psn_fam (pos : Nat) (k : ABlk) : (psn pos k).fam = k.fam := (psn_all pos k).1
omit [Sig] in
theorem psn_pos (pos : Nat) (k : ABlk) : (psn pos k).pos = k.pos := (psn_all pos k).2.1
omit [Sig] in
theorem psn_stride (pos : Nat) (k : ABlk) : (psn pos k).stride = k.stride := (psn_all pos k).2.2.1
omit [Sig] in
theorem psn_ro (pos : Nat) (k : ABlk) : (psn pos k).ro = k.ro := (psn_all pos k).2.2.2.1
omit [Sig] in
theorem psn_ty (pos : Nat) (k : ABlk) : (psn pos k).ty = k.ty := (psn_all pos k).2.2.2.2.2.2
omit [Sig] in
theorem psn_psn (pos : Nat) (k : ABlk) : psn pos (psn pos k) = psn pos k := (psn_all pos k).2.2.2.2.1

def psnAll (pos b : Nat) : List Nat → Tr ABlk → Option (Tr ABlk)
  | [], t => some t
  | m :: r, t => bif m == b then psnAll pos b r t else
    match t.get m with
    | some k => match Tr.set (psn pos k) depth t m with
      | some t' => psnAll pos b r t'
      | none => none
    | none => psnAll pos b r t

omit [Sig] in
theorem psnAll_spec (pos b : Nat) : ∀ (l : List Nat) (t t' : Tr ABlk), psnAll pos b l t = some t' →
    ∀ j, t'.get j = if j ∈ l ∧ j ≠ b then (t.get j).map (psn pos) else t.get j
  | [], t, t', h, j => by simp [psnAll] at h; simp [h]
  | m :: r, t, t', h, j => by
    unfold psnAll at h
    by_cases hm : m = b
    · rw [show (m == b) = true by simpa using hm, cond_true] at h
      rw [psnAll_spec pos b r t t' h j]
      subst hm
      by_cases hj : j ∈ r ∧ j ≠ m
      · rw [if_pos hj, if_pos ⟨List.mem_cons_of_mem _ hj.1, hj.2⟩]
      · rw [if_neg hj, if_neg]
        rintro ⟨h1, h2⟩
        rcases List.mem_cons.1 h1 with h1 | h1
        · exact h2 h1
        · exact hj ⟨h1, h2⟩
    · rw [show (m == b) = false by simpa using hm, cond_false] at h
      cases hg : t.get m with
      | none =>
        rw [hg] at h
        rw [psnAll_spec pos b r t t' h j]
        by_cases hjm : j = m
        · subst hjm
          rw [hg]
          split <;> split <;> rfl
        · have : (j ∈ m :: r ∧ j ≠ b) ↔ (j ∈ r ∧ j ≠ b) := by simp [hjm]
          simp only [this]
      | some k =>
        rw [hg] at h
        simp only at h
        cases hs : Tr.set (psn pos k) depth t m with
        | none => rw [hs] at h; cases h
        | some t1 =>
          rw [hs] at h
          have hget := fun j => Tr.get_set _ _ _ _ _ j hs
          rw [psnAll_spec pos b r t1 t' h j, hget]
          by_cases hjm : j = m
          · subst hjm
            rw [if_pos rfl, if_pos (show j ∈ j :: r ∧ j ≠ b from ⟨List.mem_cons_self, hm⟩), hg]
            split
            · simp [psn_psn]
            · simp
          · rw [if_neg hjm]
            have : (j ∈ m :: r ∧ j ≠ b) ↔ (j ∈ r ∧ j ≠ b) := by simp [hjm]
            simp only [this]

def AS.store (A : AS) (b off : Nat) (v : Value) : Option AS :=
  match A.bl.get b with
  | some k =>
    bif k.ro then none else
    match k.obj with
    | .cells c => bif Nat.blt off c.length then
        match A.mem.get k.fam, Tr.set { k with obj := .cells (c.set off v) } depth A.bl b with
        | some l, some t => match psnAll (k.pos + off) b l t with
          | some t' => some { A with bl := t', low := l.foldl Nat.min A.low }
          | none => none
        | _, _ => none
      else none
    | _ => none
  | none => none

omit [Sig] in
theorem foldl_min_le : ∀ (l : List Nat) (x : Nat), l.foldl Nat.min x ≤ x ∧ ∀ m ∈ l, l.foldl Nat.min x ≤ m
  | [], x => ⟨Nat.le_refl _, fun m h => by cases h⟩
  | a :: r, x => by
    obtain ⟨h1, h2⟩ := foldl_min_le r (Nat.min x a)
    refine ⟨Nat.le_trans h1 (Nat.min_le_left _ _), fun m hm => ?_⟩
    rcases List.mem_cons.1 hm with rfl | hm
    · exact Nat.le_trans h1 (Nat.min_le_right _ _)
    · exact h2 m hm

omit [Sig] in
theorem store_spec {A A' : AS} {b off : Nat} {v : Value} (h : A.store b off v = some A') :
    ∃ k c l, A.bl.get b = some k ∧ k.ro = false ∧ k.obj = .cells c ∧ off < c.length ∧ A.mem.get k.fam = some l ∧ A'.n = A.n ∧ A'.mem = A.mem ∧ A'.low ≤ A.low ∧ (∀ m ∈ l, A'.low ≤ m) ∧
      A'.bl.get b = some { k with obj := .cells (c.set off v) } ∧ (∀ j, j ≠ b → A'.bl.get j = if j ∈ l then (A.bl.get j).map (psn (k.pos + off)) else A.bl.get j) := by
  unfold AS.store at h
  cases hk : A.bl.get b with
  | none => rw [hk] at h; cases h
  | some k =>
    rw [hk] at h
    obtain ⟨ob, fam, pos, stride, ro, ty⟩ := k
    simp only at h
    cases ro with
    | true => cases h
    | false =>
      simp only [cond_false] at h
      cases ob with
      | map es cl => cases h
      | oth x => cases h
      | cells c =>
        simp only at h
        cases hb : Nat.blt off c.length with
        | false => rw [hb] at h; cases h
        | true =>
          rw [hb, cond_true] at h
          cases hm : A.mem.get fam with
          | none => rw [hm] at h; cases h
          | some l =>
            rw [hm] at h
            cases hs : Tr.set { obj := .cells (c.set off v), fam := fam, pos := pos, stride := stride, ro := false, ty := ty : ABlk } depth A.bl b with
            | none => rw [hs] at h; cases h
            | some t =>
              rw [hs] at h
              simp only at h
              cases hp : psnAll (pos + off) b l t with
              | none => rw [hp] at h; cases h
              | some t' =>
                rw [hp] at h
                simp only [Option.some.injEq] at h
                subst h
                have hget := fun j => Tr.get_set _ _ _ _ _ j hs
                have hall := psnAll_spec _ _ _ _ _ hp
                obtain ⟨f1, f2⟩ := foldl_min_le l A.low
                refine ⟨_, c, l, rfl, rfl, rfl, Nat.blt_eq.mp hb, hm, rfl, rfl, f1, f2, ?_, ?_⟩
                · simp only [hall, hget]
                  simp
                · intro j hj
                  simp only [hall, hget, hj, ne_eq, not_false_eq_true, and_true, if_false]

theorem step_store {φ : Emb} {A A' : AS} {w : World} (hr : Rel φ A w) {b off : Nat} {v v' : Value} {e : Em} (h : A.store b off v = some A') (he : φ b = some e) (hv : VRel φ v v') :
    Step φ A w φ A' (w.setCell ⟨e.blk, e.sh + off, none⟩ v') ∧ (∃ u, w.cell? ⟨e.blk, e.sh + off, none⟩ = some u) ∧ w.frozen? ⟨e.blk, e.sh + off, none⟩ = false := by
  obtain ⟨k, c, l, hk, hro, hobj, hlt, hmem, hn, hmm, hlow, hlowm, hgb, hgo⟩ := store_spec h
  obtain ⟨k0, hk0, hst, ho⟩ := hr.dom b e he
  rw [hk] at hk0
  cases hk0
  have hbl : b ∈ l := by
    obtain ⟨l', hl', hb'⟩ := hr.wf.mem b k hk
    rw [hmem] at hl'; cases hl'; exact hb'
  have ho' := ho
  unfold ORel at ho
  simp only [hobj] at ho
  obtain ⟨c', fr', h1, h2, h3, h4, h5⟩ := ho
  have hfr := h5 hro
  have hblk : e.blk < w.heap.size := ho'.lt
  have hw : (w.setCell ⟨e.blk, e.sh + off, none⟩ v').heap[e.blk]? = some (.cells (c'.setIfInBounds (e.sh + off) v') k.ty fr') := by
    simp only [World.setCell, Array.getElem?_modify, if_pos, h1]
    simp
  have hwo : ∀ i, i ≠ e.blk → (w.setCell ⟨e.blk, e.sh + off, none⟩ v').heap[i]? = w.heap[i]? := fun i hi => by
    simp only [World.setCell, Array.getElem?_modify]
    rw [if_neg (Ne.symm hi)]
  -- every block of the new state, in terms of the old one
  have hnew : ∀ j kj', A'.bl.get j = some kj' → ∃ kj, A.bl.get j = some kj ∧ kj'.fam = kj.fam ∧ kj'.pos = kj.pos ∧ kj'.stride = kj.stride ∧ kj'.ro = kj.ro ∧ kj'.ty = kj.ty := by
    intro j kj' hj
    by_cases hjb : j = b
    · subst hjb
      rw [hgb] at hj; cases hj
      exact ⟨k, hk, rfl, rfl, rfl, rfl, rfl⟩
    · rw [hgo j hjb] at hj
      split at hj
      · obtain ⟨kj, h1, rfl⟩ := Option.map_eq_some_iff.1 hj
        exact ⟨kj, h1, psn_fam _ _, psn_pos _ _, psn_stride _ _, psn_ro _ _, psn_ty _ _⟩
      · exact ⟨kj', hj, rfl, rfl, rfl, rfl, rfl⟩
  refine ⟨{ rel := ⟨⟨?_, ?_, ?_, ?_⟩, ?_, ?_, ?_, fun i o hi => ⟨by rw [hwo i (Ne.symm ((hr.imm i o hi).2 _ _ he))]; exact (hr.imm i o hi).1, (hr.imm i o hi).2⟩⟩, dom := fun _ _ => rfl, newm := fun b h1 h2 => by omega, new := fun b e h1 h2 => absurd (hr.lt h2) (by omega), n_le := by omega, low := hlow, same := ?_, ro := ?_, keep := ?_, hsize := by simp [World.setCell], os := rfl, tape := rfl, output := rfl }, ?_, ?_⟩
  · intro j kj hj
    obtain ⟨k1, q1, _⟩ := hnew j kj hj
    rw [hn]; exact hr.wf.lt j k1 q1
  · intro j kj hj
    obtain ⟨k1, q1, q2, _⟩ := hnew j kj hj
    rw [hn, q2]; exact hr.wf.famlt j k1 q1
  · intro j kj hj
    obtain ⟨k1, q1, q2, _⟩ := hnew j kj hj
    rw [hmm, q2]; exact hr.wf.mem j k1 q1
  · intro j kj j' kj' hj hj' hf
    obtain ⟨k1, q1, q2, _, _, q3, _⟩ := hnew j kj hj
    obtain ⟨k1', q1', q2', _, _, q3', _⟩ := hnew j' kj' hj'
    rw [q3, q3']
    exact hr.wf.rofam j k1 j' k1' q1 q1' (by rw [← q2, ← q2']; exact hf)
  · intro j ej hj
    obtain ⟨kj, hkj, hsj, hoj⟩ := hr.dom j ej hj
    by_cases hjb : j = b
    · subst hjb
      rw [he] at hj; cases hj
      rw [hk] at hkj; cases hkj
      refine ⟨_, hgb, hst, ?_⟩
      simp only [ORel]
      refine ⟨_, _, hw, by simpa using h2, by simpa using h3, ?_, fun _ => by simpa using hfr⟩
      intro i hi
      simp only [List.length_set] at hi
      by_cases hio : i = off
      · subst hio
        rw [List.getD_eq_getElem?_getD, List.getElem?_set_self hi]
        simp only [Array.getD_eq_getD_getElem?, Array.getElem?_setIfInBounds, if_pos]
        rw [if_pos (by omega)]
        exact hv
      · rw [List.getD_eq_getElem?_getD, List.getElem?_set_ne (Ne.symm hio), ← List.getD_eq_getElem?_getD]
        have := h4 i hi
        simp only [Array.getD_eq_getD_getElem?, Array.getElem?_setIfInBounds] at this ⊢
        rw [if_neg (by omega)]
        exact this
    · by_cases hblke : ej.blk = e.blk
      · -- the same block of the model: the same family
        have hfam : kj.fam = k.fam := by
          rcases Nat.lt_or_ge kj.fam k.fam with h | h
          · exact absurd hblke (hr.apart j ej kj b e k hj he hkj hk (by omega))
          · rcases Nat.eq_or_lt_of_le h with h | h
            · exact h.symm
            · exact absurd hblke (hr.apart j ej kj b e k hj he hkj hk (by omega))
        have hjl : j ∈ l := by
          obtain ⟨l', hl', hb'⟩ := hr.wf.mem j kj hkj
          rw [hfam, hmem] at hl'; cases hl'; exact hb'
        have hal := hr.along j ej kj b e k hj he hkj hk hfam hblke
        refine ⟨psn (k.pos + off) kj, by rw [hgo j hjb, if_pos hjl, hkj]; rfl, by rw [psn_stride]; exact hsj, ?_⟩
        obtain ⟨oj, fj, pj, sj, rj, tj⟩ := kj
        simp only at hfam hal hsj
        cases oj with
        | map es cl =>
          simp only [ORel] at hoj
          obtain ⟨es', g1, _⟩ := hoj
          rw [hblke, h1] at g1; cases g1
        | oth x =>
          simp only [ORel] at hoj
          obtain ⟨_, o', g1, g2⟩ := hoj
          rw [hblke, h1] at g1; cases g1
          exact absurd g2 fun h => OthRel.no_cells h
        | cells cj =>
          simp only [ORel] at hoj
          obtain ⟨cj', frj', g1, g2, g3, g4, g5⟩ := hoj
          rw [hblke, h1] at g1
          simp only [Option.some.injEq, Obj.cells.injEq] at g1
          obtain ⟨rfl, hty, rfl⟩ := g1
          have key : ∀ (cl : List Value), cl.length = cj.length → (∀ i, i < cj.length → (ej.sh + i = e.sh + off → cl[i]? = some poison) ∧ (ej.sh + i ≠ e.sh + off → cl[i]? = cj[i]? ∨ cl[i]? = some poison)) →
              ORel φ (w.setCell ⟨e.blk, e.sh + off, none⟩ v') ej { obj := .cells cl, fam := fj, pos := pj, stride := sj, ro := rj, ty := tj } := by
            intro cl hcl hcs
            simp only [ORel]
            refine ⟨_, _, by rw [hblke, ← hty]; exact hw, by simpa using g2, by rw [hcl]; simpa using g3, ?_, fun _ => by simpa using hfr⟩
            intro i hi
            rw [hcl] at hi
            obtain ⟨q1, q2⟩ := hcs i hi
            by_cases hpos : ej.sh + i = e.sh + off
            · rw [List.getD_eq_getElem?_getD, q1 hpos]
              exact .poison _
            · rcases q2 hpos with q | q
              · rw [List.getD_eq_getElem?_getD, q, ← List.getD_eq_getElem?_getD]
                have := g4 i hi
                simp only [Array.getD_eq_getD_getElem?, Array.getElem?_setIfInBounds] at this ⊢
                rw [if_neg (by omega)]
                exact this
              · rw [List.getD_eq_getElem?_getD, q]
                exact .poison _
          have hrj : rj = false := by
            have := hr.wf.rofam j _ b k hkj hk hfam
            simpa [hro] using this
          subst hrj
          unfold psn
          simp only [cond_false]
          cases hble : Nat.ble pj (k.pos + off) with
          | false =>
            simp only [cond_false]
            refine key cj rfl fun i hi => ⟨fun hp => ?_, fun _ => .inl rfl⟩
            have : ¬ pj ≤ k.pos + off := by
              intro hle
              rw [Nat.ble_eq.mpr hle] at hble; cases hble
            omega
          | true =>
            have hle := Nat.ble_eq.mp hble
            simp only [cond_true]
            refine key _ (by simp) fun i hi => ⟨fun hp => ?_, fun hp => ?_⟩
            · have : k.pos + off - pj = i := by omega
              rw [this, List.getElem?_set_self hi]
            · have : k.pos + off - pj ≠ i := by omega
              rw [List.getElem?_set_ne this]
              exact .inl rfl
      · -- another block of the model
        rw [hgo j hjb]
        by_cases hjl : j ∈ l
        · rw [if_pos hjl, hkj]
          refine ⟨_, rfl, by rw [psn_stride]; exact hsj, ?_⟩
          have hoj2 : ORel φ (w.setCell ⟨e.blk, e.sh + off, none⟩ v') ej kj := hoj.mono (fun _ _ h => h) (hwo _ hblke)
          unfold psn
          obtain ⟨oj, fj, pj, sj, rj, tj⟩ := kj
          cases rj with
          | true => exact hoj2
          | false =>
          simp only [cond_false]
          cases oj with
          | map es cl => exact hoj2
          | oth x => exact hoj2
          | cells cj =>
            simp only
            cases hble : Nat.ble pj (k.pos + off) with
            | false => exact hoj2
            | true =>
              simp only [cond_true]
              simp only [ORel] at hoj2 ⊢
              obtain ⟨cj', frj', g1, g2, g3, g4, g5⟩ := hoj2
              refine ⟨cj', frj', g1, g2, by simpa using g3, fun i hi => ?_, g5⟩
              simp only [List.length_set] at hi
              by_cases hpi : k.pos + off - pj = i
              · rw [hpi, List.getD_eq_getElem?_getD, List.getElem?_set_self hi]
                exact .poison _
              · rw [List.getD_eq_getElem?_getD, List.getElem?_set_ne hpi, ← List.getD_eq_getElem?_getD]
                exact g4 i hi
        · rw [if_neg hjl]
          exact ⟨kj, hkj, hsj, hoj.mono (fun _ _ h => h) (hwo _ hblke)⟩
  · intro j ej kj j' ej' kj' q1 q2 q3 q4 q5
    obtain ⟨a1, a2, a3, a4, a5, a6, a7⟩ := hnew j kj q3
    obtain ⟨b1, b2, b3, b4, b5, b6, b7⟩ := hnew j' kj' q4
    exact hr.apart j ej a1 j' ej' b1 q1 q2 a2 b2 (by rw [← a3, ← b3]; exact q5)
  · intro j ej kj j' ej' kj' q1 q2 q3 q4 q5 q6
    obtain ⟨a1, a2, a3, a4, a5, a6, a7⟩ := hnew j kj q3
    obtain ⟨b1, b2, b3, b4, b5, b6, b7⟩ := hnew j' kj' q4
    rw [a4, b4]
    exact hr.along j ej a1 j' ej' b1 q1 q2 a2 b2 (by rw [← a3, ← b3]; exact q5) q6
  · intro j hj hl
    by_cases hjb : j = b
    · subst hjb
      have := hlowm j hbl; omega
    · rw [hgo j hjb, if_neg]
      intro hjl
      have := hlowm j hjl; omega
  · intro j kj hj hrj
    by_cases hjb : j = b
    · subst hjb
      rw [hk] at hj; cases hj
      rw [hro] at hrj; cases hrj
    · rw [hgo j hjb]
      by_cases hjl : j ∈ l
      · rw [if_pos hjl, hj]
        simp only [Option.map_some, Option.some.injEq]
        exact (psn_all _ _).2.2.2.2.2.1 hrj
      · rw [if_neg hjl]; exact hj
  · intro i hi hall
    refine hwo i fun hie => ?_
    subst hie
    have := hall b e k he rfl hk
    rw [hro] at this; cases this
  · refine ⟨c'.getD (e.sh + off) undef, ?_⟩
    simp only [World.cell?, h1]
    simp [show e.sh + off < c'.size by omega]
  · have := hfr (e.sh + off) (by omega)
    obtain ⟨lo, hi⟩ := fr'
    simp only [World.frozen?, h1]
    simpa using this

end AE
end Go.Proofs.YtheaofepenbcgaaDoor

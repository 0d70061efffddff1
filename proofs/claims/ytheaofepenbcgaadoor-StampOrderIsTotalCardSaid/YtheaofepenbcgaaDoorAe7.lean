/- AE, part 7: a new block of an old family, slices, append. -/
import Derived.Test.YtheaofepenbcgaaDoorAe6
namespace Go.Proofs.YtheaofepenbcgaaDoor
open Go
namespace AE
variable [Sig]

/-- A new block in the family of b, at position pos. -/
def AS.pushIn (A : AS) (b pos st : Nat) (ty : TypeId) (c : List Value) : Option (Nat × AS) :=
  match A.bl.get b with
  | some k => match k.obj, A.mem.get k.fam with
    | .cells _, some l => bif k.ro || bne k.ty ty then none else
      match Tr.set { obj := .cells c, fam := k.fam, pos := pos, stride := st, ro := false, ty := ty : ABlk } depth A.bl A.n, Tr.set (A.n :: l) depth A.mem k.fam with
      | some bl, some mem => some (A.n, { bl, mem, n := A.n + 1, low := l.foldl Nat.min A.low })
      | _, _ => none
    | _, _ => none
  | none => none

omit [Sig] in
theorem pushIn_spec {A A' : AS} {b pos st : Nat} {ty : TypeId} {c : List Value} {r : Nat} (h : A.pushIn b pos st ty c = some (r, A')) (hwf : WF A) :
    ∃ k c0 l, A.bl.get b = some k ∧ k.obj = .cells c0 ∧ k.ro = false ∧ k.ty = ty ∧ A.mem.get k.fam = some l ∧ r = A.n ∧ WF A' ∧ A'.n = A.n + 1 ∧ A'.low ≤ A.low ∧ (∀ m ∈ l, A'.low ≤ m) ∧
      (∀ j, A'.bl.get j = if j = A.n then some { obj := .cells c, fam := k.fam, pos := pos, stride := st, ro := false, ty := ty } else A.bl.get j) := by
  unfold AS.pushIn at h
  cases hk : A.bl.get b with
  | none => rw [hk] at h; cases h
  | some k =>
    rw [hk] at h
    obtain ⟨ob, fam, pos0, st0, ro, ty0⟩ := k
    simp only at h
    cases ob with
    | map es cl => cases h
    | oth x => cases h
    | cells c0 =>
      cases hm : A.mem.get fam with
      | none => rw [hm] at h; cases h
      | some l =>
        rw [hm] at h
        simp only at h
        cases hc : (ro || bne ty0 ty) with
        | true => rw [hc] at h; cases h
        | false =>
          rw [hc, cond_false] at h
          simp only [Bool.or_eq_false_iff, bne_eq_false_iff_eq] at hc
          obtain ⟨rfl, rfl⟩ := hc
          split at h
          · rename_i bl mem hb hmm
            simp only [Option.some.injEq, Prod.mk.injEq] at h
            obtain ⟨rfl, rfl⟩ := h
            have gb := fun b => Tr.get_set _ _ _ _ _ b hb
            have gm := fun b => Tr.get_set _ _ _ _ _ b hmm
            obtain ⟨f1, f2⟩ := foldl_min_le l A.low
            have hfam := hwf.famlt b _ hk
            refine ⟨_, c0, l, rfl, rfl, rfl, rfl, hm, rfl, ⟨?_, ?_, ?_, ?_⟩, rfl, f1, f2, gb⟩
            · intro j kj hj
              simp only at hj ⊢
              rw [gb] at hj
              split at hj
              · omega
              · have := hwf.lt j kj hj; omega
            · intro j kj hj
              simp only at hj ⊢ hfam
              rw [gb] at hj
              split at hj
              · cases hj; simp only; omega
              · have := hwf.famlt j kj hj; omega
            · intro j kj hj
              simp only at hj ⊢
              rw [gb] at hj
              split at hj
              · rename_i hjn
                cases hj
                exact ⟨_, by rw [gm, if_pos rfl], by simp [hjn]⟩
              · obtain ⟨l', hl', hjl⟩ := hwf.mem j kj hj
                by_cases hf : kj.fam = fam
                · rw [hf, hm] at hl'
                  cases hl'
                  exact ⟨_, by rw [gm, if_pos hf], List.mem_cons_of_mem _ hjl⟩
                · exact ⟨l', by rw [gm, if_neg hf]; exact hl', hjl⟩
            · intro j kj j' kj' hj hj' hf
              simp only at hj hj'
              rw [gb] at hj hj'
              split at hj
              · cases hj
                split at hj'
                · cases hj'; rfl
                · have := hwf.rofam b _ j' kj' hk hj' hf
                  exact this
              · split at hj'
                · cases hj'
                  have := hwf.rofam j kj b _ hj hk hf
                  exact this
                · exact hwf.rofam j kj j' kj' hj hj' hf
          · cases h

theorem step_pushIn {φ : Emb} {A A' : AS} {w w' : World} (hr : Rel φ A w) {b pos st : Nat} {ty : TypeId} {c : List Value} {r : Nat} {e : Em} (h : A.pushIn b pos st ty c = some (r, A')) (hst : e.stride = st)
    (hw : (e.blk = w.heap.size ∧ ∃ o, w' = { w with heap := w.heap.push o }) ∨ (w' = w ∧ ∃ e0 k, φ b = some e0 ∧ A.bl.get b = some k ∧ e.blk = e0.blk ∧ e.sh + k.pos = e0.sh + pos))
    (ho : ∀ k, A.bl.get b = some k → ORel (upd φ r e) w' e { obj := .cells c, fam := k.fam, pos := pos, stride := st, ro := false, ty := ty }) :
    Step φ A w (upd φ r e) A' w' := by
  obtain ⟨k, c0, l, hk, hobj, hro, hty, hmem, rfl, hwf, hn, hlow, hlowm, hget⟩ := pushIn_spec h hr.wf
  have ho := ho k hk
  have hold : ∀ b e1, φ b = some e1 → upd φ A.n e b = some e1 := fun b e1 hb => by
    unfold upd; rw [if_neg (by have := hr.lt hb; omega)]; exact hb
  have hheap : ∀ i, i < w.heap.size → w'.heap[i]? = w.heap[i]? := fun i hi => by
    rcases hw with ⟨_, o, rfl⟩ | ⟨rfl, _⟩
    · show (w.heap.push o)[i]? = _
      rw [Array.getElem?_push, if_neg (by omega)]
    · rfl
  have hsz : w.heap.size ≤ w'.heap.size := by
    rcases hw with ⟨_, o, rfl⟩ | ⟨rfl, _⟩
    · simp
    · exact Nat.le_refl _
  have hrest : w'.os = w.os ∧ w'.tape = w.tape ∧ w'.output = w.output := by
    rcases hw with ⟨_, o, rfl⟩ | ⟨rfl, _⟩ <;> exact ⟨rfl, rfl, rfl⟩
  have hcase : ∀ j e1, upd φ A.n e j = some e1 → (j = A.n ∧ e1 = e) ∨ (j ≠ A.n ∧ φ j = some e1) := fun j e1 hb => by
    unfold upd at hb
    split at hb
    · rename_i h; cases hb; exact .inl ⟨h, rfl⟩
    · rename_i h; exact .inr ⟨h, hb⟩
  have hbl : b ∈ l := by
    obtain ⟨l', hl', hb'⟩ := hr.wf.mem b k hk
    rw [hmem] at hl'; cases hl'; exact hb'
  -- the new block against an old one
  have hap : ∀ j ej kj, φ j = some ej → A.bl.get j = some kj → (k.fam ≠ kj.fam → e.blk ≠ ej.blk) ∧ (k.fam = kj.fam → e.blk = ej.blk → e.sh + kj.pos = ej.sh + pos) := by
    intro j ej kj hj hkj
    rcases hw with ⟨he, _⟩ | ⟨_, e0, k', he0, hk', hblk, hpos⟩
    · obtain ⟨_, _, _, h2⟩ := hr.dom j ej hj
      have := h2.lt
      exact ⟨fun _ => by omega, fun _ _ => by omega⟩
    · rw [hk] at hk'; cases hk'
      refine ⟨fun hne => ?_, fun hf hb => ?_⟩
      · rw [hblk]; exact hr.apart b e0 k j ej kj he0 hj hk hkj hne
      · have := hr.along b e0 k j ej kj he0 hj hk hkj hf (by rw [← hblk]; exact hb)
        omega
  refine { rel := ⟨hwf, ?_, ?_, ?_, fun i o hi => by
      obtain ⟨h1, h2⟩ := hr.imm i o hi
      have hlt : i < w.heap.size := (Array.getElem?_eq_some_iff.1 h1).1
      refine ⟨by rw [hheap i hlt]; exact h1, fun j e1 hj => ?_⟩
      rcases hcase j e1 hj with ⟨rfl, rfl⟩ | ⟨_, hj⟩
      · rcases hw with ⟨he, _⟩ | ⟨_, e0, k', he0, hk', hblk, hpos⟩
        · omega
        · rw [hblk]; exact h2 b e0 he0
      · exact h2 j e1 hj⟩, dom := ?_, newm := ?_, new := ?_, n_le := by omega, low := hlow, same := ?_, ro := ?_, keep := ?_, hsize := hsz, os := hrest.1, tape := hrest.2.1, output := hrest.2.2 }
  · intro j e1 hb
    rcases hcase j e1 hb with ⟨rfl, rfl⟩ | ⟨hne, hb⟩
    · exact ⟨_, by rw [hget, if_pos rfl], hst, ho⟩
    · obtain ⟨kj, hkj, h1, h2⟩ := hr.dom j e1 hb
      exact ⟨kj, by rw [hget, if_neg hne]; exact hkj, h1, h2.mono hold (hheap _ h2.lt)⟩
  · intro j e1 kj j' e1' kj' hb hb' hk1 hk1' hne
    rw [hget] at hk1 hk1'
    rcases hcase j e1 hb with ⟨rfl, rfl⟩ | ⟨hn1, hbo⟩
    · rcases hcase j' e1' hb' with ⟨rfl, rfl⟩ | ⟨hn2, hbo'⟩
      · rw [if_pos rfl] at hk1 hk1'; cases hk1; cases hk1'; exact absurd rfl hne
      · rw [if_pos rfl] at hk1; rw [if_neg hn2] at hk1'; cases hk1
        exact (hap j' e1' kj' hbo' hk1').1 hne
    · rcases hcase j' e1' hb' with ⟨rfl, rfl⟩ | ⟨hn2, hbo'⟩
      · rw [if_pos rfl] at hk1'; rw [if_neg hn1] at hk1; cases hk1'
        exact Ne.symm ((hap j e1 kj hbo hk1).1 (Ne.symm hne))
      · rw [if_neg hn1] at hk1; rw [if_neg hn2] at hk1'
        exact hr.apart j e1 kj j' e1' kj' hbo hbo' hk1 hk1' hne
  · intro j e1 kj j' e1' kj' hb hb' hk1 hk1' hfam hblk
    rw [hget] at hk1 hk1'
    rcases hcase j e1 hb with ⟨rfl, rfl⟩ | ⟨hn1, hbo⟩
    · rcases hcase j' e1' hb' with ⟨rfl, rfl⟩ | ⟨hn2, hbo'⟩
      · rw [if_pos rfl] at hk1 hk1'; cases hk1; cases hk1'; rfl
      · rw [if_pos rfl] at hk1; rw [if_neg hn2] at hk1'; cases hk1
        exact (hap j' e1' kj' hbo' hk1').2 hfam hblk
    · rcases hcase j' e1' hb' with ⟨rfl, rfl⟩ | ⟨hn2, hbo'⟩
      · rw [if_pos rfl] at hk1'; rw [if_neg hn1] at hk1; cases hk1'
        exact ((hap j e1 kj hbo hk1).2 hfam.symm hblk.symm).symm
      · rw [if_neg hn1] at hk1; rw [if_neg hn2] at hk1'
        exact hr.along j e1 kj j' e1' kj' hbo hbo' hk1 hk1' hfam hblk
  · intro j hj
    unfold upd; rw [if_neg (by omega)]
  · intro j h1 h2
    have : j = A.n := by omega
    subst this
    simp [upd]
  · intro j e1 h1 hb
    rcases hcase j e1 hb with ⟨rfl, rfl⟩ | ⟨hn1, hb⟩
    · rcases hw with ⟨he, _⟩ | ⟨_, e0, k', he0, hk', hblk, hpos⟩
      · exact .inl (by omega)
      · exact .inr ⟨b, e0, k, he0, hblk.symm, hlowm b hbl, hk, hro⟩
    · exact absurd (hr.lt hb) (by omega)
  · intro j hj _
    rw [hget, if_neg (by omega)]
  · intro j kj hkj _
    rw [hget, if_neg (by have := hr.wf.lt j kj hkj; omega)]; exact hkj
  · intro i hi _
    exact hheap i hi

/-- A store of what the model's cell holds already. -/
theorem step_idle {φ : Emb} {A A' : AS} {w : World} (hr : Rel φ A w) {b off : Nat} {v v' : Value} {e : Em} (h : A.store b off v = some A') (he : φ b = some e) (hv : VRel φ v v') (hc : w.cell? ⟨e.blk, e.sh + off, none⟩ = some v') :
    Step φ A w φ A' w := by
  obtain ⟨st, _, _⟩ := step_store hr h he hv
  have : w.setCell ⟨e.blk, e.sh + off, none⟩ v' = w := by
    unfold World.setCell
    have : w.heap.modify e.blk (fun
      | .cells c elem frozen => .cells (if (none : Option Nat).isSome then c else c.setIfInBounds (e.sh + off) v') elem frozen
      | o => o) = w.heap := by
      apply Array.ext_getElem?
      intro i
      rw [Array.getElem?_modify]
      split
      · rename_i hi
        subst hi
        cases hh : w.heap[e.blk]? with
        | none => rfl
        | some o =>
          cases o <;> try rfl
          rename_i c t fr
          simp only [Option.map_some, Option.isSome_none, Bool.false_eq_true, if_false, Option.some.injEq, Obj.cells.injEq, and_true]
          simp only [World.cell?, hh, Option.isSome_none, Bool.false_eq_true, if_false] at hc
          apply Array.ext_getElem?
          intro j
          rw [Array.getElem?_setIfInBounds]
          split
          · rename_i hj; subst hj
            obtain ⟨hlt, _⟩ := Array.getElem?_eq_some_iff.1 hc
            rw [if_pos hlt, hc]
          · rfl
      · rfl
    exact congrArg (fun h => { w with heap := h }) this
  rw [this] at st
  exact st

theorem step_idleN {φ : Emb} {b : Nat} {e : Em} (he : φ b = some e) {w : World} : ∀ (vs : List Value) (A A' : AS) (off : Nat), Rel φ A w → A.storeN b off vs = some A' →
    (∀ j, j < vs.length → ∃ v', w.cell? ⟨e.blk, e.sh + (off + j), none⟩ = some v' ∧ VRel φ (vs.getD j undef) v') → Step φ A w φ A' w
  | [], A, A', off, hr, h, _ => by
    simp only [AS.storeN, Option.some.injEq] at h
    subst h
    exact Step.refl hr
  | v :: r, A, A', off, hr, h, hv => by
    unfold AS.storeN at h
    cases h1 : AE.oneCell v with
    | false => rw [h1] at h; cases h
    | true =>
      rw [h1, cond_true] at h
      cases hs : A.store b off v with
      | none => rw [hs] at h; cases h
      | some A1 =>
        rw [hs] at h
        simp only at h
        obtain ⟨v', g1, g2⟩ := hv 0 (by simp)
        have st := step_idle hr hs he (by simpa using g2) (by simpa using g1)
        exact Step.trans hr st (step_idleN he r A1 A' (off + 1) st.rel h fun j hj => by
          obtain ⟨v'', q1, q2⟩ := hv (j + 1) (by simpa using hj)
          exact ⟨v'', by rw [show off + 1 + j = off + (j + 1) by omega]; exact q1, by simpa using q2⟩)

end AE
end Go.Proofs.YtheaofepenbcgaaDoor

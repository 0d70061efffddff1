/- AE, part 2: when a world is related to an abstract state; what a step of both keeps. -/
import Derived.Test.YtheaofepenbcgaaDoorAe1
namespace Go.Proofs.YtheaofepenbcgaaDoor
open Go
namespace AE
variable [Sig]

/-- The state's own order: ids below n; families' ids below n; a family's list holds its members. -/
structure WF (A : AS) : Prop where
  lt : ∀ b k, A.bl.get b = some k → b < A.n
  famlt : ∀ b k, A.bl.get b = some k → k.fam < A.n
  mem : ∀ b k, A.bl.get b = some k → ∃ l, A.mem.get k.fam = some l ∧ b ∈ l
  rofam : ∀ b k b' k', A.bl.get b = some k → A.bl.get b' = some k' → k.fam = k'.fam → k.ro = k'.ro

def OthRel (φ : Emb) : AOth → Obj → Prop
  | .siter s p, o => o = .stringIter s p
  | .deferred, o => o = .deferred (some [])
  | .gone, o => o = .deferred none
  | .loop l, o => ∃ r : Loop, o = .loop r ∧ r.state = l.state ∧ r.pending = l.pending ∧ r.tmps.size = l.N ∧ r.params = ⟨l.params⟩ ∧ r.assign = l.assign ∧ r.body = l.body ∧ (∃ e, φ l.dfr = some e ∧ r.defers = e.blk) ∧
      (∀ t v, l.sl.get t = some v → VRel φ v (r.tmps.getD t undef))

theorem OthRel.no_cells {φ : Emb} {x : AOth} {c : Array Value} {t : TypeId} {f : Nat × Nat} (h : OthRel φ x (.cells c t f)) : False := by
  cases x with
  | siter s p => cases h
  | deferred => cases h
  | gone => cases h
  | loop l => obtain ⟨r, h, _⟩ := h; cases h

theorem OthRel.mono {φ φ' : Emb} {x : AOth} {o : Obj} (hφ : ∀ b e, φ b = some e → φ' b = some e) (h : OthRel φ x o) : OthRel φ' x o := by
  cases x with
  | siter s p => exact h
  | deferred => exact h
  | gone => exact h
  | loop l =>
    obtain ⟨r, h0, h1, h2, h3, h4, h5, h6, ⟨e, h7, h8⟩, h9⟩ := h
    exact ⟨r, h0, h1, h2, h3, h4, h5, h6, ⟨e, hφ _ _ h7, h8⟩, fun t v hv => (h9 t v hv).mono hφ⟩

def ORel (φ : Emb) (w : World) (e : Em) (k : ABlk) : Prop :=
  match k.obj with
  | .cells c => ∃ c' fr', w.heap[e.blk]? = some (.cells c' k.ty fr') ∧ e.lim = c'.size ∧ (e.sh + c.length ≤ c'.size ∧ (k.stride = 0 → e.sh = 0 ∧ c.length = c'.size)) ∧
      (∀ j, j < c.length → VRel φ (c.getD j undef) (c'.getD (e.sh + j) undef)) ∧ (k.ro = false → ∀ i, i < c'.size → ¬ (fr'.1 ≤ i ∧ i < fr'.2))
  | .map es cl => ∃ es', w.heap[e.blk]? = some (.map es' cl) ∧ es.length = es'.size ∧
      ∀ (j : Nat) (a : Ent) (b : MapEntry), es[j]? = some a → es'[j]? = some b → plain a.key = true ∧ a.key = b.key ∧ VRel φ a.val b.val ∧ a.born = b.born
  | .oth x => e.sh = 0 ∧ ∃ o', w.heap[e.blk]? = some o' ∧ OthRel φ x o'

structure Rel (φ : Emb) (A : AS) (w : World) : Prop where
  wf : WF A
  dom : ∀ b e, φ b = some e → ∃ k, A.bl.get b = some k ∧ e.stride = k.stride ∧ ORel φ w e k
  apart : ∀ b e k b' e' k', φ b = some e → φ b' = some e' → A.bl.get b = some k → A.bl.get b' = some k' → k.fam ≠ k'.fam → e.blk ≠ e'.blk
  along : ∀ b e k b' e' k', φ b = some e → φ b' = some e' → A.bl.get b = some k → A.bl.get b' = some k' → k.fam = k'.fam → e.blk = e'.blk → e.sh + k'.pos = e'.sh + k.pos
  imm : ∀ i o, Sig.imm i = some o → w.heap[i]? = some o ∧ ∀ b e, φ b = some e → e.blk ≠ i

structure Step (φ : Emb) (A : AS) (w : World) (φ' : Emb) (A' : AS) (w' : World) : Prop where
  rel : Rel φ' A' w'
  dom : ∀ b, b < A.n → φ' b = φ b
  newm : ∀ b, A.n ≤ b → b < A'.n → φ' b ≠ none
  new : ∀ b e, A.n ≤ b → φ' b = some e → w.heap.size ≤ e.blk ∨ ∃ b0 e0 k0, φ b0 = some e0 ∧ e0.blk = e.blk ∧ A'.low ≤ b0 ∧ A.bl.get b0 = some k0 ∧ k0.ro = false
  n_le : A.n ≤ A'.n
  low : A'.low ≤ A.low
  same : ∀ b, b < A.n → b < A'.low → A'.bl.get b = A.bl.get b
  ro : ∀ b k, A.bl.get b = some k → k.ro = true → A'.bl.get b = some k
  keep : ∀ i, i < w.heap.size → (∀ b e k, φ b = some e → e.blk = i → A.bl.get b = some k → k.ro = true) → w'.heap[i]? = w.heap[i]?
  hsize : w.heap.size ≤ w'.heap.size
  os : w'.os = w.os
  tape : w'.tape = w.tape
  output : w'.output = w.output

theorem Rel.lt {φ : Emb} {A : AS} {w : World} (h : Rel φ A w) {b : Nat} {e : Em} (hb : φ b = some e) : b < A.n := by
  obtain ⟨k, hk, _⟩ := h.dom b e hb
  exact h.wf.lt b k hk

theorem Step.ext {φ φ' : Emb} {A A' : AS} {w w' : World} (h : Step φ A w φ' A' w') (hr : Rel φ A w) : ∀ b e, φ b = some e → φ' b = some e := fun b e hb => by
  rw [h.dom b (hr.lt hb)]; exact hb

theorem Step.refl {φ : Emb} {A : AS} {w : World} (h : Rel φ A w) : Step φ A w φ A w where
  rel := h
  dom := fun _ _ => rfl
  newm := fun b h1 h2 => by omega
  new := fun b e h1 h2 => absurd (h.lt h2) (by omega)
  n_le := Nat.le_refl _
  low := Nat.le_refl _
  same := fun _ _ _ => rfl
  ro := fun _ _ h _ => h
  keep := fun _ _ _ => rfl
  hsize := Nat.le_refl _
  os := rfl
  tape := rfl
  output := rfl

theorem Step.trans {φ φ1 φ2 : Emb} {A A1 A2 : AS} {w w1 w2 : World} (hr : Rel φ A w) (h1 : Step φ A w φ1 A1 w1) (h2 : Step φ1 A1 w1 φ2 A2 w2) : Step φ A w φ2 A2 w2 where
  rel := h2.rel
  dom := fun b hb => by rw [h2.dom b (Nat.lt_of_lt_of_le hb h1.n_le), h1.dom b hb]
  newm := fun b h h' => by
    rcases Nat.lt_or_ge b A1.n with hlt | hge
    · rw [h2.dom b hlt]; exact h1.newm b h hlt
    · exact h2.newm b hge h'
  new := by
    have first : ∀ b e, A.n ≤ b → φ1 b = some e → w.heap.size ≤ e.blk ∨ ∃ b0 e0 k0, φ b0 = some e0 ∧ e0.blk = e.blk ∧ A2.low ≤ b0 ∧ A.bl.get b0 = some k0 ∧ k0.ro = false := fun b e hb he => by
      rcases h1.new b e hb he with h | ⟨b0, e0, k0, q1, q2, q3, q4, q5⟩
      · exact .inl h
      · exact .inr ⟨b0, e0, k0, q1, q2, Nat.le_trans h2.low q3, q4, q5⟩
    intro b e hb he
    rcases Nat.lt_or_ge b A1.n with hlt | hge
    · rw [h2.dom b hlt] at he
      exact first b e hb he
    · rcases h2.new b e hge he with h | ⟨b0, e0, k0, q1, q2, q3, q4, q5⟩
      · exact .inl (Nat.le_trans h1.hsize h)
      · rcases Nat.lt_or_ge b0 A.n with hlt | hge0
        · rw [h1.dom b0 hlt] at q1
          obtain ⟨k, hk, _⟩ := hr.dom b0 e0 q1
          refine .inr ⟨b0, e0, k, q1, q2, q3, hk, ?_⟩
          cases hro : k.ro with
          | false => rfl
          | true =>
            have := h1.ro b0 k hk hro
            rw [q4] at this
            cases this
            rw [q5] at hro
            exact hro.symm ▸ rfl
        · rcases first b0 e0 hge0 q1 with h | ⟨b1, e1, k1, r1, r2, r3, r4, r5⟩
          · exact .inl (by omega)
          · exact .inr ⟨b1, e1, k1, r1, r2.trans q2, r3, r4, r5⟩
  n_le := Nat.le_trans h1.n_le h2.n_le
  low := Nat.le_trans h2.low h1.low
  same := fun b hb hl => by rw [h2.same b (Nat.lt_of_lt_of_le hb h1.n_le) hl, h1.same b hb (Nat.lt_of_lt_of_le hl h2.low)]
  ro := fun b k hk hro => h2.ro b k (h1.ro b k hk hro) hro
  keep := fun i hi hall => by
    rw [h2.keep i (Nat.lt_of_lt_of_le hi h1.hsize) ?_, h1.keep i hi hall]
    intro b e k hb he hk
    rcases Nat.lt_or_ge b A.n with hlt | hge
    · rw [h1.dom b hlt] at hb
      obtain ⟨k0, hk0, _⟩ := hr.dom b e hb
      have hro := hall b e k0 hb he hk0
      have := h1.ro b k0 hk0 hro
      rw [hk] at this
      cases this
      exact hro
    · rcases h1.new b e hge hb with h | ⟨b0, e0, k0, q1, q2, q3, q4, q5⟩
      · omega
      · have := hall b0 e0 k0 q1 (q2.trans he) q4
        rw [q5] at this
        cases this
  hsize := Nat.le_trans h1.hsize h2.hsize
  os := h2.os.trans h1.os
  tape := h2.tape.trans h1.tape
  output := h2.output.trans h1.output

/-- Draws, and whatever turns neither the heap nor the rest. -/
theorem Step.drawn {φ : Emb} {A : AS} {w : World} (h : Rel φ A w) (n : Nat) : Step φ A w φ A { w with drawn := n } :=
  { Step.refl h with rel := ⟨h.wf, h.dom, h.apart, h.along, h.imm⟩, keep := fun _ _ _ => rfl }

/- NEW BLOCKS -/

def depth : Nat := 30

def AS.push (A : AS) (o : AObj) (st : Nat) (ty : TypeId) : Option (Nat × AS) :=
  match Tr.set { obj := o, fam := A.n, pos := 0, stride := st, ro := false, ty := ty : ABlk } depth A.bl A.n, Tr.set [A.n] depth A.mem A.n with
  | some bl, some mem => some (A.n, { A with bl, mem, n := A.n + 1 })
  | _, _ => none

def upd (φ : Emb) (b : Nat) (e : Em) : Emb := fun i => if i = b then some e else φ i

omit [Sig] in
theorem WF.push {A A' : AS} {o : AObj} {st : Nat} {ty : TypeId} {r : Nat} (h : WF A) (hp : A.push o st ty = some (r, A')) :
    WF A' ∧ r = A.n ∧ A'.n = A.n + 1 ∧ A'.low = A.low ∧ (∀ b, A'.bl.get b = if b = A.n then some { obj := o, fam := A.n, pos := 0, stride := st, ro := false, ty := ty } else A.bl.get b) := by
  unfold AS.push at hp
  split at hp
  · rename_i bl mem hb hm
    simp only [Option.some.injEq, Prod.mk.injEq] at hp
    obtain ⟨rfl, rfl⟩ := hp
    have gb := fun b => Tr.get_set _ _ _ _ _ b hb
    have gm := fun b => Tr.get_set _ _ _ _ _ b hm
    refine ⟨⟨?_, ?_, ?_, ?_⟩, rfl, rfl, rfl, gb⟩
    · intro b k hk
      simp only at hk ⊢
      rw [gb] at hk
      split at hk
      · omega
      · have := h.lt b k hk; omega
    · intro b k hk
      simp only at hk ⊢
      rw [gb] at hk
      split at hk
      · cases hk; simp
      · have := h.famlt b k hk; omega
    · intro b k hk
      simp only at hk ⊢
      rw [gb] at hk
      split at hk
      · rename_i hb
        cases hk
        exact ⟨[A.n], by rw [gm, if_pos rfl], by simp [hb]⟩
      · obtain ⟨l, hl, hbl⟩ := h.mem b k hk
        exact ⟨l, by rw [gm, if_neg (by have := h.famlt b k hk; omega)]; exact hl, hbl⟩
    · intro b k b' k' hk hk' hf
      simp only at hk hk'
      rw [gb] at hk hk'
      split at hk
      · cases hk
        split at hk'
        · cases hk'; rfl
        · have := h.famlt b' k' hk'; simp only at hf; omega
      · split at hk'
        · cases hk'
          have := h.famlt b k hk; simp only at hf; omega
        · exact h.rofam b k b' k' hk hk' hf
  · cases hp

theorem ORel.mono {φ φ' : Emb} {w w' : World} {e : Em} {k : ABlk} (hφ : ∀ b e, φ b = some e → φ' b = some e) (hw : w'.heap[e.blk]? = w.heap[e.blk]?) (h : ORel φ w e k) : ORel φ' w' e k := by
  unfold ORel at *
  cases hk : k.obj with
  | cells c =>
    simp only [hk] at h ⊢
    obtain ⟨c', fr', h1, h2, h3, h4, h5⟩ := h
    exact ⟨c', fr', hw.trans h1, h2, h3, fun j hj => (h4 j hj).mono hφ, h5⟩
  | map es cl =>
    simp only [hk] at h ⊢
    obtain ⟨es', h1, h2, h3⟩ := h
    refine ⟨es', hw.trans h1, h2, fun j a b ha hb => ?_⟩
    obtain ⟨q1, q2, q3, q4⟩ := h3 j a b ha hb
    exact ⟨q1, q2, q3.mono hφ, q4⟩
  | oth x =>
    simp only [hk] at h ⊢
    obtain ⟨h0, o', h1, h2⟩ := h
    exact ⟨h0, o', hw.trans h1, h2.mono hφ⟩

theorem ORel.lt {φ : Emb} {w : World} {e : Em} {k : ABlk} (h : ORel φ w e k) : e.blk < w.heap.size := by
  unfold ORel at h
  cases hk : k.obj with
  | cells c =>
    simp only [hk] at h
    obtain ⟨c', fr', h1, _⟩ := h
    exact (Array.getElem?_eq_some_iff.1 h1).1
  | map es cl =>
    simp only [hk] at h
    obtain ⟨es', h1, _⟩ := h
    exact (Array.getElem?_eq_some_iff.1 h1).1
  | oth x =>
    simp only [hk] at h
    obtain ⟨h0, o', h1, h2⟩ := h
    exact (Array.getElem?_eq_some_iff.1 h1).1

/-- A new block in both. -/
theorem step_push {φ : Emb} {A A' : AS} {w : World} {o : AObj} {st : Nat} {ty : TypeId} {r : Nat} {o' : Obj} {e : Em} (hr : Rel φ A w) (hp : A.push o st ty = some (r, A')) (he : e.blk = w.heap.size) (hst : e.stride = st)
    (ho : ORel (upd φ r e) { w with heap := w.heap.push o' } e { obj := o, fam := A.n, pos := 0, stride := st, ro := false, ty := ty }) :
    Step φ A w (upd φ r e) A' { w with heap := w.heap.push o' } := by
  obtain ⟨hwf, rfl, hn, hlow, hget⟩ := hr.wf.push hp
  have hold : ∀ b e1, φ b = some e1 → upd φ A.n e b = some e1 := fun b e1 hb => by
    unfold upd; rw [if_neg (by have := hr.lt hb; omega)]; exact hb
  have hheap : ∀ i, i < w.heap.size → (w.heap.push o')[i]? = w.heap[i]? := fun i hi => by
    rw [Array.getElem?_push, if_neg (by omega)]
  have hcase : ∀ b e1, upd φ A.n e b = some e1 → (b = A.n ∧ e1 = e) ∨ (b ≠ A.n ∧ φ b = some e1) := fun b e1 hb => by
    unfold upd at hb
    split at hb
    · rename_i h; cases hb; exact .inl ⟨h, rfl⟩
    · rename_i h; exact .inr ⟨h, hb⟩
  refine { rel := ⟨hwf, ?_, ?_, ?_, fun i o hi => by
      obtain ⟨h1, h2⟩ := hr.imm i o hi
      have hlt : i < w.heap.size := (Array.getElem?_eq_some_iff.1 h1).1
      refine ⟨by rw [hheap i hlt]; exact h1, fun b e1 hb => ?_⟩
      rcases hcase b e1 hb with ⟨rfl, rfl⟩ | ⟨_, hb⟩
      · omega
      · exact h2 b e1 hb⟩, dom := ?_, newm := ?_, new := ?_, n_le := by omega, low := by omega, same := ?_, ro := ?_, keep := ?_, hsize := by simp, os := rfl, tape := rfl, output := rfl }
  · intro b e1 hb
    rcases hcase b e1 hb with ⟨rfl, rfl⟩ | ⟨hne, hb⟩
    · exact ⟨_, by rw [hget, if_pos rfl], hst, ho⟩
    · obtain ⟨k, hk, h1, h2⟩ := hr.dom b e1 hb
      exact ⟨k, by rw [hget, if_neg hne]; exact hk, h1, h2.mono hold (hheap _ h2.lt)⟩
  · intro b e1 k b' e1' k' hb hb' hk hk' hne
    rw [hget] at hk hk'
    rcases hcase b e1 hb with ⟨rfl, rfl⟩ | ⟨hn1, hbo⟩
    · rcases hcase b' e1' hb' with ⟨rfl, rfl⟩ | ⟨hn2, hbo'⟩
      · rw [if_pos rfl] at hk hk'; cases hk; cases hk'; exact absurd rfl hne
      · obtain ⟨k1, _, _, h2⟩ := hr.dom b' e1' hbo'
        have := h2.lt; omega
    · rcases hcase b' e1' hb' with ⟨rfl, rfl⟩ | ⟨hn2, hbo'⟩
      · obtain ⟨k1, _, _, h2⟩ := hr.dom b e1 hbo
        have := h2.lt; omega
      · rw [if_neg hn1] at hk; rw [if_neg hn2] at hk'
        exact hr.apart b e1 k b' e1' k' hbo hbo' hk hk' hne
  · intro b e1 k b' e1' k' hb hb' hk hk' hfam hblk
    rw [hget] at hk hk'
    rcases hcase b e1 hb with ⟨rfl, rfl⟩ | ⟨hn1, hbo⟩
    · rcases hcase b' e1' hb' with ⟨rfl, rfl⟩ | ⟨hn2, hbo'⟩
      · rw [if_pos rfl] at hk hk'; cases hk; cases hk'; rfl
      · obtain ⟨k1, _, _, h2⟩ := hr.dom b' e1' hbo'
        have := h2.lt; omega
    · rcases hcase b' e1' hb' with ⟨rfl, rfl⟩ | ⟨hn2, hbo'⟩
      · obtain ⟨k1, _, _, h2⟩ := hr.dom b e1 hbo
        have := h2.lt; omega
      · rw [if_neg hn1] at hk; rw [if_neg hn2] at hk'
        exact hr.along b e1 k b' e1' k' hbo hbo' hk hk' hfam hblk
  · intro b hb
    unfold upd; rw [if_neg (by omega)]
  · intro b h1 h2
    have : b = A.n := by omega
    subst this
    simp [upd]
  · intro b e1 h1 hb
    rcases hcase b e1 hb with ⟨rfl, rfl⟩ | ⟨hn1, hb⟩
    · exact .inl (by omega)
    · exact absurd (hr.lt hb) (by omega)
  · intro b hb _
    rw [hget, if_neg (by omega)]
  · intro b k hk _
    rw [hget, if_neg (by have := hr.wf.lt b k hk; omega)]; exact hk
  · intro i hi _
    exact hheap i hi

end AE
end Go.Proofs.YtheaofepenbcgaaDoor

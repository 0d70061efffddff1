/- Parts of the proof, in the order in which they are built: AeP, StL, StP, Opn, Val, StC, StN, AeR. -/
import Derived.Test.YtheaofepenbcgaaGreatDoorNxtSpCard2
import Derived.OrdersIn
import Derived.Lib.SliceRun
import Derived.ProofKit
import Derived.Lay
import Derived.SevenTiedAt
import Derived.Carry
import Derived.Lib.SmallJoins
import Derived.Deep.Slices
import Derived.Laws.Slices

/- AE, P: arrays of the call's own whose length is a symbol; operations and calls that turn known memory; drawn regions by all their orders. -/
namespace Go.Proofs.YtheaofepenbcgaaGreatDoor
open Go Go.RowKit
namespace AE

/- THE TAPE IS READ ON -/

theorem ask_drawn {α : Type} : ∀ (k : Ask α) (w : World), w.drawn ≤ (w.ask k).2.drawn
  | .done a, w => Nat.le_refl _
  | .ask what range k, w => by
    unfold World.ask
    simp only
    split
    · exact ask_drawn (k 0) w
    · exact Nat.le_trans (Nat.le_succ _) (ask_drawn _ { w with drawn := w.drawn + 1 })

theorem sys_drawn (w : World) (c : Sys) : w.drawn ≤ (w.sys c).2.drawn := by
  have h := ask_drawn (Kernel.perform c w.os) w
  unfold World.sys
  generalize w.ask (Kernel.perform c w.os) = x at h
  obtain ⟨⟨r, os⟩, w1⟩ := x
  cases r <;> first | exact Nat.le_refl _ | exact h

theorem farStore_drawn {P : Program} {w w' : World} {a : Addr} {v : Value} {b : Bool} {l : List Addr} (h : w.farStore P a v b = .ok (w', l)) : w'.drawn = w.drawn := by
  unfold World.farStore at h
  split at h
  · split at h
    · rename_i r hr
      cases h
      unfold World.viewStore at hr
      simp only [bind, Except.bind, pure, Except.pure] at hr
      repeat' (split at hr)
      all_goals first | (cases hr; done) | (cases hr; rfl)
    · cases h
  · cases h

theorem run_drawn {α : Type} {P : Program} : ∀ (s : Sem α) (w w' : World) (v : α), s.run P w = .ok v w' → w.drawn ≤ w'.drawn
  | .pure a, w, w', v, h => by
    unfold Sem.run at h
    cases h; exact Nat.le_refl _
  | .load m a k, w, w', v, h => by
    unfold Sem.run at h
    split at h
    · exact run_drawn _ w w' v h
    · split at h
      · exact run_drawn _ w w' v h
      · cases h
  | .store m a x k, w, w', v, h => by
    have key : (match w.cell? a with
        | some _ => if w.frozen? a then Result.halt (.unsupported (.unsafePointer "a write to bytes that a string shares")) w else k.run P (w.setCell a x)
        | none => match w.farStore P a x (m == .atomic) with
          | .ok (w, _) => k.run P w
          | .error h => .halt h w) = Result.ok v w' ∨ False := by
      cases x <;> first | (unfold Sem.run at h; exact .inl h) | (unfold Sem.run at h; cases h)
    rcases key with h | h
    · split at h
      · split at h
        · cases h
        · have := run_drawn k _ w' v h
          exact this
      · split at h
        · rename_i w1 l hf
          have := run_drawn k _ w' v h
          rw [farStore_drawn hf] at this
          exact this
        · cases h
    · exact h.elim
  | .new o k, w, w', v, h => by
    unfold Sem.run at h
    have := run_drawn _ _ w' v h
    exact this
  | .shape r k, w, w', v, h => by
    unfold Sem.run at h
    exact run_drawn _ w w' v h
  | .freeze a n k, w, w', v, h => by
    unfold Sem.run at h
    have := run_drawn k _ w' v h
    unfold World.freeze at this
    split at this <;> exact this
  | .frozen a k, w, w', v, h => by
    unfold Sem.run at h
    exact run_drawn _ w w' v h
  | .getObj r k, w, w', v, h => by
    unfold Sem.run at h
    split at h
    · cases h
    · exact run_drawn _ w w' v h
    · cases h
  | .setObj r o k, w, w', v, h => by
    unfold Sem.run at h
    split at h
    · cases h
    · have := run_drawn k _ w' v h
      exact this
    · cases h
  | .choose q k, w, w', v, h => by
    unfold Sem.run at h
    split at h
    · exact run_drawn _ w w' v h
    · have := run_drawn _ _ w' v h
      exact Nat.le_trans (Nat.le_succ _) this
  | .sys c k, w, w', v, h => by
    unfold Sem.run at h
    exact Nat.le_trans (sys_drawn w c) (run_drawn _ _ w' v h)
  | .program k, w, w', v, h => by
    unfold Sem.run at h
    exact run_drawn _ w w' v h
  | .mark m k, w, w', v, h => by
    unfold Sem.run at h
    exact run_drawn k w w' v h
  | .halt x, w, w', v, h => by
    unfold Sem.run at h
    cases h

/- ARRAYS OF THE CALL'S OWN -/

abbrev Mem := Nat → Option Obj

/-- The block of a slice that may be written. -/
def obl : Value → Option Nat
  | .slice (some a) _ c => if c = 0 then none else some a.block
  | _ => none

theorem obl_zero (a : Option Addr) (n : Nat) : obl (.slice a n 0) = none := by cases a <;> rfl
theorem obl_pos (a : Addr) (n : Nat) {c : Nat} (h : 0 < c) : obl (.slice (some a) n c) = some a.block := by
  show (if c = 0 then none else some a.block) = _
  rw [if_neg (by omega)]
theorem obl_own {v : Value} {i : Nat} (h : some i = obl v) : some i = v.ownBlock := by
  cases v <;> first | (cases h; done) | skip
  rename_i a n c
  cases a with
  | none => cases h
  | some a =>
    rcases Nat.eq_zero_or_pos c with hc | hc
    · subst hc; cases h
    · rw [obl_pos a n hc] at h; exact h

/-- A slice of the call's own, as a list: without capacity, or all of a block at B or above. -/
def OArr {α : Type} (B : Nat) (M : Mem) (e : TypeId) (k : Nat) (enc : α → List Value) (v : Value) (l : List α) : Prop :=
  (∃ a, v = .slice a 0 0 ∧ l = []) ∨
  ∃ g cap cur, v = .slice (some ⟨g, 0, none⟩) l.length cap ∧ 0 < cap ∧ B ≤ g ∧ M g = some (.cells cur e (0, 0)) ∧ l.length ≤ cap ∧ cap ≤ maxLen ∧ cur.size = cap * k ∧ cur.toList.take (l.length * k) = l.flatMap enc

theorem flat_len {α : Type} {k : Nat} {enc : α → List Value} (hk : ∀ x, (enc x).length = k) : ∀ l : List α, (l.flatMap enc).length = l.length * k
  | [] => by simp
  | x :: r => by rw [List.flatMap_cons, List.length_append, hk, flat_len hk r, List.length_cons, Nat.add_mul, Nat.one_mul, Nat.add_comm]

theorem flat_get {α : Type} {k : Nat} {enc : α → List Value} (hk : ∀ x, (enc x).length = k) : ∀ (l : List α) (i : Nat) (x : α), l[i]? = some x → ∀ (j : Nat) (u : Value), (enc x)[j]? = some u → (l.flatMap enc)[i * k + j]? = some u
  | [], i, x, h, _, _, _ => by simp at h
  | y :: r, 0, x, h, j, u, hu => by
    simp only [List.getElem?_cons_zero, Option.some.injEq] at h
    subst h
    have hj : j < (enc y).length := (List.getElem?_eq_some_iff.1 hu).1
    rw [List.flatMap_cons, List.getElem?_append_left (by omega), Nat.zero_mul, Nat.zero_add]
    exact hu
  | y :: r, i + 1, x, h, j, u, hu => by
    rw [List.flatMap_cons, List.getElem?_append_right (by rw [hk, Nat.add_mul]; omega), hk, show (i + 1) * k + j - k = i * k + j by rw [Nat.add_mul]; omega]
    exact flat_get hk r i x (by simpa using h) j u hu

section
variable {α : Type} {B : Nat} {M : Mem} {e : TypeId} {k : Nat} {enc : α → List Value} {v : Value} {l : List α}

theorem OArr.nil (B : Nat) (M : Mem) (e : TypeId) (k : Nat) (enc : α → List Value) (a : Option Addr) : OArr B M e k enc (.slice a 0 0) [] := .inl ⟨a, rfl, rfl⟩

theorem OArr.slice (h : OArr B M e k enc v l) : ∃ a c, v = .slice a l.length c := by
  rcases h with ⟨a, rfl, rfl⟩ | ⟨g, cap, cur, rfl, _⟩
  · exact ⟨a, 0, rfl⟩
  · exact ⟨_, _, rfl⟩

/-- The block of a slice of one's own is known. -/
theorem OArr.known (h : OArr B M e k enc v l) : ∀ i, some i = obl v → M i ≠ none ∧ B ≤ i := by
  intro i hi
  rcases h with ⟨a, rfl, rfl⟩ | ⟨g, cap, cur, rfl, h0, h1, h2, _⟩
  · rw [obl_zero] at hi; cases hi
  · have : i = g := by
      rw [obl_pos _ _ h0] at hi
      simpa using hi
    subst this
    exact ⟨by rw [h2]; simp, h1⟩

theorem OArr.mono {B' : Nat} {M' : Mem} (h : OArr B M e k enc v l) (hB : B' ≤ B) (hm : ∀ i, some i = obl v → ∀ o, M i = some o → M' i = some o) : OArr B' M' e k enc v l := by
  rcases h with ⟨a, rfl, rfl⟩ | ⟨g, cap, cur, rfl, h0, h1, h2, h3, h4, h5, h6⟩
  · exact .inl ⟨a, rfl, rfl⟩
  · exact .inr ⟨g, cap, cur, rfl, h0, Nat.le_trans hB h1, hm g (by rw [obl_pos _ _ h0]) _ h2, h3, h4, h5, h6⟩

/-- The cells of a slice, in a world. -/
def Reads (w : World) (k : Nat) (enc : α → List Value) (v : Value) (l : List α) : Prop :=
  ∃ a c, v = .slice a l.length c ∧ (a = none → l = []) ∧ ∀ ad, a = some ad → ∀ j u, (l.flatMap enc)[j]? = some u → w.cell? (ad.add j) = some u

theorem flat_at {enc : α → List Value} (hk : ∀ x, (enc x).length = k) {l : List α} {j : Nat} {u : Value} (h : (l.flatMap enc)[j]? = some u) : ∃ i x r, l[i]? = some x ∧ (enc x)[r]? = some u ∧ j = i * k + r := by
  have hj : j < l.length * k := by
    have := (List.getElem?_eq_some_iff.1 h).1
    rwa [flat_len hk] at this
  have k0 : 0 < k := by rcases Nat.eq_zero_or_pos k with h | h; · subst h; simp at hj
                        · exact h
  have hi : j / k < l.length := Nat.div_lt_of_lt_mul (by rwa [Nat.mul_comm] at hj)
  have hr : j % k < k := Nat.mod_lt _ k0
  refine ⟨j / k, l[j / k], j % k, List.getElem?_eq_getElem hi, ?_, (Nat.div_add_mod' j k).symm⟩
  have h2 := flat_get hk l (j / k) _ (List.getElem?_eq_getElem hi) (j % k) ((enc l[j / k])[j % k]'(by rw [hk]; exact hr)) (List.getElem?_eq_getElem _)
  rw [Nat.div_add_mod', h] at h2
  rw [List.getElem?_eq_getElem (by rw [hk]; exact hr)]
  exact h2.symm

theorem Arr.reads {w : World} (h : Arr M k enc v l) (hk : ∀ x, (enc x).length = k) (hw : ∀ i o, M i = some o → w.heap[i]? = some o) : Reads w k enc v l := by
  cases h with
  | nil a c => exact ⟨a, c, rfl, fun _ => rfl, fun ad _ j u h => by simp at h⟩
  | mk h1 h2 h3 =>
    refine ⟨_, _, rfl, (fun h => by cases h), fun ad had j u hj => ?_⟩
    cases had
    obtain ⟨i, x, r, q1, q2, rfl⟩ := flat_at hk hj
    rw [Addr.add_at, cell_of_row w _ _ _ _ _ (hw _ _ h1), ← Nat.add_assoc]
    exact h3 i x q1 r u q2

theorem OArr.reads {w : World} (h : OArr B M e k enc v l) (hw : ∀ i o, M i = some o → w.heap[i]? = some o) : Reads w k enc v l := by
  rcases h with ⟨a, rfl, rfl⟩ | ⟨g, cap, cur, rfl, h0, h1, h2, h3, h4, h5, h6⟩
  · exact ⟨a, 0, rfl, fun _ => rfl, fun ad _ j u h => by simp at h⟩
  · refine ⟨_, _, rfl, (fun h => by cases h), fun ad had j u hj => ?_⟩
    cases had
    rw [Addr.add_at, cell_of_row w _ _ _ _ _ (hw _ _ h2), Nat.zero_add]
    rw [← h6, List.getElem?_take] at hj
    split at hj
    · simpa using hj
    · cases hj

theorem OArr.arr (h : OArr B M e k enc v l) (hk : ∀ x, (enc x).length = k) : Arr M k enc v l := by
  rcases h with ⟨a, rfl, rfl⟩ | ⟨g, cap, cur, rfl, hc, h1, h2, h3, h4, h5, h6⟩
  · exact .nil _ _
  · refine .mk h2 h3 fun i x hx j u hu => ?_
    have h7 := flat_get hk l i x hx j u hu
    rw [← h6, List.getElem?_take] at h7
    split at h7
    · rw [Nat.zero_add]
      simpa using h7
    · cases h7

theorem OArr.row (h : OArr B M e k enc v l) (hk : ∀ x, (enc x).length = k) (hc : obl v ≠ none) {w : World} (hw : ∀ i o, M i = some o → w.heap[i]? = some o) : w.ownsRow B e k v l.length (l.flatMap enc) := by
  refine ⟨flat_len hk l, ?_⟩
  rcases h with ⟨a, rfl, rfl⟩ | ⟨g, cap, cur, rfl, h0, h1, h2, h3, h4, h5, h6⟩
  · exact absurd (obl_zero _ _) hc
  · exact .inr ⟨g, cap, cur, rfl, h1, hw _ _ h2, h3, h4, h5, h6⟩

theorem OArr.of_row {w : World} (h : w.ownsRow B e k v l.length (l.flatMap enc)) : OArr B (heapOf w) e k enc v l := by
  obtain ⟨_, ⟨rfl, h0⟩ | ⟨g, cap, cur, rfl, h1, h2, h3, h4, h5, h6⟩⟩ := h
  · exact .inl ⟨none, rfl, List.eq_nil_of_length_eq_zero h0⟩
  · rcases Nat.eq_zero_or_pos cap with hc | hc
    · subst hc
      have : l = [] := List.eq_nil_of_length_eq_zero (by omega)
      subst this
      exact .inl ⟨_, rfl, rfl⟩
    · exact .inr ⟨g, cap, cur, rfl, hc, h1, h2, h3, h4, h5, h6⟩
end

/-- What was known of memory beside the block T is known still. -/
def Keeps (M M' : Mem) (T : Option Nat) : Prop := ∀ i o, M i = some o → some i ≠ T → M' i = some o

theorem Keeps.up {B : Nat} {W : World} {M M' : Mem} {T : Option Nat} (hk : Keeps M M' T) (hB : ∀ i, some i = T → B ≤ i) (hWB : W.heap.size ≤ B) (hM : ∀ i o, heapOf W i = some o → M i = some o) : ∀ i o, heapOf W i = some o → M' i = some o := fun i o h =>
  hk i o (hM i o h) fun hi => by
    have h1 := hB i hi
    have h2 : i < W.heap.size := (Array.getElem?_eq_some_iff.1 h).1
    omega

theorem Keeps.own {α : Type} {B : Nat} {M M' : Mem} {T : Option Nat} {e : TypeId} {k : Nat} {enc : α → List Value} {v : Value} {l : List α} (hk : Keeps M M' T) (h : OArr B M e k enc v l) (hne : ∀ i, some i = obl v → some i ≠ T) : OArr B M' e k enc v l :=
  h.mono (Nat.le_refl _) fun i hi o ho => hk i o ho (hne i hi)

/- OPERATIONS AND CALLS THAT TURN KNOWN MEMORY -/

/-- The block T is turned; what is known behind it. -/
structure Turns (B : Nat) (M M' : Mem) (T : Option Nat) (w w' : World) : Prop where
  known : ∀ i, some i = T → M i ≠ none ∧ B ≤ i
  os : w'.os = w.os
  tape : w'.tape = w.tape
  output : w'.output = w.output
  drawn : w.drawn ≤ w'.drawn
  size : w.heap.size ≤ w'.heap.size
  block : ∀ i, i < w.heap.size → some i ≠ T → w'.heap[i]? = w.heap[i]?
  imm : ∀ i o, M' i = some o → w'.heap[i]? = some o ∧ (M i ≠ none ∨ w.heap.size ≤ i ∨ i < B)

theorem Here.turns [Outer] {M M' : Mem} {vals vals' : List Value} {T : Option Nat} {N B : Nat} {st : ASt} {w0 w w' : World} {a : Act} {sl : Sl} {l : List Bk} {obs : Obs} (htr : trAll st sl l = some obs) (hm : Meet (sgL M vals) (sgL M' vals') obs) (ht : Turns B M M' T w w') (hn : Outer.n0 ≤ l.length) (hc : SameC st.A l 0)
    (hh : @Here (sgL M vals) _ N st B w0 a w) : @Here (sgL M' vals') _ N { sl, ms := [], A := mkAS l } B w0 a w' :=
  Here.turn (fun i => some i = T) htr hm (fun i hi => ht.known i hi) ⟨ht.os, ht.tape, ht.output, ht.drawn⟩ ht.size (fun i hi hv => ht.block i hi hv) (fun i o hi => ht.imm i o hi) hn hc hh

/-- Memory behind a turn: what was known is known, but for the block T; the block U is known. -/
def memTo (M : Mem) (w' : World) (T U : Option Nat) : Mem := fun i => if some i = U then w'.heap[i]? else if some i = T then none else M i

theorem turns_memTo {B : Nat} {M : Mem} {T U : Option Nat} {w w' : World} (hw : ∀ i o, M i = some o → w.heap[i]? = some o) (hT : ∀ i, some i = T → M i ≠ none ∧ B ≤ i) (hU : ∀ i, some i = U → some i = T ∨ w.heap.size ≤ i)
    (hos : w'.os = w.os ∧ w'.tape = w.tape ∧ w'.output = w.output) (hd : w.drawn ≤ w'.drawn) (hsz : w.heap.size ≤ w'.heap.size) (hb : ∀ i, i < w.heap.size → some i ≠ T → w'.heap[i]? = w.heap[i]?) : Turns B M (memTo M w' T U) T w w' ∧ Keeps M (memTo M w' T U) T := by
  have hkeep : ∀ i o, M i = some o → some i ≠ T → w'.heap[i]? = some o := fun i o hi hv => by
    have h := hw i o hi
    rw [hb i (Array.getElem?_eq_some_iff.1 h).1 hv]
    exact h
  refine ⟨⟨hT, hos.1, hos.2.1, hos.2.2, hd, hsz, hb, fun i o hi => ?_⟩, fun i o hi hv => ?_⟩
  · unfold memTo at hi
    split at hi
    · rename_i h
      refine ⟨hi, ?_⟩
      rcases hU i h with h | h
      · exact .inl (hT i h).1
      · exact .inr (.inl h)
    · split at hi
      · cases hi
      · rename_i h1 h2
        exact ⟨hkeep i o hi h2, .inl (by rw [hi]; simp)⟩
  · unfold memTo
    split
    · exact hkeep i o hi hv
    · first
        | exact hi
        | (rw [if_neg hv]; exact hi)

/- APPEND -/

theorem run_append_zero {P : Program} {w : World} {t ty e : TypeId} {i : TypeInfo} (ht : P.underlying t = some (.slice e)) (hi : P.info? e = some i) {a b : Option Addr} {n cap c : Nat} (h : n ≤ cap) :
    (Builtin.append_ #[t, t] ty #[.slice a n cap, .slice b 0 c]).run P w = .ok (.slice a n cap) w := by
  cases b <;> cases a <;> simp [Builtin.append_, run_underlying ht, sizeOf, typeInfo, hi, Builtin.lenOf, Builtin.firstCells, loadCells, loadCellsFrom, h, storeCells]

/-- What an append hands back lies in the old block, or in a new one. -/
theorem append_new {P : Program} {w w' : World} {base : Nat} {t ty e : TypeId} {i : TypeInfo} {z : Value} {size bytes : Nat} (ht : P.underlying t = some (.slice e)) (hi : P.info? e = some i) (hz : i.zero = some z) (hsize : i.size = size) (hby : i.bytes = bytes) (hzs : z.cells.size = size) (hsz : 0 < size)
    {v v' : Value} {n : Nat} {xs : List Value} (hown : w.ownsRow base e size v n xs) (a : Addr) (m c : Nat) {news : List Value} (hl : news.length = m * size) (hnews : ∀ j u, news[j]? = some u → w.cell? (a.add j) = some u) (h1 : ∀ u ∈ news, u.oneCell' = true)
    (h63 : n + m ≤ maxLen) (hbytes : (n + m) * bytes ≤ 140737488355328) (hr : (Builtin.append_ #[t, t] ty #[v, .slice (some a) m c]).run P w = .ok v' w') : ∀ j, some j = v'.ownBlock → some j = v.ownBlock ∨ w.heap.size ≤ j := by
  subst hsize
  subst hby
  have hsmall : n + m ≤ 9223372036854775807 := by simp only [maxLen] at h63; omega
  rcases hown.2 with ⟨rfl, rfl⟩ | ⟨g, cap, cur, rfl, hbg, hg, hnc, hcm, hcs, htake⟩
  · by_cases hm : m = 0
    · subst hm
      have hn : news = [] := List.eq_nil_of_length_eq_zero (by simpa using hl)
      subst hn
      have h2 : (Builtin.append_ #[t, t] ty #[.slice none 0 0, .slice (some a) 0 c]).run P w = .ok (.slice none 0 0) w := by
        simp [Builtin.append_, run_underlying ht, sizeOf, typeInfo, hi, Builtin.lenOf, Builtin.firstCells, loadCells, loadCellsFrom]
      rw [h2] at hr
      cases hr
      intro j hj
      cases hj
    · have h2 := run_append_nil (P := P) w t ty e i z ht hi hz a m c news hl hnews (by omega) (by omega) (by have hb := hbytes; simp only [Nat.zero_add] at hb; omega)
      rw [h2] at hr
      cases hr
      intro j hj
      have : j = w.heap.size := by simpa [Value.ownBlock] using hj
      exact .inr (by omega)
  · by_cases hroom : n + m ≤ cap
    · have hfit : n * i.size + news.length ≤ cur.size := by rw [hl, hcs, ← Nat.add_mul]; exact Nat.mul_le_mul_right _ hroom
      have h2 := run_append_room (P := P) w t ty e i ht hi g n cap cur hg a m c news hl hnews h1 hroom hfit
      rw [h2] at hr
      cases hr
      intro j hj
      exact .inl hj
    · have holds : ∀ j u, xs[j]? = some u → w.cell? ((⟨g, 0, none⟩ : Addr).add j) = some u := hown.cells (g := g) rfl
      have h2 := run_append_grow (P := P) w t ty e i z ht hi hz ⟨g, 0, none⟩ n cap xs hown.1 holds a m c news hl hnews (by omega) (by omega) (growslice_fits (by omega) hbytes)
      rw [h2] at hr
      cases hr
      intro j hj
      have : j = w.heap.size := by simpa [Value.ownBlock] using hj
      exact .inr (by omega)

theorem append_own {α : Type} {P : Program} {w : World} {B : Nat} {M : Mem} {t ty e : TypeId} {i : TypeInfo} {z : Value} {k bytes : Nat} (ht : P.underlying t = some (.slice e)) (hi : P.info? e = some i) (hz : i.zero = some z) (hsize : i.size = k) (hby : i.bytes = bytes) (hzs : z.cells.size = k) (hk0 : 0 < k)
    {enc : α → List Value} (hk : ∀ x, (enc x).length = k) (hone : ∀ x, ∀ u ∈ enc x, u.oneCell' = true) {v x : Value} {l lx : List α} (hO : OArr B M e k enc v l) (hx : Reads w k enc x lx) (hw : ∀ i o, M i = some o → w.heap[i]? = some o) (hB : B ≤ w.heap.size)
    (h63 : l.length + lx.length ≤ maxLen) (hbytes : (l.length + lx.length) * bytes ≤ 140737488355328) :
    ∃ v' w' M', (Builtin.append_ #[t, t] ty #[v, x]).run P w = .ok v' w' ∧ OArr B M' e k enc v' (l ++ lx) ∧ Turns B M M' (obl v) w w' ∧ Keeps M M' (obl v) := by
  obtain ⟨ax, c, rfl, hnil, hcells⟩ := hx
  by_cases hm : lx = []
  · subst hm
    obtain ⟨a, cap, rfl⟩ := hO.slice
    have hle : l.length ≤ cap := by
      rcases hO with ⟨a', h, rfl⟩ | ⟨g, cap', cur, h, h0, h1, h2, h3, _⟩
      · exact Nat.zero_le _
      · cases h; exact h3
    refine ⟨_, w, M, run_append_zero ht hi hle, by rw [List.append_nil]; exact hO, ⟨hO.known, rfl, rfl, rfl, Nat.le_refl _, Nat.le_refl _, fun _ _ _ => rfl, fun i o h => ⟨hw i o h, .inl (by rw [h]; simp)⟩⟩, fun i o h _ => h⟩
  · cases ax with
    | none => exact absurd (hnil rfl) hm
    | some ad =>
      have hlen := flat_len hk lx
      have hpos : 0 < lx.length := List.length_pos_iff.2 hm
      have h1 : ∀ u ∈ lx.flatMap enc, u.oneCell' = true := fun u hu => by
        obtain ⟨y, _, hy⟩ := List.mem_flatMap.1 hu
        exact hone y u hy
      have fin : ∀ {v0 : Value}, w.ownsRow B e k v0 l.length (l.flatMap enc) → (∀ i, some i = v0.ownBlock → M i ≠ none ∧ B ≤ i) → ∃ v' w' M', (Builtin.append_ #[t, t] ty #[v0, .slice (some ad) lx.length c]).run P w = .ok v' w' ∧ OArr B M' e k enc v' (l ++ lx) ∧ Turns B M M' v0.ownBlock w w' ∧ Keeps M M' v0.ownBlock := by
        intro v0 hrow hkn
        obtain ⟨v', w', g1, g2, g3, _⟩ := run_append_own (P := P) w B t ty e i z k bytes ht hi hz hsize hby hzs hk0 v0 l.length _ hrow ad lx.length c _ hlen (hcells ad rfl) h1 h63 hbytes hB
        have hnew := append_new ht hi hz hsize hby hzs hk0 hrow ad lx.length c hlen (hcells ad rfl) h1 h63 hbytes g1
        have hd := run_drawn _ _ _ _ g1
        have h2 : w'.ownsRow B e k v' (l ++ lx).length ((l ++ lx).flatMap enc) := by rw [List.length_append, List.flatMap_append]; exact g2
        obtain ⟨q1, q2⟩ := turns_memTo (B := B) (M := M) (T := v0.ownBlock) (U := v'.ownBlock) hw hkn hnew ⟨g3.os, g3.tape, g3.output⟩ hd g3.size g3.block
        refine ⟨v', w', _, g1, (OArr.of_row h2).mono (Nat.le_refl _) fun i hi o ho => ?_, q1, q2⟩
        have : some i = v'.ownBlock := obl_own hi
        unfold memTo
        rw [if_pos this]
        exact ho
      by_cases hc : obl v = none
      · rcases hO with ⟨a, rfl, rfl⟩ | ⟨g, cap, cur, rfl, h0, _⟩
        · have e0 : (Builtin.append_ #[t, t] ty #[.slice a 0 0, .slice (some ad) lx.length c]).run P w = (Builtin.append_ #[t, t] ty #[.slice none 0 0, .slice (some ad) lx.length c]).run P w := by
            cases a with
            | none => rfl
            | some a =>
              subst hsize
              subst hby
              have hsmall : lx.length ≤ 9223372036854775807 := by simp only [maxLen, List.length_nil] at h63; omega
              have r1 := run_append_nil (P := P) w t ty e i z ht hi hz ad lx.length c _ hlen (hcells ad rfl) (by omega) (by omega) (by have hb := hbytes; simp only [List.length_nil, Nat.zero_add] at hb; omega)
              have r2 := run_append_grow (P := P) w t ty e i z ht hi hz a 0 0 [] (by simp) (fun j u h => by simp at h) ad lx.length c _ hlen (hcells ad rfl) (by omega) (by omega) (growslice_fits (by omega) (by have hb := hbytes; simp only [List.length_nil] at hb; exact hb))
              rw [r1, r2]
              simp
          obtain ⟨v', w', M', q1, q2, q3, q4⟩ := fin (v0 := .slice none 0 0) (World.ownsRow_nil w B e k) (fun i h => by cases h)
          rw [hc]
          exact ⟨v', w', M', e0.trans q1, q2, q3, q4⟩
        · exact absurd hc (by rw [obl_pos _ _ h0]; simp)
      · have heq : obl v = v.ownBlock := by
          cases h : obl v with
          | none => exact absurd h hc
          | some i => exact obl_own h.symm
        have := fin (v0 := v) (hO.row hk hc hw) (fun i h => hO.known i (by rw [heq]; exact h))
        rw [heq]
        exact this

/-- The append that an evaluation stops at: to what, and what. -/
def appOf (t : TypeId) : Option Stop → Option (Value × Value)
  | some (.oper o _ ops s _) => match o.op with
    | .call c => match c.callee, c.args with
      | .builtin .append, ⟨[sO, xO]⟩ => bif decide (c.argTypes = #[t, t]) then match aWanted ops o s.sl with
        | some true => some (evs .nil s.sl sO, evs .nil s.sl xO)
        | _ => none
        else none
      | _, _ => none
    | _ => none
  | _ => none

theorem ostop_appendO [Outer] {α : Type} {P : Program} {N B : Nat} {w0 : World} {Q : Exit → Act → World → Prop} {M : Mem} {vals : List Value} {o : Option Stop} {t e : TypeId} {k bytes : Nat} {i : TypeInfo} {z vs xv vR : Value} {enc : α → List Value} {l lx l' : List α} {vals2 : Option Addr → Nat → List Value} {sl2 sl3 : Sl} {bks : List Bk} {obs : Obs}
    (hl' : l' = l ++ lx) (h : appOf t o = some (vs, xv)) (ht : P.underlying t = some (.slice e)) (hi : P.info? e = some i) (hz : i.zero = some z) (hsize : i.size = k) (hby : i.bytes = bytes) (hzs : z.cells.size = k) (hk0 : 0 < k) (hk : ∀ x, (enc x).length = k) (hone : ∀ x, ∀ u ∈ enc x, u.oneCell' = true)
    (htr : trAll (stopSt o) sl2 bks = some obs) (hput : aput N sl2 (stopDst o) vR = some sl3) (hpl : plainS vR = true) (T : Option Nat)
    (hO : ∀ φ w v, @Rel (sgL M vals) φ (stopSt o).A w → @VRel (sgL M vals) φ vs v → OArr B M e k enc v l ∧ obl v = T)
    (hX : ∀ φ w x, @Rel (sgL M vals) φ (stopSt o).A w → @VRel (sgL M vals) φ xv x → Reads w k enc x lx)
    (h63 : l.length + lx.length ≤ maxLen) (hbytes : (l.length + lx.length) * bytes ≤ 140737488355328)
    (hm : ∀ M' a c, Meet (sgL M vals) (sgL M' (vals2 a c)) obs) (hv : ∀ M' a c, @interp (sgL M' (vals2 a c)) vR = .slice a l'.length c)
    (rest : ∀ M' a c, OArr B M' e k enc (.slice a l'.length c) l' → Keeps M M' T → (∀ i, some i = T → B ≤ i) → ∀ a' w, @Here (sgL M' (vals2 a c)) _ N { sl := sl3, ms := [], A := mkAS bks } B w0 a' w → wpListIn (Fr none) 0 P (stopOps o) (KQ P (stopKs o) Q) (stopRest o) a' w)
    (hn : Outer.n0 ≤ bks.length := by first | exact Nat.zero_le _ | exact Nat.le_of_ble_eq_true rfl) (hc : SameC (stopSt o).A bks 0 := by exact sameC_none rfl) : @OStop (sgL M vals) _ P N B w0 Q o := by
  subst hl'
  letI := sgL M vals
  unfold appOf at h
  split at h
  · rename_i op r ops s ks
    refine ⟨_, rfl, fun a w hh => ?_⟩
    split at h
    · rename_i c hop
      split at h
      · rename_i sO xO hcal hargs
        cases hty : decide (c.argTypes = #[t, t]) with
        | false => rw [hty] at h; cases h
        | true =>
          rw [hty, cond_true] at h
          have hty' : c.argTypes = #[t, t] := of_decide_eq_true hty
          split at h
          · rename_i hwt
            cases h
            have hh0 := hh
            obtain ⟨⟨φ, ds, h1, h2, h3, h4, _⟩, h5, h6⟩ := hh
            unfold wpListIn
            rw [wanted_spec h2.get hwt, if_pos rfl]
            have es := evs_rel (gr_nil φ) h2.get sO
            have ex := evs_rel (gr_nil φ) h2.get xO
            obtain ⟨hOa, hT⟩ := hO φ w _ h3 es
            subst hT
            have hw : ∀ i o, M i = some o → w.heap[i]? = some o := hh0.immW
            obtain ⟨v', w', M', g1, g2, g3, g4⟩ := append_own (ty := op.type) ht hi hz hsize hby hzs hk0 hk hone hOa (hX φ w _ h3 ex) hw h6 h63 hbytes
            have hrun : (execOp a.eval op).run P w = .ok (.value v') w' := by
              unfold execOp resolve
              rw [hop]
              simp only [hcal, hargs, hty', List.map_toArray, List.map_cons, List.map_nil]
              show (do pure (Next.value (← Builtin.append_ #[t, t] op.type #[a.eval sO, a.eval xO])) : Sem Next).run P w = _
              simp only [Sem.run_bind, g1, Result.andThen_ok]
              rfl
            have hnd : ∀ c', op.op ≠ .defer c' := fun c' h => by rw [hop] at h; cases h
            refine ⟨fun _ _ => trivial, ?_⟩
            rw [Oper.semAt_eq _ _ _ hnd, hrun, Oper.uponIn_value]
            obtain ⟨a', c', rfl⟩ := g2.slice
            have hh2 := Here.turns (vals' := vals2 a' c') htr (hm M' a' c') g3 hn hc hh0
            letI := sgL M' (vals2 a' c')
            have hh3 := Here.put (d := op.dst) hh2 hpl hput
            rw [hv M' a' c'] at hh3
            exact rest M' a' c' g2 g4 (fun i hi => (g3.known i hi).2) _ w' hh3
          · cases h
      · cases h
    · cases h
  · cases h

/- what is appended to, what is appended -/

theorem appTo_sym {α : Type} {A : AS} {B : Nat} {M : Mem} {vals : List Value} {e : TypeId} {k : Nat} {enc : α → List Value} {vs u : Value} {l : List α} (hp : plainS vs = true) (ev : @interp (sgL M vals) vs = u) (hO : OArr B M e k enc u l) : ∀ φ w v, @Rel (sgL M vals) φ A w → @VRel (sgL M vals) φ vs v → OArr B M e k enc v l ∧ obl v = obl u := fun φ w v _ hv => by
  letI := sgL M vals
  rw [VRel.eq_of_plainS vs hp hv, ev]
  exact ⟨hO, rfl⟩

/-- The cells of a slice in the call's own blocks. -/
def cellsAt (A : AS) (k : Nat) : Value → Option (List Value)
  | .slice (some ⟨b, off, none⟩) m _ => match A.loadN b off (m * k) with
    | some vals => bif plainSL vals && (vals.all oneCell && (Nat.blt 0 m && Nat.beq vals.length (m * k))) then some vals else none
    | none => none
  | _ => none

theorem app_cells {α : Type} {M : Mem} {vals : List Value} {A : AS} {k : Nat} {enc : α → List Value} {xv : Value} {cs : List Value} {lx : List α} (h : cellsAt A k xv = some cs) (hk : ∀ x, (enc x).length = k) (hk0 : 0 < k) (he : @interpL (sgL M vals) cs = lx.flatMap enc) : ∀ φ w x, @Rel (sgL M vals) φ A w → @VRel (sgL M vals) φ xv x → Reads w k enc x lx := fun φ w x hr hv => by
  letI := sgL M vals
  unfold cellsAt at h
  split at h
  · rename_i b off m cc
    split at h
    · rename_i vs hl
      cases hp : (plainSL vs && (vs.all oneCell && (Nat.blt 0 m && Nat.beq vs.length (m * k)))) with
      | false => rw [hp] at h; cases h
      | true =>
        rw [hp, cond_true, Option.some.injEq] at h
        subst h
        simp only [Bool.and_eq_true] at hp
        obtain ⟨p2, p3, p4, p5⟩ := hp
        have hm : 0 < m := Nat.blt_eq.mp p4
        have hlen : vs.length = m * k := Nat.eq_of_beq_eq_true p5
        have hml : m = lx.length := by
          have h1 := congrArg List.length he
          rw [interpL_length, hlen, flat_len hk] at h1
          exact Nat.eq_of_mul_eq_mul_right hk0 h1
        have hex : ∃ ee cc', φ b = some ee ∧ x = .slice (some ⟨ee.blk, ee.sh + off, none⟩) m cc' := by
          cases hv with
          | slz a' h => exact absurd hm (by omega)
          | slx _ _ h => exact ⟨_, _, h, rfl⟩
          | slg _ _ c' h _ _ _ => exact ⟨_, _, h, rfl⟩
        obtain ⟨ee, cc', hb, rfl⟩ := hex
        refine ⟨_, _, by rw [hml], (fun h => by cases h), fun ad had j u hj => ?_⟩
        cases had
        rw [← he] at hj
        obtain ⟨q1, q2⟩ := loadN_spec hl
        have hjl : j < vs.length := by
          have := (List.getElem?_eq_some_iff.1 hj).1
          rwa [interpL_length] at this
        obtain ⟨v', g1, g2⟩ := rel_load hr (q2 j (by omega)) hb
        rw [Addr.add_at, Nat.add_assoc, g1]
        have pj : plainS (vs.getD j undef) = true := by
          rw [List.getD_eq_getElem?_getD, List.getElem?_eq_getElem hjl]
          exact plainSL_mem p2 (List.getElem_mem hjl)
        rw [VRel.eq_of_plainS _ pj g2]
        rw [interpL_map, List.getElem?_map, List.getElem?_eq_getElem hjl] at hj
        rw [List.getD_eq_getElem?_getD, List.getElem?_eq_getElem hjl]
        simpa using hj
    · cases h
  · cases h

/- A CALL THAT TURNS KNOWN MEMORY -/

theorem ostop_callT [Outer] {P : Program} {N B : Nat} {w0 : World} {Q : Exit → Act → World → Prop} {M : Mem} {vals : List Value} {o : Option Stop} {f : FuncId} {args : List Value} {vR : Value} {Y : Type} {vals2 : Y → List Value} {sl2 sl3 : Sl} {bks : List Bk} {obs : Obs} {T : Option Nat} {R : Y → Mem → Prop}
    (h : callAt P o = some (f, args)) (htr : trAll (stopSt o) sl2 bks = some obs) (hput : aput N sl2 (stopDst o) vR = some sl3) (hpl : plainS vR = true)
    (hcon : ∀ w, (∀ i o, M i = some o → w.heap[i]? = some o) → B ≤ w.heap.size → Calls P f ⟨@interpL (sgL M vals) args⟩ w fun e w' => ∃ y M', e = .returned (@interp (sgL M' (vals2 y)) vR) ∧ R y M' ∧ Turns B M M' T w w')
    (hm : ∀ M' y, R y M' → Meet (sgL M vals) (sgL M' (vals2 y)) obs)
    (rest : ∀ M' y, R y M' → ∀ a' w, @Here (sgL M' (vals2 y)) _ N { sl := sl3, ms := [], A := mkAS bks } B w0 a' w → wpListIn (Fr none) 0 P (stopOps o) (KQ P (stopKs o) Q) (stopRest o) a' w)
    (hn : Outer.n0 ≤ bks.length := by first | exact Nat.zero_le _ | exact Nat.le_of_ble_eq_true rfl) (hc : SameC (stopSt o).A bks 0 := by exact sameC_none rfl) : @OStop (sgL M vals) _ P N B w0 Q o := by
  letI := sgL M vals
  refine ostop_call (R := fun w v w' => ∃ y M', v = @interp (sgL M' (vals2 y)) vR ∧ R y M' ∧ Turns B M M' T w w') h (fun a w hh => (hcon w hh.immW hh.size).mono fun e w' he => ?_) fun a w v w' hh hR => ?_
  · obtain ⟨y, M', rfl, h1, h2⟩ := he
    exact ⟨_, rfl, y, M', rfl, h1, h2⟩
  · obtain ⟨y, M', rfl, h1, h2⟩ := hR
    have hh2 := Here.turns (vals' := vals2 y) htr (hm M' y h1) h2 hn hc hh
    exact rest M' y h1 _ w' (@Here.put (sgL M' (vals2 y)) _ _ _ _ _ _ _ _ _ _ hh2 hpl hput)

/-- A call that hands back a new array, met where memory is known by M. -/
theorem turns_new {α : Type} {B : Nat} {M : Mem} {e : TypeId} {k : Nat} {enc : α → List Value} {v : Value} {l : List α} {w w' : World} (hw : ∀ i o, M i = some o → w.heap[i]? = some o) (hB : B ≤ w.heap.size) (hO : OArr w.heap.size (heapOf w') e k enc v l) (hb : Low w.heap.size w w') :
    OArr B (memTo M w' none (obl v)) e k enc v l ∧ Turns B M (memTo M w' none (obl v)) none w w' ∧ Keeps M (memTo M w' none (obl v)) none := by
  obtain ⟨q1, q2⟩ := turns_memTo (B := B) (M := M) (T := none) (U := obl v) hw (fun i h => by cases h) (fun i hi => .inr (hO.known i hi).2) ⟨hb.below.os, hb.below.tape, hb.below.output⟩ hb.drawn hb.size (fun i hi _ => hb.block i hi)
  refine ⟨hO.mono hB fun i hi o ho => ?_, q1, q2⟩
  unfold memTo
  rw [if_pos hi]
  exact ho

/- DRAWN REGIONS BY ALL THEIR ORDERS -/

/- SMALL LEMMAS FOR PRINTED WALKS -/

theorem lenMax {n : Nat} (h : n ≤ 1000000) : n ≤ maxLen := Nat.le_trans h (by unfold maxLen; decide)

theorem newOf {α : Type} {P : Program} {f : FuncId} {args : Array Value} {B : Nat} {M : Mem} {e : TypeId} {k : Nat} {enc : α → List Value} {l : List α} {w : World} {vR : Value} {vals2 : Option Addr × Nat → List Value} (hw : ∀ i o, M i = some o → w.heap[i]? = some o) (hB : B ≤ w.heap.size)
    (hv : ∀ y M', @interp (sgL M' (vals2 y)) vR = .slice y.1 l.length y.2) (h : Calls P f args w fun e' w' => (∃ a c, e' = .returned (.slice a l.length c) ∧ OArr w.heap.size (heapOf w') e k enc (.slice a l.length c) l) ∧ Low w.heap.size w w') :
    Calls P f args w fun e' w' => ∃ y M', e' = .returned (@interp (sgL M' (vals2 y)) vR) ∧ (OArr B M' e k enc (.slice y.1 l.length y.2) l ∧ Keeps M M' none) ∧ Turns B M M' none w w' :=
  h.mono fun e' w' he => by
    obtain ⟨⟨a, c, rfl, hO⟩, hb⟩ := he
    obtain ⟨q1, q2, q3⟩ := turns_new hw hB hO hb
    exact ⟨(a, c), _, by rw [hv], ⟨q1, q3⟩, q2⟩

theorem newEnd_nil {α : Type} {B : Nat} {M : Mem} {e : TypeId} {k : Nat} {enc : α → List Value} {l : List α} (h : l = []) : ∃ a c, Ending.returned (.slice none 0 0) = .returned (.slice a l.length c) ∧ OArr B M e k enc (.slice a l.length c) l := by
  subst h
  exact ⟨none, 0, rfl, OArr.nil _ _ _ _ _ _⟩

theorem newEnd {α : Type} {B : Nat} {M : Mem} {e : TypeId} {k : Nat} {enc : α → List Value} {l b : List α} {a : Option Addr} {c : Nat} {w : World} (hO : OArr B M e k enc (.slice a b.length c) b) (hb : b = l) (hi : ∀ i o, M i = some o → w.heap[i]? = some o) : ∃ a' c', Ending.returned (.slice a b.length c) = .returned (.slice a' l.length c') ∧ OArr B (heapOf w) e k enc (.slice a' l.length c') l := by
  subst hb
  exact ⟨a, c, rfl, hO.mono (Nat.le_refl _) fun i _ o ho => hi i o ho⟩

section
variable [Sig] {P : Program}

end

end AE
end Go.Proofs.YtheaofepenbcgaaGreatDoor

/- Stamps in the walks: how they lie in memory, their equality, small lemmas for facts. -/
namespace Go.Proofs.YtheaofepenbcgaaGreatDoor
open Go Go.Proofs Go.RowKit
namespace AE

theorem boolT {p : Prop} [Decidable p] (h : p) : Value.bool true = .bool (decide p) := by rw [decide_eq_true h]
theorem boolF {p : Prop} [Decidable p] (h : ¬ p) : Value.bool false = .bool (decide p) := by rw [decide_eq_false h]
theorem nboolT {p : Prop} [Decidable p] (h : ¬ p) : Value.bool true = .bool (!decide p) := by rw [decide_eq_false h]; rfl
theorem nboolF {p : Prop} [Decidable p] (h : p) : Value.bool false = .bool (!decide p) := by rw [decide_eq_true h]; rfl
theorem intI {a b : Int} (h : a = b) (h1 : -9223372036854775808 ≤ a) (h2 : a ≤ 9223372036854775807) : Value.int .i64 a = .int .i64 (IntKind.i64.wrap b) := by rw [← h, wrap64 h1 h2]
theorem getSome {α : Type} [Inhabited α] {l : List α} {i : Nat} (h : i < l.length) : l[i]? = some (l.getD i default) := by rw [List.getD_eq_getElem?_getD, List.getElem?_eq_getElem h]; rfl

abbrev St := Int × Int × Int × Int
abbrev St.val (x : St) : Value := stV x.1 x.2.1 x.2.2.1 x.2.2.2
abbrev encS (x : St) : List Value := [.int .i64 x.1, .int .i64 x.2.1, .int .i64 x.2.2.1, .int .i64 x.2.2.2]

theorem under27 : Tryz.prog.underlying 22 = some (.slice 24) := by kernel_rfl
theorem sizeSt : pureRun Tryz.prog (sizeOf 24) = some 4 := by kernel_rfl
theorem aggSt : pureRun Tryz.prog (isAgg 24) = some true := by kernel_rfl

theorem eqSt_iff (p q : St) : eqSt p.1 p.2.1 p.2.2.1 p.2.2.2 q.1 q.2.1 q.2.2.1 q.2.2.2 = decide (p = q) := by
  obtain ⟨a, b, c, d⟩ := p
  obtain ⟨a', b', c', d'⟩ := q
  unfold eqSt
  simp

theorem eqS {x y : Value} {p q : St} [Sig] (hx : plainS x = true) (hy : plainS y = true) (ex : interp x = p.val) (ey : interp y = q.val) {d : Bool} (hd : d = decide (p = q)) : FactOk Tryz.prog (.bin .eql 24 x y, .bool d) := by
  refine fact_bin hx hy rfl ex ey fun xo yo w => ?_
  unfold semF
  simp only [Sem.run_bind, run_eqGuard_agg w .eql _ xo yo _ _ guardS, Result.andThen_ok, run_eql_struct, run_eqSt, hd, eqSt_iff]
  rfl

/-- What a valid stamp is. -/
def ValidP (x : St) : Prop := 0 ≤ x.1 ∧ x.1 ≤ 4000 ∧ 1 ≤ x.2.1 ∧ x.2.1 ≤ 1000000 ∧ 1 ≤ x.2.2.1 ∧ x.2.2.1 ≤ 8 ∧ 1 ≤ x.2.2.2 ∧ x.2.2.2 ≤ 1000
instance (x : St) : Decidable (ValidP x) := by unfold ValidP; infer_instance

end AE
end Go.Proofs.YtheaofepenbcgaaGreatDoor

/- Stamps: facts of their type for arrays of the call's own. -/
namespace Go.Proofs.YtheaofepenbcgaaGreatDoor
open Go Go.Proofs Go.RowKit
namespace AE

theorem sizeInt1 : pureRun Tryz.prog (sizeOf 3) = some 1 := by kernel_rfl
abbrev elS : TypeId := 24
theorem pUnderS : pureRun Tryz.prog (underlying elS) = some (.struct (Tryz.prog.fieldsOf 24)) := by kernel_rfl
theorem natI {a : Int} (h : 0 ≤ a) : Value.int .i64 a = .int .i64 ((a.toNat : Nat) : Int) := by rw [Int.toNat_of_nonneg h]

theorem fieldS (i : Nat) (hi : i < 4) : ∃ fl, (Tryz.prog.fieldsOf 24)[i]? = some fl ∧ fl.type = 3 ∧ fl.offset = i := by
  have h1 := congrArg (fun l => l[i]?) fieldsS1
  have h2 := congrArg (fun l => l[i]?) fieldsS2
  simp only [List.getElem?_map, Array.getElem?_toList] at h1 h2
  cases h : (Tryz.prog.fieldsOf 24)[i]? with
  | none =>
    rw [h] at h1
    rcases (by omega : i = 0 ∨ i = 1 ∨ i = 2 ∨ i = 3) with rfl | rfl | rfl | rfl <;> cases h1
  | some fl =>
    rw [h] at h1 h2
    refine ⟨fl, rfl, ?_, ?_⟩
    · rcases (by omega : i = 0 ∨ i = 1 ∨ i = 2 ∨ i = 3) with rfl | rfl | rfl | rfl <;>
        · simp only [Option.map_some, List.getElem?_cons_zero, List.getElem?_cons_succ, Option.some.injEq, Prod.mk.injEq] at h1
          exact h1.2
    · rcases (by omega : i = 0 ∨ i = 1 ∨ i = 2 ∨ i = 3) with rfl | rfl | rfl | rfl <;>
        · simp only [Option.map_some, List.getElem?_cons_zero, List.getElem?_cons_succ, Option.some.injEq] at h2
          exact h2

theorem arrFaS [Sig] {α : Type} {k : Nat} {enc : α → List Value} {v : Value} {l : List α} (f : Nat) (hf : f < 4) (h : Arr Sig.imm k enc v l) {n : Nat} (hn : n < l.length) {x r : Value} {o : Nat} (hx : plainS x = true) (hr : plainS r = true) (ex : interp x = cellPtr v o) (er : interp r = cellPtr v (o + f)) : FactOk Tryz.prog (.fa elS x f, r) := by
  obtain ⟨fl, h1, h2, h3⟩ := fieldS f hf
  obtain ⟨b, off, c, _, _, _, hv, _⟩ := h.at' (List.getElem?_eq_getElem hn)
  exact FactOk.arrFa (n := 1) hx hr pUnderS h1 (by rw [h2]; exact sizeInt1) (by decide) ⟨b, off, _, c, hv⟩ (by rw [h3]) ex er

section
variable [Sig] {α : Type} {k : Nat} {enc : α → List Value} {v : Value} {l : List α} {n o : Nat} {x r : Value}
theorem arrFa0 (h : Arr Sig.imm k enc v l) (hn : n < l.length) (hx : plainS x = true) (hr : plainS r = true) (ex : interp x = cellPtr v o) (er : interp r = cellPtr v (o + 0)) : FactOk Tryz.prog (.fa elS x 0, r) := arrFaS 0 (by omega) h hn hx hr ex er
theorem arrFa1 (h : Arr Sig.imm k enc v l) (hn : n < l.length) (hx : plainS x = true) (hr : plainS r = true) (ex : interp x = cellPtr v o) (er : interp r = cellPtr v (o + 1)) : FactOk Tryz.prog (.fa elS x 1, r) := arrFaS 1 (by omega) h hn hx hr ex er
theorem arrFa2 (h : Arr Sig.imm k enc v l) (hn : n < l.length) (hx : plainS x = true) (hr : plainS r = true) (ex : interp x = cellPtr v o) (er : interp r = cellPtr v (o + 2)) : FactOk Tryz.prog (.fa elS x 2, r) := arrFaS 2 (by omega) h hn hx hr ex er
theorem arrFa3 (h : Arr Sig.imm k enc v l) (hn : n < l.length) (hx : plainS x = true) (hr : plainS r = true) (ex : interp x = cellPtr v o) (er : interp r = cellPtr v (o + 3)) : FactOk Tryz.prog (.fa elS x 3, r) := arrFaS 3 (by omega) h hn hx hr ex er
end

end AE
end Go.Proofs.YtheaofepenbcgaaGreatDoor

/- Arguments of the stamps' laws, opened: a stamp, a slice of stamps; arguments read in a world that has grown. -/
namespace Go.Proofs.YtheaofepenbcgaaGreatDoor
open Go Go.ChangeShapes Go.WideShapes Go.ChangeAt Go.RowKit
set_option maxRecDepth 100000

theorem own : ownKnob Tryz.prog.godebug = none := by kernel_rfl
theorem laidOut : laidOutB Tryz.prog = true := by kernel_rfl

/-- Arguments read in a world that has grown as they did before. -/
theorem trodAll_below {H : Type} {enc : TypeId × Value → H} {P : Program} (hl : laidOutB P = true) {W W' : World} (hb : Below W.heap.size W W') : ∀ (ts : List TypeId) (vs : List Value) (ds : List (DataW H)) (ps : List MemPlace),
    ts.all (fun t => P.readableRec t && decide (t < P.types.size)) = true → DataW.TrodAll enc P W 0 (fun _ => true) true ts vs ds ps → (∀ x ∈ ps, x.block < W.heap.size) → DataW.TrodAll enc P W' 0 (fun b => decide (b < W.heap.size)) true ts vs ds ps
  | [], [], [], ps, _, h, _ => h
  | t :: ts, v :: vs, d :: ds, ps, ht, h, hlt => by
    obtain ⟨p, q, h1, h2, rfl⟩ := h
    simp only [List.all_cons, Bool.and_eq_true, decide_eq_true_eq] at ht
    exact ⟨p, q, Below.trod hl ht.1.1 ht.1.2 h1 hb (fun x hx => hlt x (List.mem_append_left _ hx)), trodAll_below hl hb ts vs ds q ht.2 h2 fun x hx => hlt x (List.mem_append_right _ hx), rfl⟩
  | [], _ :: _, _, _, _, h, _ => by cases h
  | [], [], _ :: _, _, _, h, _ => by cases h
  | _ :: _, [], _, _, _, h, _ => by cases h
  | _ :: _, _ :: _, [], _, _, h, _ => by cases h

theorem cellsS : Tryz.prog.cellsOf 24 = 4 := by kernel_rfl
theorem cellsInt : Tryz.prog.cellsOf 3 = 1 := by kernel_rfl

section
variable {H : Type} {enc : TypeId × Value → H} {W : World} {r : Reach} {b0 : Nat} {base : Nat} {spare : Nat → Bool} {held : Bool} {v : Value} {d : DataW H} {p : List MemPlace}

/-- An int among the arguments. -/
theorem open_num (hv : Value.okWide Tryz.prog W r b0 3 v) (h : DataW.Trod enc Tryz.prog W base spare held 3 v d p) : ∃ n : Int, v = .int .i64 n := by
  obtain ⟨n, rfl⟩ := okWide_int Tryz.underlying3 hv
  exact ⟨n, rfl⟩

/-- The four cells of a stamp in memory. -/
theorem trod_stamp {n : Nat} {cs : List Value} {x : DataW H × List MemPlace} (h : DataW.trod enc Tryz.prog W base spare held n 24 cs = some x) : ∃ s : AE.St, cs = AE.encS s := by
  obtain ⟨xs, m, _, _, hlen, hxl, hf⟩ := DataW.trod_struct AE.underS h
  rw [cellsS] at hlen
  have hi : ∀ i, i < 4 → ∃ z : Int, (cs.drop i).take 1 = [.int .i64 z] := fun i h4 => by
    obtain ⟨fl, h1, h2, h3⟩ := AE.fieldS i h4
    have h5 := hf i fl h1
    rw [h2, h3, cellsInt] at h5
    have hlt : i < xs.length := by rw [hxl]; exact (Array.getElem?_eq_some_iff.1 h1).1
    rw [List.getElem?_eq_getElem hlt] at h5
    obtain ⟨z, e, _⟩ := DataW.trod_int Tryz.underlying3 h5
    exact ⟨z, e⟩
  obtain ⟨z0, e0⟩ := hi 0 (by omega)
  obtain ⟨z1, e1⟩ := hi 1 (by omega)
  obtain ⟨z2, e2⟩ := hi 2 (by omega)
  obtain ⟨z3, e3⟩ := hi 3 (by omega)
  match cs, hlen, e0, e1, e2, e3 with
  | [c0, c1, c2, c3], _, e0, e1, e2, e3 =>
    simp only [List.drop_zero, List.drop_succ_cons, List.take_succ_cons, List.take_zero, List.cons.injEq, and_true] at e0 e1 e2 e3
    exact ⟨(z0, z1, z2, z3), by rw [e0, e1, e2, e3]⟩

/-- A slice of stamps among the arguments, as a list. -/
theorem open_stamps (hv : Value.okWide Tryz.prog W r b0 22 v) (h : DataW.Trod enc Tryz.prog W base spare held 22 v d p) : ∃ l : List AE.St, AE.Arr (AE.heapOf W) 4 AE.encS v l := by
  obtain ⟨a0, len0, cap0, rfl⟩ := okWide_slice Tryz.underlying22 hv
  obtain ⟨fuel, h⟩ := h
  rcases Deep.open_slice Tryz.underlying22 h with ⟨hcs, _⟩ | ⟨a, len, cap, m, n, D, Pl, hcs, hb, hl, hm, hmm, hx, hi⟩
  · have e : Value.slice a0 len0 cap0 = .slice none 0 0 := (List.cons.inj (show [Value.slice a0 len0 cap0] = [.slice none 0 0] from hcs)).1
    rw [e]
    exact ⟨[], .nil _ _⟩
  · have e : Value.slice a0 len0 cap0 = .slice (some a) len cap := (List.cons.inj (show [Value.slice a0 len0 cap0] = [.slice (some a) len cap] from hcs)).1
    rw [e]
    have hml : len ≤ m := by rw [hmm]; split <;> omega
    have hel : ∀ i, i < len → ∃ s : AE.St, ∀ j u, (AE.encS s)[j]? = some u → W.cell? (a.add (i * 4 + j)) = some u := fun i hil => by
      obtain ⟨cs', hc, ht⟩ := hi i (by omega)
      rw [cellsS] at hc
      obtain ⟨s, rfl⟩ := trod_stamp ht
      obtain ⟨_, _, hat⟩ := World.cells?_some hc
      refine ⟨s, fun j u hj => ?_⟩
      have hj4 : j < 4 := (List.getElem?_eq_some_iff.1 hj).1
      rw [← Deep.add_add, hat j hj4]
      exact hj
    let f : Nat → AE.St := fun i => if h : i < len then (hel i h).choose else default
    have hf : ∀ i, i < len → ∀ j u, (AE.encS (f i))[j]? = some u → W.cell? (a.add (i * 4 + j)) = some u := fun i hil => by
      show ∀ j u, (AE.encS (if h : i < len then (hel i h).choose else default))[j]? = some u → _
      rw [dif_pos hil]
      exact (hel i hil).choose_spec
    refine ⟨(List.range len).map f, ?_⟩
    rcases Nat.eq_zero_or_pos len with h0 | h0
    · subst h0
      exact .nil _ _
    · have hc0 := hf 0 h0 0 _ rfl
      obtain ⟨blk, off, spot⟩ := a
      have hsome : ∃ cs ty fr, W.heap[blk]? = some (.cells cs ty fr) ∧ spot = none := by
        unfold World.cell? at hc0
        split at hc0
        · rename_i c1 t1 f1 hb1
          split at hc0
          · cases hc0
          · rename_i hsp
            refine ⟨c1, t1, f1, hb1, ?_⟩
            cases spot with
            | none => rfl
            | some x => exact absurd rfl hsp
        · cases hc0
      obtain ⟨cs, ty, fr, hblk, rfl⟩ := hsome
      have hlen : ((List.range len).map f).length = len := by simp
      have key : AE.Arr (AE.heapOf W) 4 AE.encS (.slice (some ⟨blk, off, none⟩) ((List.range len).map f).length cap) ((List.range len).map f) := by
        refine .mk (cs := cs) (ty := ty) (fr := fr) hblk (by rw [hlen]; exact hl) fun i x hx j u hj => ?_
        have hil : i < len := by
          have := (List.getElem?_eq_some_iff.1 hx).1
          rwa [hlen] at this
        have hxf : x = f i := by
          rw [List.getElem?_map, List.getElem?_range hil] at hx
          exact (Option.some.inj hx).symm
        subst hxf
        have := hf i hil j u hj
        rw [AE.Addr.add_at, cell_of_row W _ _ _ _ _ hblk, ← Nat.add_assoc] at this
        exact this
      rw [hlen] at key
      exact key
end

end Go.Proofs.YtheaofepenbcgaaGreatDoor

/- Valid of the program, for all stamps -/
namespace Go.Proofs.YtheaofepenbcgaaGreatDoor
open Go Go.Proofs Go.RowKit
namespace AE
namespace ValidG
set_option maxRecDepth 100000
noncomputable def body : Code := (Tryz.f10.body).getD .skip
def N : Nat := 28
noncomputable abbrev at' (N : Nat) (F : List (FOp × Value)) (C : List (FuncId × List Value × Value)) (c : Code) (s : ASt) : Option Stop := evalTo Tryz.prog F C N 1000 10 c s
noncomputable abbrev leave' (N : Nat) (F : List (FOp × Value)) (C : List (FuncId × List Value × Value)) (ks : List KI) (o : Option Stop) : Option Stop := evalLeave Tryz.prog F C N 1000 10 ks o
noncomputable abbrev unr' (N : Nat) (F : List (FOp × Value)) (C : List (FuncId × List Value × Value)) (m : Nat) (o : Option Stop) : Option Stop := evalUnroll Tryz.prog F C N 1000 10 m o
noncomputable abbrev res' (N : Nat) (F : List (FOp × Value)) (C : List (FuncId × List Value × Value)) (ks : List KI) (x : AX) (s : ASt) : Option Stop := evalRes Tryz.prog F C N 1000 10 ks x s
noncomputable abbrev ops' (N : Nat) (F : List (FOp × Value)) (C : List (FuncId × List Value × Value)) (r : List Oper) (ops : Array Oper) (ks : List KI) (s : ASt) : Option Stop := evalOps Tryz.prog F C N 1000 10 r ops ks s
def s0 : ASt := { sl := slots [(0, .agg ⟨[symv 0, symv 1, symv 2, symv 3]⟩)], ms := [], A := start }
def F0 : List (FOp × Value) := [(.bin .lss 3 (symv 0) (.int .i64 0), .bool true)]
def C0 : List (FuncId × List Value × Value) := []
theorem e0 : endVal Tryz.prog Tryz.f10 (at' 28 F0 C0 body s0) = some (.bool false) := by kernel_rfl
def F1 : List (FOp × Value) := [(.bin .lss 3 (symv 0) (.int .i64 0), .bool false),
    (.bin .gtr 3 (symv 0) (.int .i64 4000), .bool true)]
def C1 : List (FuncId × List Value × Value) := []
theorem e1 : endVal Tryz.prog Tryz.f10 (at' 28 F1 C1 body s0) = some (.bool false) := by kernel_rfl
def F2 : List (FOp × Value) := [(.bin .lss 3 (symv 0) (.int .i64 0), .bool false),
    (.bin .gtr 3 (symv 0) (.int .i64 4000), .bool false),
    (.bin .lss 3 (symv 1) (.int .i64 1), .bool true)]
def C2 : List (FuncId × List Value × Value) := []
theorem e2 : endVal Tryz.prog Tryz.f10 (at' 28 F2 C2 body s0) = some (.bool false) := by kernel_rfl
def F3 : List (FOp × Value) := [(.bin .lss 3 (symv 0) (.int .i64 0), .bool false),
    (.bin .gtr 3 (symv 0) (.int .i64 4000), .bool false),
    (.bin .lss 3 (symv 1) (.int .i64 1), .bool false),
    (.bin .gtr 3 (symv 1) (.int .i64 1000000), .bool true)]
def C3 : List (FuncId × List Value × Value) := []
theorem e3 : endVal Tryz.prog Tryz.f10 (at' 28 F3 C3 body s0) = some (.bool false) := by kernel_rfl
def F4 : List (FOp × Value) := [(.bin .lss 3 (symv 0) (.int .i64 0), .bool false),
    (.bin .gtr 3 (symv 0) (.int .i64 4000), .bool false),
    (.bin .lss 3 (symv 1) (.int .i64 1), .bool false),
    (.bin .gtr 3 (symv 1) (.int .i64 1000000), .bool false),
    (.bin .lss 3 (symv 2) (.int .i64 1), .bool true)]
def C4 : List (FuncId × List Value × Value) := []
theorem e4 : endVal Tryz.prog Tryz.f10 (at' 28 F4 C4 body s0) = some (.bool false) := by kernel_rfl
def F5 : List (FOp × Value) := [(.bin .lss 3 (symv 0) (.int .i64 0), .bool false),
    (.bin .gtr 3 (symv 0) (.int .i64 4000), .bool false),
    (.bin .lss 3 (symv 1) (.int .i64 1), .bool false),
    (.bin .gtr 3 (symv 1) (.int .i64 1000000), .bool false),
    (.bin .lss 3 (symv 2) (.int .i64 1), .bool false),
    (.bin .gtr 3 (symv 2) (.int .i64 8), .bool true)]
def C5 : List (FuncId × List Value × Value) := []
theorem e5 : endVal Tryz.prog Tryz.f10 (at' 28 F5 C5 body s0) = some (.bool false) := by kernel_rfl
def F6 : List (FOp × Value) := [(.bin .lss 3 (symv 0) (.int .i64 0), .bool false),
    (.bin .gtr 3 (symv 0) (.int .i64 4000), .bool false),
    (.bin .lss 3 (symv 1) (.int .i64 1), .bool false),
    (.bin .gtr 3 (symv 1) (.int .i64 1000000), .bool false),
    (.bin .lss 3 (symv 2) (.int .i64 1), .bool false),
    (.bin .gtr 3 (symv 2) (.int .i64 8), .bool false),
    (.bin .lss 3 (symv 3) (.int .i64 1), .bool true)]
def C6 : List (FuncId × List Value × Value) := []
theorem e6 : endVal Tryz.prog Tryz.f10 (at' 28 F6 C6 body s0) = some (.bool false) := by kernel_rfl
def F7 : List (FOp × Value) := [(.bin .lss 3 (symv 0) (.int .i64 0), .bool false),
    (.bin .gtr 3 (symv 0) (.int .i64 4000), .bool false),
    (.bin .lss 3 (symv 1) (.int .i64 1), .bool false),
    (.bin .gtr 3 (symv 1) (.int .i64 1000000), .bool false),
    (.bin .lss 3 (symv 2) (.int .i64 1), .bool false),
    (.bin .gtr 3 (symv 2) (.int .i64 8), .bool false),
    (.bin .lss 3 (symv 3) (.int .i64 1), .bool false),
    (.bin .gtr 3 (symv 3) (.int .i64 1000), .bool true)]
def C7 : List (FuncId × List Value × Value) := []
theorem e7 : endVal Tryz.prog Tryz.f10 (at' 28 F7 C7 body s0) = some (.bool false) := by kernel_rfl
def F8 : List (FOp × Value) := [(.bin .lss 3 (symv 0) (.int .i64 0), .bool false),
    (.bin .gtr 3 (symv 0) (.int .i64 4000), .bool false),
    (.bin .lss 3 (symv 1) (.int .i64 1), .bool false),
    (.bin .gtr 3 (symv 1) (.int .i64 1000000), .bool false),
    (.bin .lss 3 (symv 2) (.int .i64 1), .bool false),
    (.bin .gtr 3 (symv 2) (.int .i64 8), .bool false),
    (.bin .lss 3 (symv 3) (.int .i64 1), .bool false),
    (.bin .gtr 3 (symv 3) (.int .i64 1000), .bool false)]
def C8 : List (FuncId × List Value × Value) := []
theorem e8 : endVal Tryz.prog Tryz.f10 (at' 28 F8 C8 body s0) = some (.bool true) := by kernel_rfl
@[reducible] noncomputable def vL (x : St) : List Value := [.int .i64 x.1, .int .i64 x.2.1, .int .i64 x.2.2.1, .int .i64 x.2.2.2]
@[reducible] noncomputable def sg (M : Mem) (x : St) : Sig := sgL M (vL x)
set_option maxHeartbeats 4000000 in
set_option maxRecDepth 100000 in
theorem any (W : World) (x : St)  : Calls Tryz.prog 10 #[St.val x] W fun e w' => e = .returned (.bool (decide (ValidP x))) ∧ Low W.heap.size W w' := by
  refine @walk_enter (sg (heapOf W) x ) Tryz.prog 10 Tryz.f10 body [.agg ⟨[symv 0, symv 1, symv 2, symv 3]⟩] (slots [(0, .agg ⟨[symv 0, symv 1, symv 2, symv 3]⟩)]) N W _ Tryz.func10 (by kernel_rfl) (by kernel_rfl) (by kernel_rfl) (by kernel_rfl) (immW_sgL W _) fun a hh => ?_
  letI := (sg (heapOf W) x )
  by_cases h0 : x.1 < 0
  · refine walk_to (F := F0) (T := C0) (fuel := 1000) (d := 10) mixed (allF_cons (FactOk.bi rfl rfl rfl rfl rfl rfl (boolT (by omega))) allF_nil) allC_nil ?_ hh
    exact ostop_end e0 fun w2 hLow hIn => ⟨(by show Ending.returned (.bool _) = _; congr 2; first | exact (decide_eq_true (by unfold ValidP; omega)).symm | exact (decide_eq_false (by unfold ValidP; omega)).symm), hLow⟩ 
  · by_cases h1 : 4000 < x.1
    · refine walk_to (F := F1) (T := C1) (fuel := 1000) (d := 10) mixed (allF_cons (FactOk.bi rfl rfl rfl rfl rfl rfl (boolF (by omega))) (allF_cons (FactOk.bi rfl rfl rfl rfl rfl rfl (boolT (by omega))) allF_nil)) allC_nil ?_ hh
      exact ostop_end e1 fun w2 hLow hIn => ⟨(by show Ending.returned (.bool _) = _; congr 2; first | exact (decide_eq_true (by unfold ValidP; omega)).symm | exact (decide_eq_false (by unfold ValidP; omega)).symm), hLow⟩ 
    · by_cases h2 : x.2.1 < 1
      · refine walk_to (F := F2) (T := C2) (fuel := 1000) (d := 10) mixed (allF_cons (FactOk.bi rfl rfl rfl rfl rfl rfl (boolF (by omega))) (allF_cons (FactOk.bi rfl rfl rfl rfl rfl rfl (boolF (by omega))) (allF_cons (FactOk.bi rfl rfl rfl rfl rfl rfl (boolT (by omega))) allF_nil))) allC_nil ?_ hh
        exact ostop_end e2 fun w2 hLow hIn => ⟨(by show Ending.returned (.bool _) = _; congr 2; first | exact (decide_eq_true (by unfold ValidP; omega)).symm | exact (decide_eq_false (by unfold ValidP; omega)).symm), hLow⟩ 
      · by_cases h3 : 1000000 < x.2.1
        · refine walk_to (F := F3) (T := C3) (fuel := 1000) (d := 10) mixed (allF_cons (FactOk.bi rfl rfl rfl rfl rfl rfl (boolF (by omega))) (allF_cons (FactOk.bi rfl rfl rfl rfl rfl rfl (boolF (by omega))) (allF_cons (FactOk.bi rfl rfl rfl rfl rfl rfl (boolF (by omega))) (allF_cons (FactOk.bi rfl rfl rfl rfl rfl rfl (boolT (by omega))) allF_nil)))) allC_nil ?_ hh
          exact ostop_end e3 fun w2 hLow hIn => ⟨(by show Ending.returned (.bool _) = _; congr 2; first | exact (decide_eq_true (by unfold ValidP; omega)).symm | exact (decide_eq_false (by unfold ValidP; omega)).symm), hLow⟩ 
        · by_cases h4 : x.2.2.1 < 1
          · refine walk_to (F := F4) (T := C4) (fuel := 1000) (d := 10) mixed (allF_cons (FactOk.bi rfl rfl rfl rfl rfl rfl (boolF (by omega))) (allF_cons (FactOk.bi rfl rfl rfl rfl rfl rfl (boolF (by omega))) (allF_cons (FactOk.bi rfl rfl rfl rfl rfl rfl (boolF (by omega))) (allF_cons (FactOk.bi rfl rfl rfl rfl rfl rfl (boolF (by omega))) (allF_cons (FactOk.bi rfl rfl rfl rfl rfl rfl (boolT (by omega))) allF_nil))))) allC_nil ?_ hh
            exact ostop_end e4 fun w2 hLow hIn => ⟨(by show Ending.returned (.bool _) = _; congr 2; first | exact (decide_eq_true (by unfold ValidP; omega)).symm | exact (decide_eq_false (by unfold ValidP; omega)).symm), hLow⟩ 
          · by_cases h5 : 8 < x.2.2.1
            · refine walk_to (F := F5) (T := C5) (fuel := 1000) (d := 10) mixed (allF_cons (FactOk.bi rfl rfl rfl rfl rfl rfl (boolF (by omega))) (allF_cons (FactOk.bi rfl rfl rfl rfl rfl rfl (boolF (by omega))) (allF_cons (FactOk.bi rfl rfl rfl rfl rfl rfl (boolF (by omega))) (allF_cons (FactOk.bi rfl rfl rfl rfl rfl rfl (boolF (by omega))) (allF_cons (FactOk.bi rfl rfl rfl rfl rfl rfl (boolF (by omega))) (allF_cons (FactOk.bi rfl rfl rfl rfl rfl rfl (boolT (by omega))) allF_nil)))))) allC_nil ?_ hh
              exact ostop_end e5 fun w2 hLow hIn => ⟨(by show Ending.returned (.bool _) = _; congr 2; first | exact (decide_eq_true (by unfold ValidP; omega)).symm | exact (decide_eq_false (by unfold ValidP; omega)).symm), hLow⟩ 
            · by_cases h6 : x.2.2.2 < 1
              · refine walk_to (F := F6) (T := C6) (fuel := 1000) (d := 10) mixed (allF_cons (FactOk.bi rfl rfl rfl rfl rfl rfl (boolF (by omega))) (allF_cons (FactOk.bi rfl rfl rfl rfl rfl rfl (boolF (by omega))) (allF_cons (FactOk.bi rfl rfl rfl rfl rfl rfl (boolF (by omega))) (allF_cons (FactOk.bi rfl rfl rfl rfl rfl rfl (boolF (by omega))) (allF_cons (FactOk.bi rfl rfl rfl rfl rfl rfl (boolF (by omega))) (allF_cons (FactOk.bi rfl rfl rfl rfl rfl rfl (boolF (by omega))) (allF_cons (FactOk.bi rfl rfl rfl rfl rfl rfl (boolT (by omega))) allF_nil))))))) allC_nil ?_ hh
                exact ostop_end e6 fun w2 hLow hIn => ⟨(by show Ending.returned (.bool _) = _; congr 2; first | exact (decide_eq_true (by unfold ValidP; omega)).symm | exact (decide_eq_false (by unfold ValidP; omega)).symm), hLow⟩ 
              · by_cases h7 : 1000 < x.2.2.2
                · refine walk_to (F := F7) (T := C7) (fuel := 1000) (d := 10) mixed (allF_cons (FactOk.bi rfl rfl rfl rfl rfl rfl (boolF (by omega))) (allF_cons (FactOk.bi rfl rfl rfl rfl rfl rfl (boolF (by omega))) (allF_cons (FactOk.bi rfl rfl rfl rfl rfl rfl (boolF (by omega))) (allF_cons (FactOk.bi rfl rfl rfl rfl rfl rfl (boolF (by omega))) (allF_cons (FactOk.bi rfl rfl rfl rfl rfl rfl (boolF (by omega))) (allF_cons (FactOk.bi rfl rfl rfl rfl rfl rfl (boolF (by omega))) (allF_cons (FactOk.bi rfl rfl rfl rfl rfl rfl (boolF (by omega))) (allF_cons (FactOk.bi rfl rfl rfl rfl rfl rfl (boolT (by omega))) allF_nil)))))))) allC_nil ?_ hh
                  exact ostop_end e7 fun w2 hLow hIn => ⟨(by show Ending.returned (.bool _) = _; congr 2; first | exact (decide_eq_true (by unfold ValidP; omega)).symm | exact (decide_eq_false (by unfold ValidP; omega)).symm), hLow⟩ 
                · refine walk_to (F := F8) (T := C8) (fuel := 1000) (d := 10) mixed (allF_cons (FactOk.bi rfl rfl rfl rfl rfl rfl (boolF (by omega))) (allF_cons (FactOk.bi rfl rfl rfl rfl rfl rfl (boolF (by omega))) (allF_cons (FactOk.bi rfl rfl rfl rfl rfl rfl (boolF (by omega))) (allF_cons (FactOk.bi rfl rfl rfl rfl rfl rfl (boolF (by omega))) (allF_cons (FactOk.bi rfl rfl rfl rfl rfl rfl (boolF (by omega))) (allF_cons (FactOk.bi rfl rfl rfl rfl rfl rfl (boolF (by omega))) (allF_cons (FactOk.bi rfl rfl rfl rfl rfl rfl (boolF (by omega))) (allF_cons (FactOk.bi rfl rfl rfl rfl rfl rfl (boolF (by omega))) allF_nil)))))))) allC_nil ?_ hh
                  exact ostop_end e8 fun w2 hLow hIn => ⟨(by show Ending.returned (.bool _) = _; congr 2; first | exact (decide_eq_true (by unfold ValidP; omega)).symm | exact (decide_eq_false (by unfold ValidP; omega)).symm), hLow⟩ 
end ValidG
end AE
end Go.Proofs.YtheaofepenbcgaaGreatDoor

/- Calls of the stamp functions, by contract. -/
namespace Go.Proofs.YtheaofepenbcgaaGreatDoor
open Go Go.Proofs Go.RowKit
namespace AE
variable [Sig]

theorem callAny {P : Program} {f : FuncId} {args : List Value} {v : Value} {a : Array Value} {u : Value} (hp : plainSL args = true) (hv : plainS v = true) (ha : interpL args = a.toList) (hu : interp v = u)
    (h : ∀ w, ImmW w → Calls P f a w fun e w' => e = .returned u ∧ Low w.heap.size w w') : CallFactOk P (f, args, v) :=
  ⟨hp, hv, fun w hw => by show Calls P f ⟨interpL args⟩ w _; rw [ha, hu]; exact h w hw⟩

theorem callValidT {v : Value} {x : St} (hp : plainSL [v] = true) (ev : interpL [v] = [x.val]) (h : ValidP x) : CallFactOk Tryz.prog (10, [v], .bool true) :=
  callAny (a := #[x.val]) hp rfl ev rfl fun w _ => (ValidG.any w x).mono fun e w' h' => by rw [decide_eq_true h] at h'; exact h'
theorem callValidF {v : Value} {x : St} (hp : plainSL [v] = true) (ev : interpL [v] = [x.val]) (h : ¬ ValidP x) : CallFactOk Tryz.prog (10, [v], .bool false) :=
  callAny (a := #[x.val]) hp rfl ev rfl fun w _ => (ValidG.any w x).mono fun e w' h' => by rw [decide_eq_false h] at h'; exact h'

omit [Sig]
/-- The first stamp that is not valid. -/
def firstBad (l : List St) : Int := match l.findIdx? (fun x => !decide (ValidP x)) with | some i => i | none => -1

theorem firstBad_at {l : List St} {i : Nat} (h : ∀ j, j < i → ∀ x, l[j]? = some x → ValidP x) (hi : i < l.length) (hb : ¬ ValidP (l.getD i default)) : firstBad l = i := by
  unfold firstBad
  rw [show l.findIdx? (fun x => !decide (ValidP x)) = some i from ?_]
  rw [List.findIdx?_eq_some_iff_getElem]
  refine ⟨hi, ?_, fun j hj => ?_⟩
  · rw [List.getD_eq_getElem?_getD, List.getElem?_eq_getElem hi] at hb
    simpa using hb
  · have := h j hj _ (List.getElem?_eq_getElem (by omega))
    simpa using this

theorem firstBad_none {l : List St} {i : Nat} (h : ∀ j, j < i → ∀ x, l[j]? = some x → ValidP x) (hi : l.length ≤ i) : firstBad l = -1 := by
  unfold firstBad
  rw [show l.findIdx? (fun x => !decide (ValidP x)) = none from ?_]
  rw [List.findIdx?_eq_none_iff]
  intro x hx
  obtain ⟨j, hj, rfl⟩ := List.mem_iff_getElem.1 hx
  have := h j (by omega) _ (List.getElem?_eq_getElem hj)
  simpa using this

theorem firstBad_neg {l : List St} : firstBad l < 0 ↔ ∀ x ∈ l, ValidP x := by
  unfold firstBad
  cases h : l.findIdx? (fun x => !decide (ValidP x)) with
  | some i =>
    rw [List.findIdx?_eq_some_iff_getElem] at h
    obtain ⟨h1, h2, _⟩ := h
    simp only [Bool.not_eq_true', decide_eq_false_iff_not] at h2
    exact ⟨fun h => absurd h (by simp only; omega), fun h => absurd (h _ (List.getElem_mem h1)) h2⟩
  | none =>
    rw [List.findIdx?_eq_none_iff] at h
    exact ⟨fun _ x hx => by simpa using h x hx, fun _ => by simp⟩

end AE
end Go.Proofs.YtheaofepenbcgaaGreatDoor

/- The greatest numbers of the sites: what Counts computes. -/
namespace Go.Proofs.YtheaofepenbcgaaGreatDoor
open Go Go.Proofs Go.RowKit
namespace AE

/-- The greatest number of a site's valid stamps, of the first i ones. -/
def cntTo (l : List St) (s : Int) (i : Nat) : Int := (l.take i).foldl (fun m x => if x.2.2.1 = s ∧ ValidP x then max m x.2.2.2 else m) 0
def cntAll (l : List St) (s : Int) : Int := cntTo l s l.length

theorem cntTo_succ {l : List St} {s : Int} {i : Nat} (hi : i < l.length) : cntTo l s (i + 1) = if (l.getD i default).2.2.1 = s ∧ ValidP (l.getD i default) then max (cntTo l s i) (l.getD i default).2.2.2 else cntTo l s i := by
  unfold cntTo
  rw [List.take_add_one, getSome hi]
  simp only [Option.toList_some, List.foldl_append, List.foldl_cons, List.foldl_nil]

theorem cntTo_yes {l : List St} {s : Int} {i : Nat} (hi : i < l.length) (h1 : (l.getD i default).2.2.1 = s) (h2 : ValidP (l.getD i default)) : max (cntTo l s i) (l.getD i default).2.2.2 = cntTo l s (i + 1) := by
  rw [cntTo_succ hi, if_pos ⟨h1, h2⟩]
theorem cntTo_no1 {l : List St} {s : Int} {i : Nat} (hi : i < l.length) (h1 : ¬ (l.getD i default).2.2.1 = s) : cntTo l s i = cntTo l s (i + 1) := by
  rw [cntTo_succ hi, if_neg fun h => h1 h.1]
theorem cntTo_no2 {l : List St} {s : Int} {i : Nat} (hi : i < l.length) (h1 : ¬ ValidP (l.getD i default)) : cntTo l s i = cntTo l s (i + 1) := by
  rw [cntTo_succ hi, if_neg fun h => h1 h.2]
theorem cntTo_len {l : List St} {s : Int} {i : Nat} (h : i ≤ l.length) (h2 : l.length ≤ i) : cntTo l s i = cntAll l s := by
  rw [show i = l.length by omega]; rfl

/-- What Counts returns. -/
def countsV (l : List St) : Value := .agg ⟨[.int .i64 (cntAll l 1), .int .i64 (cntAll l 2), .int .i64 (cntAll l 3), .int .i64 (cntAll l 4), .int .i64 (cntAll l 5), .int .i64 (cntAll l 6), .int .i64 (cntAll l 7), .int .i64 (cntAll l 8)]⟩

end AE
end Go.Proofs.YtheaofepenbcgaaGreatDoor

/- AE, R: views of arrays, stores into arrays of the call's own, functions that turn an array that is handed to them. -/
namespace Go.Proofs.YtheaofepenbcgaaGreatDoor
open Go Go.RowKit
namespace AE

theorem flat_take {α : Type} {k : Nat} {enc : α → List Value} (hk : ∀ x, (enc x).length = k) : ∀ (l : List α) (j : Nat), (l.take j).flatMap enc = (l.flatMap enc).take (j * k)
  | [], j => by simp
  | x :: r, 0 => by simp
  | x :: r, j + 1 => by
    have h1 : (enc x).take ((j + 1) * k) = enc x := List.take_of_length_le (by rw [hk, Nat.add_mul]; omega)
    rw [List.take_succ_cons, List.flatMap_cons, List.flatMap_cons, flat_take hk r j, List.take_append, h1, hk, show (j + 1) * k - k = j * k by rw [Nat.add_mul]; omega]

/- VIEWS -/

/-- The place of a slice's rest. -/
def dropA (a : Option Addr) (c j k : Nat) : Option Addr := if c = j then a else a.map fun a => a.add (j * k)

section
variable {α : Type} {B : Nat} {M : Mem} {e : TypeId} {k : Nat} {enc : α → List Value} {a : Option Addr} {c : Nat} {l : List α}

theorem Arr.take {j n : Nat} (h : Arr M k enc (.slice a n c) l) (hj : j ≤ n) : Arr M k enc (.slice a j c) (l.take j) := by
  obtain rfl : n = l.length := by obtain ⟨_, _, h2⟩ := h.slice; cases h2; rfl
  generalize hv : Value.slice a l.length c = v at h
  have hlen : (l.take j).length = j := by rw [List.length_take]; omega
  cases h with
  | nil a' c' =>
    have : j = 0 := by simpa using hj
    subst this
    exact .nil _ _
  | mk h1 h2 h3 =>
    cases hv
    have := Arr.mk (enc := enc) (k := k) (l := l.take j) (c := c) h1 (by rw [hlen]; omega) fun i x hx u w hw => by
      rw [List.getElem?_take] at hx
      split at hx
      · exact h3 i x hx u w hw
      · cases hx
    rw [hlen] at this
    exact this

theorem Arr.drop {j n : Nat} (h : Arr M k enc (.slice a n c) l) (hj : j ≤ n) : Arr M k enc (.slice (dropA a c j k) (n - j) (c - j)) (l.drop j) := by
  obtain rfl : n = l.length := by obtain ⟨_, _, h2⟩ := h.slice; cases h2; rfl
  have hlen : (l.drop j).length = l.length - j := List.length_drop
  rcases Nat.lt_or_ge j l.length with hlt | hge
  · generalize hv : Value.slice a l.length c = v at h
    cases h with
    | nil a' c' => simp at hlt
    | mk h1 h2 h3 =>
      rename_i b off c' cs ty fr
      cases hv
      have hd : dropA (some ⟨b, off, none⟩) c j k = some ⟨b, off + j * k, none⟩ := by
        unfold dropA
        rw [if_neg (by omega)]
        simp only [Option.map_some, Addr.add_at]
      rw [hd]
      have := Arr.mk (enc := enc) (k := k) (l := l.drop j) (off := off + j * k) (c := c - j) h1 (by rw [hlen]; omega) fun i x hx u w hw => by
        rw [List.getElem?_drop] at hx
        have := h3 (j + i) x hx u w hw
        rw [Nat.add_mul] at this
        rw [← this]
        congr 1
        omega
      rw [hlen] at this
      exact this
  · have h0 : l.length - j = 0 := by omega
    rw [h0, List.drop_eq_nil_of_le hge]
    exact .nil _ _

theorem OArr.take (hk : ∀ x, (enc x).length = k) {j n : Nat} (h : OArr B M e k enc (.slice a n c) l) (hj : j ≤ l.length) : OArr B M e k enc (.slice a j c) (l.take j) := by
  have hlen : (l.take j).length = j := by rw [List.length_take]; omega
  rcases h with ⟨a', h0, rfl⟩ | ⟨g, cap, cur, h0, h1, h2, h3, h4, h5, h6, h7⟩
  · cases h0
    have : j = 0 := by simpa using hj
    subst this
    exact .inl ⟨_, rfl, rfl⟩
  · cases h0
    refine .inr ⟨g, c, cur, by rw [hlen], h1, h2, h3, by rw [hlen]; omega, h5, h6, ?_⟩
    rw [hlen]
    have h8 : (cur.toList.take (l.length * k)).take (j * k) = (l.flatMap enc).take (j * k) := by rw [h7]
    rw [List.take_take, Nat.min_eq_left (Nat.mul_le_mul_right k hj)] at h8
    rw [h8, flat_take hk]

end

section
variable [Sig] {P : Program}

end

/- STORES -/

/- FUNCTIONS THAT TURN AN ARRAY THAT IS HANDED TO THEM -/

theorem OArr.cap {α : Type} {B : Nat} {M : Mem} {e : TypeId} {k : Nat} {enc : α → List Value} {a : Option Addr} {n c : Nat} {l : List α} (h : OArr B M e k enc (.slice a n c) l) : n ≤ c := by
  rcases h with ⟨a', h0, rfl⟩ | ⟨g, cap, cur, h0, h1, h2, h3, h4, h5, h6, h7⟩
  · cases h0; exact Nat.le_refl _
  · cases h0; exact h4

/-- Back at a loop's head, memory turned. -/
theorem ostop_backM {s1 : Sig} [Outer] {P : Program} {N B : Nat} {w0 : World} {X : Type} {sg : X → Sig} {I : X → Prop} {μ : X → Nat} {head : Sl} {bks : List Bk} {o : Option Stop} {x : X} (x' : X) {obs : Obs} {Q : Exit → Act → World → Prop} (hb : backObs head bks o = some obs) (hm : Meet s1 (sg x') obs)
    (himm : ∀ i o, (sg x').imm i = some o → s1.imm i = some o) (hI : I x') (hμ : μ x' < μ x) (hn : Outer.n0 ≤ bks.length := by first | exact Nat.zero_le _ | exact Nat.le_of_ble_eq_true rfl) (hc : SameC (stopSt o).A bks 0 := by exact sameC_none rfl) : @OStop s1 _ P N B w0 (Exit.then (fun a w => ∃ x', I x' ∧ μ x' < μ x ∧ @Here (sg x') _ N (headSt head bks) B w0 a w) Q) o := by
  cases o with
  | none => cases hb
  | some st =>
    refine ⟨st, rfl, ?_⟩
    unfold backObs at hb
    split at hb
    · rename_i s hst
      cases hst
      intro a w hh
      exact ⟨x', hI, hμ, Here.move hb hm himm hn hc hh⟩
    · cases hb

end AE
end Go.Proofs.YtheaofepenbcgaaGreatDoor

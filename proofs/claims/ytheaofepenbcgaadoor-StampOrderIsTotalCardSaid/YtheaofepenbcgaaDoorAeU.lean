/- AE, part U: unsafe.Pointer and back, a row of bytes as a string, rows that are not zeroed. -/
import Derived.Test.YtheaofepenbcgaaDoorAe12
namespace Go.Proofs.YtheaofepenbcgaaDoor
open Go
namespace AE
variable [Sig]

/-- Functions of the library without a body that the evaluator knows. -/
class Lib (P : Program) where
  same : List FuncId
  sameOk : ∀ f ∈ same, ∀ x : Value, pureRun P (callFunc f #[x]) = some (.value x)
  nozero : List (FuncId × TypeId)
  nozeroOk : ∀ p ∈ nozero, ∃ ps rs t, (∀ n w, (callFunc p.1 #[.int .i64 n]).run P w = (do pure (Next.value (← Extern.BytealgMakeNoZero.makeNoZero ps rs #[.int .i64 n])) : Sem Next).run P w) ∧ rs[0]? = some t ∧ pureRun P (underlying t) = some (.slice p.2)

section
variable {P : Program} {φ : Emb} {A A' : AS} {w : World}

omit [Sig] in
theorem run_shape {r : Nat} {c : Array Value} {t : TypeId} {f : Nat × Nat} (h : w.heap[r]? = some (.cells c t f)) : (shape r).run P w = .ok (some (t, c.size)) w := by
  simp only [shape, Sem.run, World.shape?, h]

omit [Sig] in
theorem run_seenAt {a : Addr} {c : Array Value} {t : TypeId} {f : Nat × Nat} (h : w.heap[a.block]? = some (.cells c t f)) : (Conv.seenAt a).run P w = .ok a w := by
  unfold Conv.seenAt viewAt
  refine run_then (a := none) (run_then (run_shape h) rfl) rfl

def aToUnsafe (P : Program) (A : AS) (src dst : TypeId) (x : Value) : Option Value :=
  match pureRun P (underlying src), pureRun P (underlying dst), x with
  | some (.pointer t), some .unsafePointer, .pointer (some ⟨b, off, none⟩) => match pureRun P (sizeOf t), A.bl.get b with
    | some n, some k => match k.obj with
      | .cells c => bif Nat.beq n 0 || !Nat.blt off c.length then none else some (.pointer (some ⟨b, off, none⟩))
      | _ => none
    | _, _ => none
  | some .unsafePointer, some (.pointer u), .pointer (some ⟨b, off, none⟩) => match pureRun P (sizeOf u), A.bl.get b with
    | some _, some k => match k.obj with
      | .cells c => bif Nat.beq k.stride 0 && liesAt P P.depth k.ty (c.length / P.cellsOf k.ty) off u 1 then some (.pointer (some ⟨b, off, none⟩)) else none
      | _ => none
    | _, _ => none
  | _, _, _ => none

theorem snd_toUnsafe (hr : Rel φ A w) {src dst : TypeId} {x x' v : Value} (hx : VRel φ x x') (h : aToUnsafe P A src dst x = some v) : Snd (RV v) P φ A w (convert src dst x') A := by
  unfold aToUnsafe at h
  split at h
  · rename_i t b off hs hd
    split at h
    · rename_i n k hn hk
      split at h
      · rename_i c hobj
        cases hc : (Nat.beq n 0 || !Nat.blt off c.length) with
        | true => rw [hc] at h; cases h
        | false =>
          rw [hc, cond_false, Option.some.injEq] at h
          subst h
          simp only [Bool.or_eq_false_iff, Bool.not_eq_false'] at hc
          have hoff : off < c.length := Nat.blt_eq.mp hc.2
          have hn0 : n ≠ 0 := fun e => by subst e; simp at hc
          cases hx with
          | ptr he =>
            rename_i e
            obtain ⟨k', hk', _, ho⟩ := hr.dom b e he
            rw [hk] at hk'
            cases hk'
            unfold ORel at ho
            simp only [hobj] at ho
            obtain ⟨c', fr', h1, h2, h3, h4, h5⟩ := ho
            refine ⟨φ, w, .pointer (some ⟨e.blk, e.sh + off, none⟩), ?_, .ptr he, Step.refl hr⟩
            unfold convert
            refine run_pre hs (run_pre hd ?_)
            show (Conv.unsafePointer src dst (.pointer (some ⟨e.blk, e.sh + off, none⟩))).run P w = _
            unfold Conv.unsafePointer
            refine run_pre hs (run_pre hd ?_)
            simp only
            refine run_then (run_seenAt h1) ?_
            refine run_then (a := some c'.size) (by unfold cellsIn; exact run_then (run_shape h1) rfl) ?_
            refine run_pre hn ?_
            have hge : ¬ (c'.size ≤ e.sh + off) := by omega
            simp only [hn0, decide_false, ge_iff_le, hge, Bool.false_and, Bool.or_false, Bool.false_eq_true, if_false]
            rfl
      · cases h
    · cases h
  · rename_i u b off hs hd
    split at h
    · rename_i nu k hsu hk
      split at h
      · rename_i c hobj
        cases hc : (Nat.beq k.stride 0 && liesAt P P.depth k.ty (c.length / P.cellsOf k.ty) off u 1) with
        | false => rw [hc] at h; cases h
        | true =>
          rw [hc, cond_true, Option.some.injEq] at h
          subst h
          simp only [Bool.and_eq_true] at hc
          have hst : k.stride = 0 := Nat.eq_of_beq_eq_true hc.1
          cases hx with
          | ptr he =>
            rename_i e
            obtain ⟨k', hk', _, ho⟩ := hr.dom b e he
            rw [hk] at hk'
            cases hk'
            unfold ORel at ho
            simp only [hobj] at ho
            obtain ⟨c', fr', h1, h2, h3, h4, h5⟩ := ho
            obtain ⟨hsh, hsz⟩ := h3.2 hst
            have hlies : liesAt P P.depth k.ty (c'.size / P.cellsOf k.ty) (e.sh + off) u 1 = true := by rw [hsh, Nat.zero_add, ← hsz]; exact hc.2
            refine ⟨φ, w, .pointer (some ⟨e.blk, e.sh + off, none⟩), ?_, .ptr he, Step.refl hr⟩
            unfold convert
            refine run_pre hs (run_pre hd ?_)
            show (Conv.unsafePointer src dst (.pointer (some ⟨e.blk, e.sh + off, none⟩))).run P w = _
            unfold Conv.unsafePointer
            refine run_pre hs (run_pre hd ?_)
            simp only
            refine run_then (run_seenAt h1) ?_
            have hv : (variablesAt ⟨e.blk, e.sh + off, none⟩ u 1).run P w = .ok true w := by
              unfold variablesAt
              refine run_pre (a := P) rfl ?_
              refine run_then (run_shape h1) ?_
              simp only [hlies]
              rfl
            refine run_pre hsu ?_
            refine run_then hv ?_
            simp only [Bool.or_true, if_true]
            rfl
      · cases h
    · cases h
  · cases h

/- ROWS THAT ARE NOT ZEROED -/

def aNoZero (A : AS) (elem : TypeId) (n : Int) : Option (Value × AS) :=
  bif decide (0 ≤ n) && decide (n ≤ 524288) then
    match A.push (.cells (List.replicate n.toNat poison)) 1 elem with
    | some (r, A1) => some (.slice (some ⟨r, 0, none⟩) n.toNat n.toNat, A1)
    | none => none
  else none

omit [Sig] in
theorem digits_size : ∀ (n t : Nat) (acc : Array Value), (Extern.BytealgMakeNoZero.digits n t acc).size = acc.size + n
  | 0, _, _ => rfl
  | n + 1, t, acc => by
    unfold Extern.BytealgMakeNoZero.digits
    rw [digits_size n]
    simp
    omega

theorem snd_noZero (hr : Rel φ A w) {ps rs : Array TypeId} {t elem : TypeId} {n : Int} {v : Value} (ht : rs[0]? = some t) (hu : pureRun P (underlying t) = some (.slice elem)) (h : aNoZero A elem n = some (v, A')) :
    Snd (RV v) P φ A w (Extern.BytealgMakeNoZero.makeNoZero ps rs #[.int .i64 n]) A' := by
  unfold aNoZero at h
  cases hc : (decide (0 ≤ n) && decide (n ≤ 524288)) with
  | false => rw [hc] at h; cases h
  | true =>
    rw [hc, cond_true] at h
    simp only [Bool.and_eq_true, decide_eq_true_eq] at hc
    split at h
    · rename_i r A1 hp
      simp only [Option.some.injEq, Prod.mk.injEq] at h
      obtain ⟨rfl, rfl⟩ := h
      let q : Question := .appendCap n.toNat 0 elem
      let cap := q.cut (w.tape w.drawn q)
      have hcap : n.toNat ≤ cap := by simp [cap, q, Question.cut]
      let q2 : Question := .extern "internal/bytealg.MakeNoZero.bytes" 0
      have hr1 : Rel φ A { w with drawn := w.drawn + 1 + 1 } := (Step.drawn hr (w.drawn + 1 + 1)).rel
      let row := Extern.BytealgMakeNoZero.digits cap (q2.cut (w.tape (w.drawn + 1) q2)) #[]
      have hrow : row.size = cap := by simp [row, digits_size]
      obtain ⟨φ', w', g1, g2, g3, g4⟩ := run_newRow hr1 P (c' := row) elem hp (by rw [hrow, List.length_replicate]; exact hcap) (fun h => absurd h (by decide)) (fun j hj => by
        rw [List.getD_eq_getElem?_getD, List.getElem?_replicate, if_pos (by simpa using hj)]
        exact .poison _)
      refine ⟨φ', w', .slice (some ⟨w.heap.size, 0, none⟩) n.toNat cap, ?_, ?_, Step.trans hr (Step.drawn hr (w.drawn + 1 + 1)) g3⟩
      · obtain ⟨rl⟩ := rs
        obtain ⟨rest, rfl⟩ : ∃ rest, rl = t :: rest := by
          cases rl with
          | nil => simp at ht
          | cons a r => simp at ht; exact ⟨r, by rw [ht]⟩
        refine run_pre (s := underlying t) hu ?_
        simp only
        rw [if_neg (by simp; omega)]
        refine run_then (w1 := { w with drawn := w.drawn + 1 }) (a := cap) (by simp [choose, Sem.run, Question.forced, cap, q]) ?_
        refine run_then (w1 := { w with drawn := w.drawn + 1 }) (a := ()) (by unfold askRoom; split <;> rfl) ?_
        refine run_then (w1 := { w with drawn := w.drawn + 1 + 1 }) (a := q2.cut (w.tape (w.drawn + 1) q2)) (by simp only [choose, Sem.run]; rfl) ?_
        exact run_then g1 rfl
      · have := VRel.slg (φ := φ') (b := r) (o := 0) n.toNat n.toNat cap g2 (Nat.le_refl _) hcap (by simp [hrow])
        simpa using this
    · cases h

/- A ROW OF BYTES AS A STRING: the row is not written any more -/

def aBytes : List Value → ByteArray → Option ByteArray
  | [], acc => some acc
  | .int .u8 b :: r, acc => aBytes r (acc.push b.toNat.toUInt8)
  | _ :: _, _ => none

theorem run_loadBytes (hr : Rel φ A w) {b : Nat} {e : Em} (he : φ b = some e) : ∀ (l : List Value) (off : Nat) (acc s : ByteArray), (∀ j, j < l.length → A.load b (off + j) = some (l.getD j undef)) → aBytes l acc = some s →
    (loadBytes ⟨e.blk, e.sh + off, none⟩ acc l.length).run P w = .ok s w := by
  intro l
  induction l with
  | nil =>
    intro off acc s _ h
    cases h
    rfl
  | cons v r ih =>
    intro off acc s hl h
    cases v with
    | int k x =>
      cases k <;> try (cases h; done)
      have h0 := hl 0 (by simp)
      obtain ⟨v', h1, h2⟩ := rel_load hr h0 he
      simp only [List.getD_cons_zero] at h2
      cases h2
      have h1' : w.cell? ⟨e.blk, e.sh + off, none⟩ = some (.int .u8 x) := by simpa using h1
      have hrest : ∀ j, j < r.length → A.load b (off + 1 + j) = some (r.getD j undef) := fun j hj => by
        have := hl (j + 1) (by simpa using hj)
        rw [show off + (j + 1) = off + 1 + j by omega] at this
        simpa using this
      have := ih (off + 1) (acc.push x.toNat.toUInt8) s hrest h
      show (loadBytes _ acc (r.length + 1)).run P w = _
      unfold loadBytes
      refine run_then (a := .int .u8 x) (w1 := w) (by simp [Go.load, Sem.run, h1']) ?_
      simp only [Addr.add_at]
      rw [Nat.add_assoc]
      exact this
    | _ => cases h

def freezeAll (fam : Nat) : List Nat → Tr ABlk → Option (Tr ABlk)
  | [], t => some t
  | m :: r, t => match t.get m with
    | some k => bif Nat.beq k.fam fam then
        match Tr.set { k with ro := true } depth t m with
        | some t' => freezeAll fam r t'
        | none => none
      else freezeAll fam r t
    | none => freezeAll fam r t

def frz (fam : Nat) (k : ABlk) : ABlk := bif Nat.beq k.fam fam then { k with ro := true } else k

omit [Sig] in
theorem frz_frz (fam : Nat) (k : ABlk) : frz fam (frz fam k) = frz fam k := by
  unfold frz
  cases h : Nat.beq k.fam fam <;> simp [h]

omit [Sig] in
theorem freezeAll_spec (fam : Nat) : ∀ (l : List Nat) (t t' : Tr ABlk), freezeAll fam l t = some t' → ∀ j, t'.get j = if j ∈ l then (t.get j).map (frz fam) else t.get j
  | [], t, t', h, j => by cases h; simp
  | m :: r, t, t', h, j => by
    unfold freezeAll at h
    split at h
    · rename_i k hk
      cases hf : Nat.beq k.fam fam with
      | true =>
        rw [hf, cond_true] at h
        split at h
        · rename_i t1 ht1
          have hget := fun j => Tr.get_set _ _ _ _ _ j ht1
          have hk1 : ({ k with ro := true } : ABlk) = frz fam k := by simp [frz, hf]
          rw [freezeAll_spec fam r t1 t' h j, hget]
          by_cases hjm : j = m
          · subst hjm
            rw [if_pos rfl, if_pos List.mem_cons_self, hk, hk1]
            split
            · simp [frz_frz]
            · rfl
          · rw [if_neg hjm]
            have : (j ∈ m :: r) ↔ j ∈ r := by simp [hjm]
            simp only [this]
        · cases h
      | false =>
        rw [hf, cond_false] at h
        rw [freezeAll_spec fam r t t' h j]
        by_cases hjm : j = m
        · subst hjm
          rw [if_pos List.mem_cons_self, hk]
          have : frz fam k = k := by simp [frz, hf]
          split <;> simp [this]
        · have : (j ∈ m :: r) ↔ j ∈ r := by simp [hjm]
          simp only [this]
    · rename_i hk
      rw [freezeAll_spec fam r t t' h j]
      by_cases hjm : j = m
      · subst hjm
        rw [if_pos List.mem_cons_self, hk]
        split <;> rfl
      · have : (j ∈ m :: r) ↔ j ∈ r := by simp [hjm]
        simp only [this]

def AS.freeze (A : AS) (k : ABlk) : Option AS :=
  match A.mem.get k.fam with
  | some l => match freezeAll k.fam l A.bl with
    | some t => some { A with bl := t, low := l.foldl Nat.min A.low }
    | none => none
  | none => none

theorem step_freeze (hr : Rel φ A w) {b n : Nat} {k : ABlk} {c : List Value} {e : Em} (off : Nat) (hk : A.bl.get b = some k) (hobj : k.obj = .cells c) (hro : k.ro = false) (he : φ b = some e) (h : A.freeze k = some A') :
    Step φ A w φ A' (w.freeze ⟨e.blk, e.sh + off, none⟩ n) := by
  unfold AS.freeze at h
  split at h
  · rename_i l hl
    split at h
    · rename_i t ht
      cases h
      have hget := freezeAll_spec _ _ _ _ ht
      obtain ⟨hlow, hmin⟩ := foldl_min_le l A.low
      obtain ⟨k0, hk0, _, ho⟩ := hr.dom b e he
      rw [hk] at hk0
      cases hk0
      unfold ORel at ho
      simp only [hobj] at ho
      obtain ⟨c', fr', h1, h2, h3, h4, h5⟩ := ho
      -- a block of the new state
      have hnew : ∀ j kj', t.get j = some kj' → ∃ kj, A.bl.get j = some kj ∧ kj'.fam = kj.fam ∧ kj'.pos = kj.pos ∧ kj'.stride = kj.stride ∧ kj'.ty = kj.ty ∧ kj'.obj = kj.obj ∧ kj'.ro = (kj.ro || Nat.beq kj.fam k.fam) := by
        intro j kj' hj
        rw [hget] at hj
        by_cases hjl : j ∈ l
        · rw [if_pos hjl] at hj
          obtain ⟨kj, q1, rfl⟩ := Option.map_eq_some_iff.1 hj
          refine ⟨kj, q1, ?_⟩
          unfold frz
          cases hf : Nat.beq kj.fam k.fam <;> simp
        · rw [if_neg hjl] at hj
          refine ⟨kj', hj, rfl, rfl, rfl, rfl, rfl, ?_⟩
          cases hf : Nat.beq kj'.fam k.fam with
          | false => simp
          | true =>
            exfalso
            obtain ⟨l', q1, q2⟩ := hr.wf.mem j kj' hj
            rw [Nat.eq_of_beq_eq_true hf, hl] at q1
            cases q1
            exact hjl q2
      have hwo : ∀ i, i ≠ e.blk → (w.freeze ⟨e.blk, e.sh + off, none⟩ n).heap[i]? = w.heap[i]? := fun i hi => by
        unfold World.freeze
        split
        · rfl
        · simp only [Array.getElem?_modify]
          rw [if_neg (Ne.symm hi)]
      have hwe : ∃ fr2, (w.freeze ⟨e.blk, e.sh + off, none⟩ n).heap[e.blk]? = some (.cells c' k.ty fr2) := by
        unfold World.freeze
        split
        · exact ⟨fr', h1⟩
        · simp only [Array.getElem?_modify, if_pos, h1, Option.map_some]
          exact ⟨_, rfl⟩
      obtain ⟨fr2, hwe⟩ := hwe
      refine { rel := ⟨⟨?_, ?_, ?_, ?_⟩, ?_, ?_, ?_, fun i o hi => ⟨by rw [hwo i (Ne.symm ((hr.imm i o hi).2 _ _ he))]; exact (hr.imm i o hi).1, (hr.imm i o hi).2⟩⟩, dom := fun _ _ => rfl, newm := fun b h1 h2 => absurd h2 (by show ¬ b < A.n; omega), new := fun b e h1 h2 => absurd (hr.lt h2) (by omega), n_le := Nat.le_refl _, low := hlow, same := ?_, ro := ?_, keep := ?_, hsize := ?_, os := ?_, tape := ?_, output := ?_ }
      · intro j kj' hj
        obtain ⟨kj, q1, _⟩ := hnew j kj' hj
        exact hr.wf.lt j kj q1
      · intro j kj' hj
        obtain ⟨kj, q1, q2, _⟩ := hnew j kj' hj
        rw [q2]; exact hr.wf.famlt j kj q1
      · intro j kj' hj
        obtain ⟨kj, q1, q2, _⟩ := hnew j kj' hj
        rw [q2]; exact hr.wf.mem j kj q1
      · intro j kj1 j' kj1' hj hj' hf
        obtain ⟨kj, q1, q2, _, _, _, _, q3⟩ := hnew j kj1 hj
        obtain ⟨kj', q1', q2', _, _, _, _, q3'⟩ := hnew j' kj1' hj'
        rw [q2, q2'] at hf
        rw [q3, q3', hr.wf.rofam j kj j' kj' q1 q1' hf, hf]
      · intro j ej hj
        obtain ⟨kj, hkj, hsj, hoj⟩ := hr.dom j ej hj
        obtain ⟨kj', hkj'⟩ : ∃ kj', t.get j = some kj' := by
          rw [hget]
          split
          · rw [hkj]; exact ⟨_, rfl⟩
          · exact ⟨kj, hkj⟩
        obtain ⟨kk, q1, q2, q3, q4, q5, q6, q7⟩ := hnew j kj' hkj'
        rw [hkj] at q1
        cases q1
        refine ⟨kj', hkj', by rw [q4]; exact hsj, ?_⟩
        by_cases hblk : ej.blk = e.blk
        · have hfam : kj.fam = k.fam := by
            rcases Nat.lt_trichotomy kj.fam k.fam with h | h | h
            · exact absurd hblk (hr.apart j ej kj b e k hj he hkj hk (by omega))
            · exact h
            · exact absurd hblk (hr.apart j ej kj b e k hj he hkj hk (by omega))
          have hro' : kj'.ro = true := by rw [q7, hfam]; simp
          unfold ORel at hoj ⊢
          rw [q6]
          cases hob : kj.obj with
          | cells cj =>
            simp only [hob] at hoj ⊢
            obtain ⟨cj', frj', r1, r2, r3, r4, r5⟩ := hoj
            rw [hblk, h1] at r1
            simp only [Option.some.injEq, Obj.cells.injEq] at r1
            obtain ⟨rfl, hty, rfl⟩ := r1
            refine ⟨c', fr2, by rw [hblk, q5, ← hty]; exact hwe, r2, by rw [q4]; exact r3, r4, fun hh => ?_⟩
            rw [hro'] at hh
            cases hh
          | map es cl =>
            simp only [hob] at hoj
            obtain ⟨es', r1, _⟩ := hoj
            rw [hblk, h1] at r1; cases r1
          | oth x =>
            simp only [hob] at hoj
            obtain ⟨_, o', r1, r2⟩ := hoj
            rw [hblk, h1] at r1; cases r1
            exact absurd r2 fun h => OthRel.no_cells h
        · have := hoj.mono (w' := w.freeze ⟨e.blk, e.sh + off, none⟩ n) (fun _ _ h => h) (hwo _ hblk)
          unfold ORel at this ⊢
          rw [q6]
          cases hob : kj.obj with
          | cells cj =>
            simp only [hob] at this ⊢
            obtain ⟨cj', frj', r1, r2, r3, r4, r5⟩ := this
            refine ⟨cj', frj', by rw [q5]; exact r1, r2, by rw [q4]; exact r3, r4, fun hh => r5 ?_⟩
            rw [q7] at hh
            simp only [Bool.or_eq_false_iff] at hh
            exact hh.1
          | map es cl =>
            simp only [hob] at this ⊢
            exact this
          | oth x =>
            simp only [hob] at this ⊢
            exact this
      · intro j ej kj1 j' ej' kj1' q1 q2 hj hj' hne
        obtain ⟨kj, r1, r2, _⟩ := hnew j kj1 hj
        obtain ⟨kj', r1', r2', _⟩ := hnew j' kj1' hj'
        exact hr.apart j ej kj j' ej' kj' q1 q2 r1 r1' (by rw [← r2, ← r2']; exact hne)
      · intro j ej kj1 j' ej' kj1' q1 q2 hj hj' hf hb
        obtain ⟨kj, r1, r2, r3, _⟩ := hnew j kj1 hj
        obtain ⟨kj', r1', r2', r3', _⟩ := hnew j' kj1' hj'
        rw [r3, r3']
        exact hr.along j ej kj j' ej' kj' q1 q2 r1 r1' (by rw [← r2, ← r2']; exact hf) hb
      · intro j hj hjl
        show t.get j = _
        rw [hget, if_neg]
        intro hm
        have := hmin j hm
        exact absurd hjl (by show ¬ j < l.foldl Nat.min A.low; omega)
      · intro j kj hkj hrj
        show t.get j = _
        rw [hget]
        split
        · rw [hkj]
          simp only [Option.map_some, Option.some.injEq]
          unfold frz
          cases hf : Nat.beq kj.fam k.fam with
          | false => rfl
          | true =>
            obtain ⟨o1, f1, p1, s1, rr1, t1⟩ := kj
            simp only at hrj
            subst hrj
            rfl
        · exact hkj
      · intro i hi hall
        refine hwo i fun hie => ?_
        have := hall b e k he hie.symm hk
        rw [hro] at this
        cases this
      · unfold World.freeze; split
        · exact Nat.le_refl _
        · simp
      all_goals (unfold World.freeze; split <;> rfl)
    · cases h
  · cases h

def aUnsafeString (P : Program) (A : AS) (ts : Array TypeId) (x n : Value) : Option (Value × AS) :=
  match ts[0]?, x, n with
  | some pt, .pointer (some ⟨b, off, none⟩), .int _ n => match pureRun P (elemOf pt), A.bl.get b with
    | some u, some k => match k.obj with
      | .cells _ =>
        bif decide (0 < n) && decide (n ≤ 16777216) && Nat.beq (P.cellsOf k.ty) 1 && sameLayout P P.depth k.ty u && !k.ro then
          match A.loadN b off n.toNat with
          | some l => match aBytes l .empty, A.freeze k with
            | some s, some A1 => some (.string s, A1)
            | _, _ => none
          | none => none
        else none
      | _ => none
    | _, _ => none
  | _, _, _ => none

theorem snd_unsafeString (hr : Rel φ A w) {ts : Array TypeId} {ty : TypeId} {x x' n v : Value} (hx : VRel φ x x') (h : aUnsafeString P A ts x n = some (v, A')) : Snd (RV v) P φ A w (Builtin.unsafeString_ ts ty #[x', n]) A' := by
  unfold aUnsafeString at h
  split at h
  · rename_i pt b off kk n hts
    split at h
    · rename_i u k hu hk
      split at h
      · rename_i c hobj
        cases hc : (decide (0 < n) && decide (n ≤ 16777216) && Nat.beq (P.cellsOf k.ty) 1 && sameLayout P P.depth k.ty u && !k.ro) with
        | false => rw [hc] at h; cases h
        | true =>
          rw [hc, cond_true] at h
          simp only [Bool.and_eq_true, decide_eq_true_eq, Bool.not_eq_true'] at hc
          obtain ⟨⟨⟨⟨hn0, hn1⟩, hcell⟩, hlay⟩, hro⟩ := hc
          have hcell : P.cellsOf k.ty = 1 := Nat.eq_of_beq_eq_true hcell
          split at h
          · rename_i l hl
            split at h
            · rename_i s A1 hs hf
              simp only [Option.some.injEq, Prod.mk.injEq] at h
              obtain ⟨rfl, rfl⟩ := h
              cases hx with
              | ptr he =>
                rename_i e
                obtain ⟨hlen, hjs⟩ := loadN_spec hl
                obtain ⟨k', hk', _, ho⟩ := hr.dom b e he
                rw [hk] at hk'
                cases hk'
                unfold ORel at ho
                simp only [hobj] at ho
                obtain ⟨c', fr', h1, h2, h3, h4, h5⟩ := ho
                have hfit : off + n.toNat ≤ c.length := by
                  have hg := hjs (n.toNat - 1) (by omega)
                  unfold AS.load at hg
                  rw [hk] at hg
                  obtain ⟨ob, fam, pos, st, ro, ty2⟩ := k
                  simp only at hobj
                  subst hobj
                  simp only at hg
                  have := (List.getElem?_eq_some_iff.1 hg).1
                  omega
                have hrun := run_loadBytes (P := P) hr he l off .empty s (fun j hj => hjs j (by omega)) hs
                have hstep := step_freeze (n := n.toNat) hr off hk hobj hro he hf
                refine ⟨φ, _, .string s, ?_, .string s, hstep⟩
                have hlies : liesAt P P.depth k.ty (c'.size / P.cellsOf k.ty) (e.sh + off) u n.toNat = true := by
                  obtain ⟨d, hd⟩ : ∃ d, P.depth = d + 1 := ⟨_, rfl⟩
                  rw [hd] at hlay ⊢
                  unfold liesAt rowAt
                  rw [hd]
                  simp only [hcell, Nat.div_one, Nat.mod_one, beq_self_eq_true, Bool.true_and]
                  have : decide (e.sh + off + n.toNat ≤ c'.size) = true := decide_eq_true (by omega)
                  simp [this, hlay]
                have hv : (variablesAt ⟨e.blk, e.sh + off, none⟩ u n.toNat).run P w = .ok true w := by
                  unfold variablesAt
                  refine run_pre (a := P) rfl ?_
                  refine run_then (run_shape h1) ?_
                  simp only [hlies]
                  rfl
                refine run_pre (s := asInt (.int kk n)) (a := n) rfl ?_
                have hmax : ¬ n > IntKind.i64.max := by
                  have : (16777216 : Int) ≤ IntKind.i64.max := by decide
                  omega
                simp only [hts]
                rw [if_neg (by omega), if_neg hmax, if_neg (by omega)]
                refine run_pre hu ?_
                refine run_then hv ?_
                rw [if_pos rfl]
                refine run_then (by rw [← hlen]; exact hrun) ?_
                rfl
            · cases h
          · cases h
        
      · cases h
    · cases h
  · cases h

/- CLEAR -/

def aClear (P : Program) (A : AS) (ts : Array TypeId) (x : Value) : Option AS :=
  match ts[0]? with
  | some t => match pureRun P (underlying t), x with
    | some (.slice _), .slice none _ _ => some A
    | some (.slice elem), .slice (some ⟨b, off, none⟩) n _ => bif Nat.beq n 0 then some A else
        match pureRun P (zeroValue elem) with
        | some z => bif plain z && (cellsOf z).isSome && Nat.blt 0 z.cells.size then A.storeN b off (Builtin.zeroCells z.cells n).toList else none
        | none => none
    | _, _ => none
  | none => none

theorem snd_clear (hr : Rel φ A w) {ts : Array TypeId} {ty : TypeId} {x x' : Value} (hx : VRel φ x x') (h : aClear P A ts x = some A') : Snd (RV undef) P φ A w (Builtin.clear_ ts ty #[x']) A' := by
  unfold aClear at h
  split at h
  · rename_i t ht
    split at h
    · rename_i e l c hu
      cases h
      cases hx
      refine ⟨φ, w, undef, ?_, VRel.undef_refl φ, Step.refl hr⟩
      unfold Builtin.clear_
      simp only [ht, List.getElem?_toArray, List.getElem?_cons_zero]
      exact run_pre hu rfl
    · rename_i elem b off n c hu
      have hform : ∃ a' c', x' = .slice (some a') n c' := by
        cases hx with
        | slx _ _ h => exact ⟨_, _, rfl⟩
        | slg _ _ _ h _ _ _ => exact ⟨_, _, rfl⟩
        | slz a' _ => exact ⟨_, _, rfl⟩
      cases hn : Nat.beq n 0 with
      | true =>
        rw [hn] at h
        cases h
        have hn0 : n = 0 := Nat.eq_of_beq_eq_true hn
        subst hn0
        obtain ⟨a', c', rfl⟩ := hform
        refine ⟨φ, w, undef, ?_, VRel.undef_refl φ, Step.refl hr⟩
        unfold Builtin.clear_
        simp only [ht, List.getElem?_toArray, List.getElem?_cons_zero]
        exact run_pre hu rfl
      | false =>
        rw [hn, cond_false] at h
        have hn0 : n ≠ 0 := fun e => by subst e; simp at hn
        split at h
        · rename_i z hz
          cases hc : (plain z && (cellsOf z).isSome && Nat.blt 0 z.cells.size) with
          | false => rw [hc] at h; cases h
          | true =>
            rw [hc, cond_true] at h
            simp only [Bool.and_eq_true] at hc
            have hz0 := Nat.blt_eq.mp hc.2
            have hzc := plain_cells hc.1.1 hc.1.2 φ
            have hcells : ∀ j, j < (Builtin.zeroCells z.cells n).toList.length → VRel φ ((Builtin.zeroCells z.cells n).toList.getD j undef) ((Builtin.zeroCells z.cells n).toList.getD j undef) := by
              intro j hj
              unfold Builtin.zeroCells at hj ⊢
              simp at hj
              have hm := Nat.mod_lt j hz0
              have := hzc (j % z.cells.size) hm
              simp only [Array.getD_eq_getD_getElem?] at this
              simpa [List.getD_eq_getElem?_getD, hj, hm, getElem!_pos] using this
            have main : ∀ (e : Em) (c' : Nat), φ b = some e → x' = .slice (some ⟨e.blk, e.sh + off, none⟩) n c' → Snd (RV undef) P φ A w (Builtin.clear_ ts ty #[x']) A' := by
              intro e c' he hx'
              obtain ⟨w', g1, g2⟩ := run_storeN P he _ A A' w off 0 (Builtin.zeroCells z.cells n).toList hr (by simpa using h) rfl hcells
              refine ⟨φ, w', undef, ?_, VRel.undef_refl φ, g2⟩
              subst hx'
              unfold Builtin.clear_
              simp only [ht, List.getElem?_toArray, List.getElem?_cons_zero]
              refine run_pre hu ?_
              obtain ⟨n', rfl⟩ : ∃ n', n = n' + 1 := ⟨n - 1, by omega⟩
              refine run_pre hz ?_
              exact run_then (by simpa using g1) rfl
            cases hx with
            | slx _ _ he => exact main _ _ he rfl
            | slg _ _ _ he _ _ _ => exact main _ _ he rfl
            | slz a' _ => exact absurd rfl hn0
        · cases h
    · cases h
  · cases h

end
end AE
end Go.Proofs.YtheaofepenbcgaaDoor

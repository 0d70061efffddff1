/- AE, part 11: copy, make, lengths, conversions, comparisons with nil, interfaces. -/
import Derived.Test.YtheaofepenbcgaaDoorAe10
import Derived.IntWalk
namespace Go.Proofs.YtheaofepenbcgaaDoor
open Go
namespace AE
variable [Sig]

section
variable {P : Program} {φ : Emb} {A A' : AS} {w : World}

def aCopy (P : Program) (A : AS) (ts : Array TypeId) (dst src : Value) : Option (Value × AS) :=
  match ts[0]? with
  | some t => match pureRun P (underlying t) with
    | some (.slice elem) => match pureRun P (sizeOf elem) with
      | some sz => match dst, src with
        | .slice (some ⟨b, off, none⟩) dl _, .slice (some ⟨b2, off2, none⟩) sl _ =>
          match A.loadN b2 off2 (Nat.min sl dl * sz) with
          | some l => match A.storeN b off l with
            | some A1 => some (.int .i64 (Nat.min sl dl), A1)
            | none => none
          | none => none
        | .slice (some _) dl _, .slice none sl _ => some (.int .i64 (Nat.min sl dl), A)
        | _, _ => none
      | none => none
    | _ => none
  | none => none

theorem snd_copy (hr : Rel φ A w) {ts : Array TypeId} {ty : TypeId} {d d' s s' v : Value} (hd : VRel φ d d') (hs : VRel φ s s') (h : aCopy P A ts d s = some (v, A')) : Snd (RV v) P φ A w (Builtin.copy_ ts ty #[d', s']) A' := by
  unfold aCopy at h
  split at h
  · rename_i t ht
    split at h
    · rename_i elem hu
      split at h
      · rename_i sz hsz
        split at h
        · rename_i b off dl dc b2 off2 sl sc
          split at h
          · rename_i l hl
            split at h
            · rename_i A1 hst
              simp only [Option.some.injEq, Prod.mk.injEq] at h
              obtain ⟨rfl, rfl⟩ := h
              unfold Builtin.copy_
              simp only [ht, List.getElem?_toArray, List.getElem?_cons_zero, List.getElem?_cons_succ]
              refine Snd.pre hu ?_
              obtain ⟨hll, hlj⟩ := loadN_spec hl
              -- both addresses known
              have main : ∀ (e e2 : Em) (sc' : Nat), φ b = some e → φ b2 = some e2 → Snd (RV (.int .i64 (Nat.min sl dl))) P φ A w (do
                  let n := Nat.min (← Builtin.lenOf (.slice (some ⟨e2.blk, e2.sh + off2, none⟩) sl sc')) dl
                  let cells ← Builtin.firstCells (← sizeOf elem) n (.slice (some ⟨e2.blk, e2.sh + off2, none⟩) sl sc')
                  storeCells ⟨e.blk, e.sh + off, none⟩ cells.toList
                  pure (goInt n)) A1 := by
                intro e e2 sc' he he2
                refine Snd.pre (a := sl) rfl ?_
                refine Snd.pre hsz ?_
                refine Snd.bind hr (snd_loadN hr hl he2) fun φ1 w1 cells hr1 hmono ⟨c1, c2⟩ => ?_
                obtain ⟨w', g1, g2⟩ := run_storeN P (hmono _ _ he) l A A1 w1 off 0 cells.toList hr1 hst (by simpa using c1) (fun j hj => by
                  have := c2 j hj
                  simp only [Array.getD_eq_getD_getElem?] at this
                  simpa [List.getD_eq_getElem?_getD] using this)
                refine ⟨φ1, w', _, run_then (by simpa using g1) rfl, .int _ _, g2⟩
              have zero : ∀ (a a' : Option Addr) (dc' sc' : Nat), Nat.min sl dl * sz = 0 → Nat.min sl dl = 0 → A1 = A := by
                intro a a' dc' sc' h0 _
                rw [h0] at hll
                have : l = [] := by simpa using hll
                subst this
                simpa [AS.storeN] using hst.symm
              cases hd with
              | slx _ _ he => cases hs with
                | slx _ _ he2 => exact main _ _ _ he he2
                | slg _ _ c' he2 _ _ _ => exact main _ _ _ he he2
                | slz a' _ =>
                  have := zero none none 0 0 (by simp) (by simp)
                  subst this
                  refine ⟨φ, w, .int .i64 0, ?_, by simpa using VRel.int .i64 0, Step.refl hr⟩
                  simp [pureRun_run hsz w, Builtin.firstCells, Builtin.lenOf, loadCells, loadCellsFrom, Sem.run, pure, storeCells, goInt]
              | slg _ _ c1 he _ _ _ => cases hs with
                | slx _ _ he2 => exact main _ _ _ he he2
                | slg _ _ c' he2 _ _ _ => exact main _ _ _ he he2
                | slz a' _ =>
                  have := zero none none 0 0 (by simp) (by simp)
                  subst this
                  refine ⟨φ, w, .int .i64 0, ?_, by simpa using VRel.int .i64 0, Step.refl hr⟩
                  simp [pureRun_run hsz w, Builtin.firstCells, Builtin.lenOf, loadCells, loadCellsFrom, Sem.run, pure, storeCells, goInt]
              | slz a' _ =>
                have := zero none none 0 0 (by simp) (by simp)
                subst this
                have hlen : ∀ s', VRel φ (.slice (some ⟨b2, off2, none⟩) sl sc) s' → ∃ a2 c2, s' = .slice (some a2) sl c2 := fun s' h => by
                  cases h with
                  | slx _ _ h => exact ⟨_, _, rfl⟩
                  | slg _ _ _ h _ _ _ => exact ⟨_, _, rfl⟩
                  | slz a' _ => exact ⟨_, _, rfl⟩
                obtain ⟨a2, c2, rfl⟩ := hlen s' hs
                refine ⟨φ, w, .int .i64 0, ?_, by simpa using VRel.int .i64 0, Step.refl hr⟩
                simp [pureRun_run hsz w, Builtin.firstCells, Builtin.lenOf, loadCells, loadCellsFrom, Sem.run, pure, storeCells, goInt]
            · cases h
          · cases h
        · rename_i a dl dc sl sc
          simp only [Option.some.injEq, Prod.mk.injEq] at h
          obtain ⟨rfl, rfl⟩ := h
          have hdl : ∃ a' c', d' = .slice (some a') dl c' := by
            cases hd with
            | slx _ _ h => exact ⟨_, _, rfl⟩
            | slg _ _ _ h _ _ _ => exact ⟨_, _, rfl⟩
            | slz a' _ => exact ⟨_, _, rfl⟩
          obtain ⟨a', c', rfl⟩ := hdl
          cases hs
          refine ⟨φ, w, .int .i64 (Nat.min sl dl), ?_, .int _ _, Step.refl hr⟩
          unfold Builtin.copy_
          simp only [ht, List.getElem?_toArray, List.getElem?_cons_zero, List.getElem?_cons_succ]
          refine run_pre hu ?_
          refine run_pre (a := sl) rfl ?_
          exact run_pre hsz rfl
        · cases h
      · cases h
    · cases h
  · cases h

def aMakeSlice (P : Program) (A : AS) (t : TypeId) (len cap : Value) : Option (Value × AS) :=
  match len, cap with
  | .int _ l, .int _ c =>
    bif decide (0 ≤ l) && decide (l ≤ c) && decide (c ≤ 1048576) then
      match pureRun P (underlying t) with
      | some (.slice elem) => match pureRun P (typeInfo elem), pureRun P (sizeOf elem), pureRun P (zeroValue elem) with
        | some info, some sz, some z =>
          bif Nat.ble info.bytes 65536 && plain z && (cellsOf z).isSome && Nat.blt 0 z.cells.size then
            match A.push (.cells ((Array.range (c.toNat * sz)).map (z.cells[· % z.cells.size]!)).toList) 0 elem with
            | some (r, A1) => some (.slice (some ⟨r, 0, none⟩) l.toNat c.toNat, A1)
            | none => none
          else none
        | _, _, _ => none
      | _ => none
    else none
  | _, _ => none

theorem snd_makeSlice (hr : Rel φ A w) {t : TypeId} {len cap v : Value} (h : aMakeSlice P A t len cap = some (v, A')) : Snd (RV v) P φ A w (Instr.makeSlice t len cap) A' := by
  unfold aMakeSlice at h
  split at h
  · rename_i k1 l k2 c
    cases hb : (decide (0 ≤ l) && decide (l ≤ c) && decide (c ≤ 1048576)) with
    | false => rw [hb] at h; cases h
    | true =>
      rw [hb, cond_true] at h
      simp only [Bool.and_eq_true, decide_eq_true_eq] at hb
      obtain ⟨⟨b1, b2⟩, b3⟩ := hb
      split at h
      · rename_i elem hu
        split at h
        · rename_i info sz z hi hsz hz
          cases hpz : (Nat.ble info.bytes 65536 && plain z && (cellsOf z).isSome && Nat.blt 0 z.cells.size) with
          | false => rw [hpz] at h; cases h
          | true =>
            rw [hpz, cond_true] at h
            simp only [Bool.and_eq_true] at hpz
            obtain ⟨⟨⟨q1, q2⟩, q3⟩, q4⟩ := hpz
            have hbytes := Nat.ble_eq.mp q1
            have hz0 := Nat.blt_eq.mp q4
            have hzc := plain_cells q2 q3 φ
            split at h
            · rename_i r A1 hp
              simp only [Option.some.injEq, Prod.mk.injEq] at h
              obtain ⟨rfl, rfl⟩ := h
              have wl : IntKind.i64.wrap l = l := IntWalk.i64_in _ (by omega)
              have wc : IntKind.i64.wrap c = c := IntWalk.i64_in _ (by omega)
              unfold Instr.makeSlice
              refine Snd.pre hu ?_
              simp only
              refine Snd.pre (a := l) rfl ?_
              refine Snd.pre (a := c) rfl ?_
              refine Snd.pre hi ?_
              have hmul : (info.bytes : Int) * c ≤ 2 ^ 48 := by
                have h1 : (info.bytes : Int) * c ≤ 65536 * 1048576 := by
                  have a1 : (info.bytes : Int) ≤ 65536 := by omega
                  exact Int.mul_le_mul a1 b3 (by omega) (by omega)
                have h2 : (65536 : Int) * 1048576 ≤ 2 ^ 48 := by decide
                omega
              have hno : (decide (c < 0) || decide ((info.bytes : Int) * c > 2 ^ 48) || decide (l < 0) || decide (l > c)) = false := by
                simp only [Bool.or_eq_false_iff, decide_eq_false_iff_not]
                omega
              simp only [wl, wc]
              rw [if_neg (by rw [hno]; simp)]
              refine Snd.pre (a := ()) (by unfold askRoom; split <;> rfl) ?_
              refine Snd.pre hsz ?_
              have hsame : ∀ j, j < ((Array.range (c.toNat * sz)).map (z.cells[· % z.cells.size]!)).size → VRel φ (((Array.range (c.toNat * sz)).map (z.cells[· % z.cells.size]!)).getD j undef) (((Array.range (c.toNat * sz)).map (z.cells[· % z.cells.size]!)).getD j undef) := by
                intro j hj
                simp at hj
                have hm := Nat.mod_lt j hz0
                have := hzc (j % z.cells.size) hm
                simp only [Array.getD_eq_getD_getElem?] at this ⊢
                simpa [hj, hm, getElem!_pos] using this
              have fin : Snd (RV (.slice (some ⟨r, 0, none⟩) l.toNat c.toNat)) P φ A w (do
                  let a ← newRow elem ((Array.range (c.toNat * sz)).map (z.cells[· % z.cells.size]!))
                  pure (.slice (some a) l.toNat c.toNat)) A1 := by
                obtain ⟨φ', w', g1, g2, g3, _⟩ := run_newRow hr P elem hp (c' := (Array.range (c.toNat * sz)).map (z.cells[· % z.cells.size]!)) (by simp) (fun _ => by simp) (fun j hj => by
                  have := hsame j (by simpa using hj)
                  simp only [Array.getD_eq_getD_getElem?] at this
                  simp only [List.getD_eq_getElem?_getD, Array.getElem?_toList, Array.getD_eq_getD_getElem?]
                  exact this)
                refine ⟨φ', w', _, run_then g1 rfl, ?_, g3⟩
                have := VRel.slx (φ := φ') (b := r) (o := 0) l.toNat c.toNat g2
                simpa using this
              by_cases hn : c.toNat * sz = 0
              · simp only [hn, if_true] at fin ⊢
                refine Snd.pre (a := #[]) rfl ?_
                have e0 : ∀ f : Nat → Value, (Array.range 0).map f = #[] := fun f => by simp
                rw [e0] at fin ⊢
                exact fin
              · simp only [hn, if_false]
                refine Snd.pre hz ?_
                refine Snd.pre (a := z.cells) rfl ?_
                exact fin
            · cases h
        · cases h
      · cases h
  · cases h

def aLen (P : Program) (A : AS) (ts : Array TypeId) (x : Value) : Option Value :=
  match ts[0]? with
  | some t => match pureRun P (underlying t), x with
    | some (.slice _), .slice _ n _ => some (.int .i64 n)
    | some (.map _ _), .map none => some (.int .i64 0)
    | some (.map _ _), .map (some b) => match A.bl.get b with
      | some { obj := .map es _, .. } => some (.int .i64 es.length)
      | _ => none
    | some (.array n _), _ => some (.int .i64 n)
    | _, _ => none
  | none => none

omit [Sig] in
theorem run_getObj {o : Obj} {r : Nat} (h : w.heap[r]? = some o) (hc : ∀ c t f, o ≠ .cells c t f) : (getObj r).run P w = .ok o w := by
  unfold getObj
  simp only [Sem.run, h]

theorem snd_len (hr : Rel φ A w) {ts : Array TypeId} {ty : TypeId} {x x' v : Value} (hx : VRel φ x x') (h : aLen P A ts x = some v) : Snd (RV v) P φ A w (Builtin.len_ ts ty #[x']) A := by
  unfold aLen at h
  split at h
  · rename_i t ht
    unfold Builtin.len_
    simp only [ht, List.getElem?_toArray, List.getElem?_cons_zero]
    split at h
    · rename_i e a n c hu
      simp only [Option.some.injEq] at h
      subst h
      refine Snd.pre hu ?_
      have : ∃ a2 c2, x' = .slice a2 n c2 := by cases hx <;> exact ⟨_, _, rfl⟩
      obtain ⟨a2, c2, rfl⟩ := this
      exact Snd.ret hr (.int _ _)
    · rename_i k e hu
      simp only [Option.some.injEq] at h
      subst h
      refine Snd.pre hu ?_
      cases hx
      exact Snd.ret hr (.int _ _)
    · rename_i k e b hu
      split at h
      · rename_i es cl fam pos st ro ty' hb
        simp only [Option.some.injEq] at h
        subst h
        refine Snd.pre hu ?_
        cases hx with
        | map he =>
          obtain ⟨kk, hk, _, ho⟩ := hr.dom b _ he
          rw [hb] at hk; cases hk
          simp only [ORel] at ho
          obtain ⟨es', h1, h2, _⟩ := ho
          refine ⟨φ, w, .int .i64 es.length, run_then (run_getObj h1 (by simp)) ?_, .int _ _, Step.refl hr⟩
          simp only [goInt, h2]
          rfl
      · cases h
    · rename_i n e hu
      simp only [Option.some.injEq] at h
      subst h
      refine Snd.pre hu ?_
      exact Snd.ret hr (.int _ _)
    · cases h
  · cases h

end
end AE
end Go.Proofs.YtheaofepenbcgaaDoor

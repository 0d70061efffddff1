/- Proved: the tied card of StampNextMatchesSpec: for all stamps, sites and ticks the law returns true, and its arguments read as they did. No condition beyond the own cells of the row. -/
import Derived.Test.YtheaofepenbcgaaGreatDoorNxtSpCard6
import Derived.Test.YtheaofepenbcgaaGreatDoorTie
import Derived.Test.YtheaofepenbcgaaGreatDoorCards

/- A block is taken out of the middle of the function's own blocks and becomes known memory. -/
namespace Go.Proofs.YtheaofepenbcgaaGreatDoor
open Go Go.Proofs Go.RowKit
namespace AE

mutual
/-- The value does not speak of block b. -/
def noRef (b : Nat) : Value → Bool
  | .pointer (some a) => !(Nat.beq a.block b)
  | .slice (some a) _ _ => !(Nat.beq a.block b)
  | .map (some m) => !(Nat.beq m b)
  | .func (.yield l) _ _ => !(Nat.beq l b)
  | .func _ ⟨fs⟩ ⟨cs⟩ => noRefL b fs && noRefL b cs
  | .iface _ v => noRef b v
  | .agg ⟨l⟩ => noRefL b l
  | .tuple ⟨l⟩ => noRefL b l
  | _ => true
def noRefL (b : Nat) : List Value → Bool
  | [] => true
  | v :: r => noRef b v && noRefL b r
end

theorem noRefL_get {b : Nat} : ∀ {l : List Value}, noRefL b l = true → ∀ i, i < l.length → noRef b (l.getD i Go.undef) = true
  | [], _, i, hi => absurd hi (by simp)
  | v :: r, h, 0, _ => by
    unfold noRefL at h
    rw [Bool.and_eq_true] at h
    simpa using h.1
  | v :: r, h, i + 1, hi => by
    unfold noRefL at h
    rw [Bool.and_eq_true] at h
    simpa using noRefL_get h.2 i (by simpa using hi)

def dropE (b : Nat) (φ : Emb) : Emb := fun j => if j = b then none else φ j
theorem dropE_some {b j : Nat} {φ : Emb} {e : Em} (h : dropE b φ j = some e) : j ≠ b ∧ φ j = some e := by
  unfold dropE at h
  split at h
  · cases h
  · rename_i hne; exact ⟨hne, h⟩
theorem dropE_pos {b j : Nat} {φ : Emb} {e : Em} (h : φ j = some e) (hn : (!(Nat.beq j b)) = true) : dropE b φ j = some e := by
  unfold dropE
  rw [if_neg (fun hj => by subst hj; rw [Nat.beq_refl] at hn; cases hn)]
  exact h

theorem VRel.drop [Sig] {φ : Emb} {b : Nat} {v v' : Value} (h : VRel φ v v') (hn : noRef b v = true) : VRel (dropE b φ) v v' := by
  induction h with
  | poison v' => exact .poison v'
  | sym k => exact .sym k
  | bool b => exact .bool b
  | int k n => exact .int k n
  | float k b => exact .float k b
  | string s => exact .string s
  | pnil => exact .pnil
  | ptr h => exact .ptr (dropE_pos h (by simpa [noRef] using hn))
  | slnil l c => exact .slnil l c
  | slz a' h => exact .slz a' h
  | slx n c h => exact .slx n c (dropE_pos h (by simpa [noRef] using hn))
  | slg n c c' h hs hc hl => exact .slg n c c' (dropE_pos h (by simpa [noRef] using hn)) hs hc hl
  | mapnil => exact .mapnil
  | map h => exact .map (dropE_pos h (by simpa [noRef] using hn))
  | chan => exact .chan
  | func fs fs' cs cs' hy h1 h2 hf hc ih1 ih2 =>
    rename_i fn
    obtain ⟨fs⟩ := fs
    obtain ⟨cs⟩ := cs
    have h3 : noRefL b fs = true ∧ noRefL b cs = true := by
      cases fn with
      | yield l => exact absurd rfl (hy l)
      | _ => simpa [noRef] using hn
    exact .func _ fs' _ cs' hy h1 h2 (fun i hi => ih1 i hi (by simpa using noRefL_get h3.1 i (by simpa using hi))) (fun i hi => ih2 i hi (by simpa using noRefL_get h3.2 i (by simpa using hi)))
  | yld h => exact .yld (dropE_pos h (by simpa [noRef] using hn))
  | nilFunc => exact .nilFunc
  | nilIface => exact .nilIface
  | iface t _ ih => exact .iface t (ih (by simpa [noRef] using hn))
  | agg cs cs' h1 _ ih =>
    obtain ⟨cs⟩ := cs
    exact .agg _ cs' h1 fun i hi => ih i hi (by simpa using noRefL_get (by simpa [noRef] using hn) i (by simpa using hi))
  | tuple cs cs' h1 _ ih =>
    obtain ⟨cs⟩ := cs
    exact .tuple _ cs' h1 fun i hi => ih i hi (by simpa using noRefL_get (by simpa [noRef] using hn) i (by simpa using hi))

def noRefT (b : Nat) : Tr Value → Bool
  | .nil => true
  | .node v l r => (match v with | some v => noRef b v | none => true) && (noRefT b l && noRefT b r)

theorem noRefT_get {b : Nat} : ∀ {t : Tr Value} {i : Nat} {v : Value}, noRefT b t = true → t.get i = some v → noRef b v = true
  | .nil, i, v, _, h => by simp [Tr.get] at h
  | .node x l r, i, v, hn, h => by
    unfold noRefT at hn
    simp only [Bool.and_eq_true] at hn
    unfold Tr.get at h
    cases h0 : (i == 0) with
    | true =>
      rw [h0, cond_true] at h
      subst h
      exact hn.1
    | false =>
      rw [h0, cond_false] at h
      cases h1 : (i % 2 == 1) with
      | true => rw [h1, cond_true] at h; exact noRefT_get hn.2.1 h
      | false => rw [h1, cond_false] at h; exact noRefT_get hn.2.2 h

/-- No other block speaks of block b. -/
def noRefA (b : Nat) (A : AS) : Bool := (List.range A.n).all fun j => Nat.beq j b || (match A.bl.get j with | some k => (match k.obj with | .cells c => noRefL b c | _ => false) | none => true)

theorem rel_drop [Sig] {φ : Emb} {A : AS} {w : World} {b : Nat} (hr : Rel φ A w) (hn : noRefA b A = true) : Rel (dropE b φ) A w where
  wf := hr.wf
  dom := fun j e hj => by
    obtain ⟨hne, hφ⟩ := dropE_some hj
    obtain ⟨k, q1, q2, q3⟩ := hr.dom j e hφ
    refine ⟨k, q1, q2, ?_⟩
    have hlt := hr.lt hφ
    have := List.all_eq_true.1 hn j (by simpa using hlt)
    rw [Bool.or_eq_true] at this
    rcases this with h | h
    · exact absurd (Nat.eq_of_beq_eq_true h) hne
    · rw [q1] at h
      simp only at h
      unfold ORel at q3 ⊢
      cases hob : k.obj with
      | cells c =>
        rw [hob] at h
        simp only [hob] at q3 ⊢
        obtain ⟨c', fr', g1, g2, g3, g4, g5⟩ := q3
        exact ⟨c', fr', g1, g2, g3, fun i hi => (g4 i hi).drop (noRefL_get h i hi), g5⟩
      | map es cl => rw [hob] at h; cases h
      | oth x => rw [hob] at h; cases h
  apart := fun j e k j' e' k' h h' => hr.apart j e k j' e' k' (dropE_some h).2 (dropE_some h').2
  along := fun j e k j' e' k' h h' => hr.along j e k j' e' k' (dropE_some h).2 (dropE_some h').2
  imm := fun i o hi => ⟨(hr.imm i o hi).1, fun j e h => (hr.imm i o hi).2 j e (dropE_some h).2⟩

/-- A block of the function's own becomes known memory; the slot that points to it gets a symbol. -/
theorem Here.freezeB [Outer] {α : Type} {M : Mem} {vals : List Value} {vals2 : Nat → List Value} {N B : Nat} {st : ASt} {w0 w : World} {a : Act} {sl sl' : Sl} {l : List Bk} {obs : Obs} {b t q : Nat} {k : ABlk} {cs : List Value} {enc : α → List Value} {xs : List α}
    (hh : @Here (sgL M vals) _ N st B w0 a w) (hk : st.A.bl.get b = some k) (hobj : k.obj = .cells cs) (hstr : k.stride = 0) (hfam : k.fam = b) (hro : k.ro = false) (hcs : plainSL cs = true) (hxs : @interpL (sgL M vals) cs = xs.flatMap enc) (h0 : Outer.n0 = 0) {slA : Sl} (hslA : Tr.set poison depth st.sl t = some slA) (hnoS : noRefT b slA = true) (hnoA : noRefA b st.A = true)
    (hslot : st.sl.get t = some (.pointer (some ⟨b, 0, none⟩))) (htr : trAll { sl := slA, ms := st.ms, A := st.A } sl l = some obs) (hm : ∀ M' g, Meet (sgL M vals) (sgL M' (vals2 g)) obs) (hset : Tr.set (symv q) depth sl t = some sl') (hq : ∀ g, oneC ((vals2 g).getD q (.bool false)) = .pointer (some ⟨g, 0, none⟩))
    (hn : Outer.n0 ≤ l.length) (hc : SameC st.A l 0) (hms : st.ms = []) :
    ∃ g M', OVar B M' k.ty enc g xs ∧ (∀ i o, M i = some o → M' i = some o) ∧ M g = none ∧ @Here (sgL M' (vals2 g)) _ N { sl := sl', ms := [], A := mkAS l } B w0 a w := by
  obtain ⟨⟨φ, ds, h1, h2, h3, h4, h7⟩, h5, h6⟩ := hh
  have hv := @SR.get (sgL M vals) _ _ _ _ _ h2 t _ hslot
  generalize hp : a.tmps.getD t undef = pv at hv
  cases hv with
  | ptr he =>
    rename_i e
    obtain ⟨k1, r1, r2, r3⟩ := @Rel.dom (sgL M vals) _ _ _ h3 b e he
    rw [hk] at r1
    cases r1
    unfold ORel at r3
    rw [hobj] at r3
    obtain ⟨c', fr', g1, g2, g3, g4, g5⟩ := r3
    obtain ⟨g6, g7⟩ := g3.2 hstr
    have hnone : M e.blk = none := by
      cases hi : M e.blk with
      | none => rfl
      | some o => exact absurd rfl ((@Rel.imm (sgL M vals) _ _ _ h3 e.blk o hi).2 b e he)
    let M' : Mem := fun i => if i = e.blk then some (.cells c' k.ty fr') else M i
    have hM' : M' e.blk = some (.cells c' k.ty fr') := if_pos rfl
    have hup : ∀ i o, M i = some o → M' i = some o := fun i o hi => by
      show (if i = e.blk then _ else M i) = some o
      rw [if_neg (fun h => by rw [h, hnone] at hi; cases hi)]
      exact hi
    have hcells : c'.toList = xs.flatMap enc := by
      rw [← hxs]
      refine @VRel.eq_of_plainSL (sgL M vals) φ cs c'.toList hcs (by simp [g7]) fun i hi => ?_
      have := g4 i hi
      rw [g6, Nat.zero_add] at this
      simpa [Array.getD_eq_getD_getElem?] using this
    have htr' := htr
    unfold trAll at htr'
    have hfams : ∀ b' x, l[b']? = some x → ∃ kk, st.A.bl.get b' = some kk ∧ kk.fam = b' := fun b' x hx => by
      split at htr'
      · cases hok : asOk l with
        | false => rw [hok] at htr'; cases htr'
        | true =>
          rw [hok, cond_true] at htr'
          obtain ⟨x1, y1, _, hy, _⟩ := both_some htr'
          obtain ⟨kk, o, r1, r2, _⟩ := trA_ok l 0 hy b' x hx
          rw [Nat.zero_add] at r1 r2
          exact ⟨kk, r1, r2⟩
      · cases htr'
    have hsA : @SR (sgL M vals) N ds (dropE b φ) slA a := by
      letI := sgL M vals
      refine ⟨h2.size, h2.defers, fun t' v' hv' => VRel.drop ?_ (noRefT_get hnoS hv')⟩
      rw [Tr.get_set _ _ _ _ _ _ hslA] at hv'
      split at hv'
      · cases hv'
        exact .poison _
      · exact h2.get t' v' hv'
    have hmA : MRel (dropE b φ) st.ms ds := by
      rw [hms] at h1 ⊢
      cases h1
      exact .nil
    have hrA : @Rel (sgL M vals) (dropE b φ) st.A w := @rel_drop (sgL M vals) _ _ _ _ h3 hnoA
    have hg := Here.turnG (s2 := sgL M' (vals2 e.blk)) (st := { sl := slA, ms := st.ms, A := st.A }) htr (hm M' e.blk) hmA hsA hrA (fun b' e' h => h4 b' e' (dropE_some h).2) ⟨by rw [h0]; exact Nat.zero_le _, fun b' hb' => absurd hb' (by rw [h0]; exact Nat.not_lt_zero _)⟩ h5 h6 (fun i o hi => by
      by_cases hie : i = e.blk
      · subst hie
        have : some (Obj.cells c' k.ty fr') = some o := hM'.symm.trans hi
        cases this
        refine ⟨g1, fun b' e' hb' he' heq => ?_⟩
        obtain ⟨kk, q1, q2⟩ := hfams b' _ (List.getElem?_eq_getElem hb')
        obtain ⟨hne', he''⟩ := dropE_some he'
        exact @Rel.apart (sgL M vals) _ _ _ h3 b' e' kk b e k he'' he q1 hk (by rw [q2, hfam]; exact hne') heq
      · have hi' : M i = some o := by
          have : (if i = e.blk then some (Obj.cells c' k.ty fr') else M i) = some o := hi
          rwa [if_neg hie] at this
        obtain ⟨q1, q2⟩ := @Rel.imm (sgL M vals) _ _ _ h3 i o hi'
        exact ⟨q1, fun b' e' _ he' => q2 b' e' (dropE_some he').2⟩) hn hc
    refine ⟨e.blk, M', ⟨h4 b e he, c', fr', hM', fun i hi => g5 hro i hi, hcells⟩, hup, hnone, ?_⟩
    obtain ⟨⟨φ2, ds2, p1, p2, p3, p4, p5⟩, p6, p7⟩ := hg
    letI := sgL M' (vals2 e.blk)
    refine ⟨⟨φ2, ds2, p1, ⟨p2.size, p2.defers, fun t' v' hv' => ?_⟩, p3, p4, p5⟩, p6, p7⟩
    rw [Tr.get_set _ _ _ _ _ _ hset] at hv'
    split at hv'
    · rename_i ht
      cases hv'
      subst ht
      rw [hp]
      have := VRel.sym (φ := φ2) q
      have h8 : Sig.σ q = Value.pointer (some ⟨e.blk, 0, none⟩) := hq e.blk
      rw [h8] at this
      rw [g6, Nat.zero_add]
      exact this
    · exact p2.get t' v' hv'

end AE
end Go.Proofs.YtheaofepenbcgaaGreatDoor

/- The freeze at a range, out of the middle; facts of the array of truth values. -/
namespace Go.Proofs.YtheaofepenbcgaaGreatDoor
open Go Go.Proofs Go.RowKit
namespace AE

theorem ostop_freezeB [Outer] {P : Program} {N B : Nat} {w0 : World} {Q : Exit → Act → World → Prop} {M : Mem} {vals : List Value} {vals2 : Nat → List Value} {o : Option Stop} {b t n ty q : Nat} {sl sl' : Sl} {l : List Bk} {obs : Obs}
    (h : frzB o b t n ty = true) (h0 : Outer.n0 = 0) {slA : Sl} (hslA : Tr.set poison depth (stopSt o).sl t = some slA) (hno : (noRefT b slA && noRefA b (stopSt o).A) = true) (hms : (stopSt o).ms = []) (htr : trAll { sl := slA, ms := (stopSt o).ms, A := (stopSt o).A } sl l = some obs) (hm : ∀ M' g, Meet (sgL M vals) (sgL M' (vals2 g)) obs) (hset : Tr.set (symv q) depth sl t = some sl') (hq : ∀ g, oneC ((vals2 g).getD q (.bool false)) = .pointer (some ⟨g, 0, none⟩))
    (rest : ∀ g M', OVar B M' ty encB g (List.replicate n false) → (∀ i o, M i = some o → M' i = some o) → M g = none → @OStop (sgL M' (vals2 g)) _ P N B w0 Q (frzTo { sl := sl', ms := [], A := mkAS l } o))
    (hn : Outer.n0 ≤ l.length := by first | exact Nat.zero_le _ | exact Nat.le_of_ble_eq_true rfl) (hc : SameC (stopSt o).A l 0 := by exact sameC_none rfl) : @OStop (sgL M vals) _ P N B w0 Q o := by
  unfold frzB at h
  split at h
  · rename_i gg ps as_ body s ks
    refine ⟨_, rfl, fun a w hh => ?_⟩
    split at h
    · rename_i k hk
      split at h
      · rename_i cs hobj
        simp only [Bool.and_eq_true, Bool.not_eq_true'] at h
        obtain ⟨⟨⟨⟨h1, h2⟩, h3⟩, ⟨h4, h5⟩, h6⟩, h7⟩ := h
        have hcs := allFalse h6 (Nat.eq_of_beq_eq_true h5)
        split at h7
        · rename_i b' hslot
          have hbb := Nat.eq_of_beq_eq_true h7
          subst hbb
          obtain ⟨p1, p2⟩ := @plainSL_false (sgL M vals) n
          have hty := Nat.eq_of_beq_eq_true h4
          subst hty
          obtain ⟨g, M', q1, q2, q3, q4⟩ := Here.freezeB (xs := List.replicate n false) (enc := encB) hh hk hobj (Nat.eq_of_beq_eq_true h1) (Nat.eq_of_beq_eq_true h2) h3 (by rw [hcs]; exact p1) (by rw [hcs]; exact p2) h0 hslA ((Bool.and_eq_true _ _).mp hno).1 ((Bool.and_eq_true _ _).mp hno).2 hslot htr hm hset hq hn hc hms
          obtain ⟨st', e', ok⟩ := rest g M' q1 q2 q3
          unfold frzTo at e'
          cases e'
          exact ok a w q4
        · cases h7
      · cases h
    · cases h
  · cases h

theorem OVar.mono2 {α : Type} {B : Nat} {M M' : Mem} {e : TypeId} {enc : α → List Value} {g : Nat} {l : List α} (h : OVar B M e enc g l) (hm : ∀ i o, M i = some o → M' i = some o) : OVar B M' e enc g l := by
  obtain ⟨h1, cur, fr, h2, h3, h4⟩ := h
  exact ⟨h1, cur, fr, hm _ _ h2, h3, h4⟩

theorem getB_true {l : List Bool} {n : Nat} (h : l.getD n false = true) : l[n]? = some true := by
  rw [List.getD_eq_getElem?_getD] at h
  cases hl : l[n]? with
  | none => rw [hl] at h; cases h
  | some b => rw [hl] at h; cases b <;> first | rfl | cases h
theorem getB_false {l : List Bool} {n : Nat} (h : ¬ l.getD n false = true) (hn : n < l.length) : l[n]? = some false := by
  rw [List.getD_eq_getElem?_getD, List.getElem?_eq_getElem hn] at h
  rw [List.getElem?_eq_getElem hn]
  cases hb : l[n] with
  | false => rfl
  | true => rw [hb] at h; exact absurd rfl h
theorem getB_rep (n : Nat) : (List.replicate 1001 false).getD n false = false := by
  rw [List.getD_eq_getElem?_getD, List.getElem?_replicate]
  split <;> rfl

section
variable [Sig] {P : Program}
theorem FactOk.ixaP1 {t e : TypeId} {x i r : Value} {g n : Nat} {j : Nat} {k : IntKind} (hx : plainS x = true) (hi : plainS i = true) (hr : plainS r = true) (ht : P.underlying t = some (.array n e)) (hsz : pureRun P (sizeOf e) = some 1)
    (ex : interp x = .pointer (some ⟨g, 0, none⟩)) (ei : interp i = .int k j) (hj : j < n) (er : interp r = .pointer (some ⟨g, j, none⟩)) : FactOk P (.ixa t x i, r) :=
  FactOk.ixaP hx hi hr ht hsz ex ei hj (by rw [er, Nat.mul_one])
end

end AE
end Go.Proofs.YtheaofepenbcgaaGreatDoor

/- The array of truth values of Missing: its type; what it holds. -/
namespace Go.Proofs.YtheaofepenbcgaaGreatDoor
open Go Go.Proofs Go.RowKit
namespace AE

theorem underA : Tryz.prog.underlying 51 = some (.array 1001 4) := by kernel_rfl
theorem sizeB : pureRun Tryz.prog (sizeOf 4) = some 1 := by kernel_rfl
theorem aggBool : pureRun Tryz.prog (isAgg 4) = some false := by kernel_rfl

/-- Is the number n of the site among the valid ones of the first i? -/
def hasTo (l : List St) (site : Int) (n i : Nat) : Bool := hasN (l.take i) site n

theorem hasTo_zero (l : List St) (site : Int) (n : Nat) : hasTo l site n 0 = false := rfl
theorem hasTo_succ {l : List St} {site : Int} {n i : Nat} (hi : i < l.length) : hasTo l site n (i + 1) = (hasTo l site n i || decide (ValidP (l.getD i default) ∧ (l.getD i default).2.2.1 = site ∧ (l.getD i default).2.2.2 = (n : Int))) := by
  unfold hasTo hasN
  rw [List.take_add_one, getSome hi, List.any_append]
  simp
theorem hasTo_no1 {l : List St} {site : Int} {n i : Nat} (hi : i < l.length) (h : ¬ (l.getD i default).2.2.1 = site) : hasTo l site n i = hasTo l site n (i + 1) := by
  rw [hasTo_succ hi, decide_eq_false (fun h2 => h h2.2.1), Bool.or_false]
theorem hasTo_no2 {l : List St} {site : Int} {n i : Nat} (hi : i < l.length) (h : ¬ ValidP (l.getD i default)) : hasTo l site n i = hasTo l site n (i + 1) := by
  rw [hasTo_succ hi, decide_eq_false (fun h2 => h h2.1), Bool.or_false]
theorem hasTo_len (l : List St) (site : Int) (n : Nat) : hasTo l site n l.length = hasN l site n := by
  unfold hasTo
  rw [List.take_length]
theorem hasTo_set {l : List St} {site : Int} {i : Nat} {hv : List Bool} (h : ∀ n, n ≤ 1000 → hv.getD n false = hasTo l site n i) (hi : i < l.length) (hlen : hv.length = 1001) (n : Nat) (hn : n ≤ 1000) (hs : (l.getD i default).2.2.1 = site) (hp : ValidP (l.getD i default)) :
    (hv.set ((l.getD i default).2.2.2).toNat true).getD n false = hasTo l site n (i + 1) := by
  have hp2 := hp
  unfold ValidP at hp2
  rw [hasTo_succ hi, ← h n hn, List.getD_eq_getElem?_getD, List.getElem?_set]
  split
  · rename_i he
    rw [if_pos (by omega), decide_eq_true (⟨hp, hs, by omega⟩ : _ ∧ _ ∧ _), Bool.or_true]
    rfl
  · rename_i he
    rw [decide_eq_false (fun h2 => he (by omega)), Bool.or_false, List.getD_eq_getElem?_getD]

end AE
end Go.Proofs.YtheaofepenbcgaaGreatDoor

/- Heads of frames that hold marks. -/
namespace Go.Proofs.YtheaofepenbcgaaGreatDoor
open Go Go.Proofs Go.RowKit
namespace AE

def trAllM (s1 : ASt) (sl : Sl) (l : List Bk) : Option Obs :=
  bif asOk l && s1.ms.all (fun m => Nat.blt m l.length) then both (trT l.length s1.sl sl) (trA l.length s1.A l 0) else none

theorem mrel_cut {φ : Emb} {n : Nat} {ms : List Nat} {ds : List Deferred} (h : MRel φ ms ds) (hn : ms.all (fun m => Nat.blt m n) = true) : MRel (cutE n φ) ms ds := by
  induction h with
  | nil => exact .nil
  | cons hb _ ih =>
    rw [List.all_cons, Bool.and_eq_true] at hn
    exact .cons (cutE_pos hb (Nat.blt_eq.mp hn.1)) (ih hn.2)

/-- The world turns beside the call's own blocks, at places T that were known; the symbols get new names. -/
theorem Here.turnM [Outer] {s1 s2 : Sig} {N B : Nat} {st : ASt} {w0 w w' : World} {a : Act} {sl : Sl} {l : List Bk} {obs : Obs} (T : Nat → Prop) (htr : trAllM st sl l = some obs) (hm : Meet s1 s2 obs) (hT : ∀ i, T i → s1.imm i ≠ none ∧ B ≤ i)
    (hos : w'.os = w.os ∧ w'.tape = w.tape ∧ w'.output = w.output ∧ w.drawn ≤ w'.drawn) (hsz : w.heap.size ≤ w'.heap.size) (hw : ∀ i, i < w.heap.size → ¬ T i → w'.heap[i]? = w.heap[i]?)
    (himm : ∀ i o, s2.imm i = some o → w'.heap[i]? = some o ∧ (s1.imm i ≠ none ∨ w.heap.size ≤ i ∨ i < B)) (hn : Outer.n0 ≤ l.length) (hc : SameC st.A l 0) (hh : @Here s1 _ N st B w0 a w) : @Here s2 _ N { sl, ms := st.ms, A := mkAS l } B w0 a w' := by
  unfold trAllM at htr
  cases hok2 : (asOk l && st.ms.all (fun m => Nat.blt m l.length)) with
  | false => rw [hok2] at htr; cases htr
  | true =>
      rw [hok2, cond_true] at htr
      rw [Bool.and_eq_true] at hok2
      obtain ⟨hok, hmsl⟩ := hok2
      obtain ⟨x, y, hx, hy, rfl⟩ := both_some htr
      obtain ⟨⟨φ, ds, h1, h2, h3, h4, h7⟩, h5, h6⟩ := hh
      have hold : ∀ b k, (mkAS l).bl.get b = some k → ∃ x kk o, l[b]? = some x ∧ k = x.blk b ∧ st.A.bl.get b = some kk ∧ kk.fam = b ∧ kk.stride = x.stride ∧ kk.ty = x.ty ∧ kk.ro = false ∧ trObj l.length kk.obj x.obj = some o ∧ ∀ p ∈ o, p ∈ y := fun b k hk => by
        obtain ⟨x, q1, q2⟩ := mkAS_get hk
        obtain ⟨kk, o, r1, r2, r3⟩ := trA_ok l 0 hy b x q1
        rw [Nat.zero_add] at r1 r2
        exact ⟨x, kk, o, q1, q2, r1, r2, r3⟩
      have hbl : ∀ b e, φ b = some e → e.blk < w.heap.size ∧ ¬ T e.blk ∧ s1.imm e.blk = none := fun b e hb => by
        obtain ⟨k, _, _, q⟩ := @Rel.dom s1 _ _ _ h3 b e hb
        have hnone : s1.imm e.blk = none := by
          cases hi : s1.imm e.blk with
          | none => rfl
          | some o => exact absurd rfl ((@Rel.imm s1 _ _ _ h3 e.blk o hi).2 b e hb)
        exact ⟨@ORel.lt s1 _ _ _ _ q, fun ht => (hT _ ht).1 hnone, hnone⟩
      have hkeep : ∀ b e, φ b = some e → w'.heap[e.blk]? = w.heap[e.blk]? := fun b e hb => hw _ (hbl b e hb).1 (hbl b e hb).2.1
      have hget : ∀ b, b < l.length → ∃ k, (mkAS l).bl.get b = some k := fun b hb => by
        have := List.all_eq_true.1 hok b (by simpa using hb)
        simp only [Bool.and_eq_true] at this
        obtain ⟨_, hm⟩ := this
        split at hm
        · rename_i k hk; exact ⟨k, hk⟩
        · cases hm
      refine ⟨⟨cutE l.length φ, ds, mrel_cut h1 hmsl, ⟨@SR.size s1 _ _ _ _ _ h2, @SR.defers s1 _ _ _ _ _ h2, fun t v2 hv2 => trT_ok st.sl sl hx hm.left t v2 _ hv2 fun v1 hv1 => @SR.get s1 _ _ _ _ _ h2 t v1 hv1⟩, ⟨mkAS_wf hok, ?_, ?_, ?_, fun i o hi => ?_⟩, fun b e hb => h4 b e (cutE_some hb).2, hn, fun b hb => by unfold cutE; rw [if_pos (Nat.lt_of_lt_of_le hb hn)]; exact h7.2 b hb⟩, h5.trans ⟨⟨hos.1, hos.2.1, hos.2.2.1, hsz, fun k hk => hw k (by omega) fun ht => by have := (hT k ht).2; omega⟩, hos.2.2.2⟩, Nat.le_trans h6 hsz⟩
      · intro b e hb
        obtain ⟨hlt, hφ⟩ := cutE_some hb
        obtain ⟨k, hk⟩ := hget b hlt
        obtain ⟨x, kk, o, q1, rfl, q3, q4, q5, q6, q7, q8, q9⟩ := hold b k hk
        obtain ⟨k1, r1, r2, r3⟩ := @Rel.dom s1 _ _ _ h3 b e hφ
        rw [q3] at r1
        cases r1
        refine ⟨_, hk, by rw [r2, q5]; rfl, ?_⟩
        unfold ORel at r3 ⊢
        show match x.obj with | .cells c => _ | .map es cl => _ | .oth x => _
        cases hobj : kk.obj with
        | cells c =>
          rw [hobj] at q8
          simp only [hobj] at r3
          cases hx2 : x.obj with
          | cells c2 =>
            rw [hx2] at q8
            obtain ⟨c', fr', g1, g2, g3, g4, g5⟩ := r3
            have hrow : ∀ i, i < c.length → ((List.range c.length).map fun j => c'.getD (e.sh + j) undef).getD i undef = c'.getD (e.sh + i) undef := fun i hi => by
              rw [List.getD_eq_getElem?_getD, List.getElem?_map, List.getElem?_range hi]
              rfl
            have := trL_ok (s1 := s1) (s2 := s2) (φ := φ) c c2 q8 (fun p hp => hm.right p (q9 p hp)) ((List.range c.length).map fun j => c'.getD (e.sh + j) undef) (by simp) fun i hi => by
              rw [hrow i hi]
              exact g4 i hi
            obtain ⟨t1, t2⟩ := this
            simp only [List.length_map, List.length_range] at t1
            refine ⟨c', fr', by rw [hkeep b e hφ, show (x.blk b).ty = kk.ty from q6.symm]; exact g1, g2, by rw [← t1, show (x.blk b).stride = kk.stride from q5.symm]; exact g3, fun j hj => ?_, fun _ => g5 q7⟩
            have := t2 j hj
            rw [hrow j (by omega)] at this
            exact this
          | map es cl => rw [hx2] at q8; cases q8
          | oth z => rw [hx2] at q8; cases q8
        | map es cl =>
          rw [hobj] at q8
          cases hx2 : x.obj <;> rw [hx2] at q8 <;> cases q8
        | oth z =>
          rw [hobj] at q8
          simp only [hobj] at r3
          obtain ⟨g0, o', g1, g2⟩ := r3
          cases hx2 : x.obj with
          | cells c2 => rw [hx2] at q8; cases z <;> cases q8
          | map es cl => rw [hx2] at q8; cases z <;> cases q8
          | oth z2 =>
            rw [hx2] at q8
            refine ⟨g0, o', (hkeep b e hφ).trans g1, ?_⟩
            cases z with
            | loop a =>
              cases z2 with
              | loop b =>
                unfold trObj at q8
                simp only at q8
                cases hs : sameCtl l.length a b with
                | false => rw [hs] at q8; cases q8
                | true =>
                  rw [hs, cond_true] at q8
                  unfold sameCtl at hs
                  simp only [Bool.and_eq_true, decide_eq_true_eq, Option.isNone_iff_eq_none] at hs
                  obtain ⟨c1, c2, c3, c4, c5, c6, c7⟩ := hs
                  have hcode := sameC_at hc q1 hx2
                  rw [Nat.zero_add] at hcode
                  unfold loopCode at hcode
                  rw [q3] at hcode
                  simp only [hobj, Option.some.injEq, Prod.mk.injEq] at hcode
                  obtain ⟨r, u0, u1, u2, u3, u4, u5, u6, ⟨e', u7, u8⟩, u9⟩ := g2
                  refine ⟨r, u0, u1.trans (eqLS_ok c1), by rw [u2, c2, c3], by rw [u3, Nat.eq_of_beq_eq_true c4], by rw [u4, c5], by rw [u5, hcode.1], by rw [u6, hcode.2], ⟨e', ?_, u8⟩, fun t v hv => ?_⟩
                  · rw [← Nat.eq_of_beq_eq_true c6]
                    exact cutE_pos u7 (Nat.blt_eq.mp c7)
                  · exact trT_ok (s1 := s1) a.sl b.sl q8 (fun p hp => hm.right p (q9 p hp)) t v _ hv fun v1 hv1 => u9 t v1 hv1
              | _ => cases q8
            | _ => cases z2 <;> first | (cases q8; done) | exact g2
      · intro b e k b' e' k' hb hb' hk hk' hne
        obtain ⟨_, hφ⟩ := cutE_some hb
        obtain ⟨_, hφ'⟩ := cutE_some hb'
        obtain ⟨x, kk, o, q1, rfl, q3, q4, _⟩ := hold b k hk
        obtain ⟨x', kk', o', q1', rfl, q3', q4', _⟩ := hold b' k' hk'
        exact @Rel.apart s1 _ _ _ h3 b e kk b' e' kk' hφ hφ' q3 q3' (by rw [q4, q4']; exact hne)
      · intro b e k b' e' k' hb hb' hk hk' hf _
        obtain ⟨_, hφ⟩ := cutE_some hb
        obtain ⟨_, hφ'⟩ := cutE_some hb'
        obtain ⟨x, kk, o, q1, rfl, q3, q4, _⟩ := hold b k hk
        obtain ⟨x', kk', o', q1', rfl, q3', q4', _⟩ := hold b' k' hk'
        have : b = b' := hf
        subst this
        rw [hφ] at hφ'
        cases hφ'
        rfl
      · obtain ⟨g1, g2⟩ := himm i o hi
        refine ⟨g1, fun b e hb hbi => ?_⟩
        obtain ⟨q1, _, q3⟩ := hbl b e (cutE_some hb).2
        have q4 := h4 b e (cutE_some hb).2
        rw [hbi] at q1 q3 q4
        rcases g2 with g2 | g2 | g2
        · exact g2 q3
        · omega
        · omega

end AE
end Go.Proofs.YtheaofepenbcgaaGreatDoor

/- Loops in frames that hold marks. -/
namespace Go.Proofs.YtheaofepenbcgaaGreatDoor
open Go Go.Proofs Go.RowKit
namespace AE

def headStM (ms : List Nat) (head : Sl) (bks : List Bk) : ASt := { sl := head, ms, A := mkAS bks }

def trAllMs (ms : List Nat) (s : ASt) (sl : Sl) (l : List Bk) : Option Obs := bif decide (s.ms = ms) then trAllM s sl l else none

theorem trAllMs_eq {ms : List Nat} {s : ASt} {sl : Sl} {l : List Bk} {obs : Obs} (h : trAllMs ms s sl l = some obs) : s.ms = ms ∧ trAllM s sl l = some obs := by
  unfold trAllMs at h
  cases hd : decide (s.ms = ms) with
  | false => rw [hd] at h; cases h
  | true =>
    rw [hd, cond_true] at h
    exact ⟨of_decide_eq_true hd, h⟩

theorem Here.moveM [Outer] {s1 s2 : Sig} {N B : Nat} {st : ASt} {w0 w : World} {a : Act} {ms : List Nat} {sl : Sl} {l : List Bk} {obs : Obs} (htr : trAllMs ms st sl l = some obs) (hm : Meet s1 s2 obs)
    (himm : ∀ i o, s2.imm i = some o → s1.imm i = some o) (hn : Outer.n0 ≤ l.length) (hc : SameC st.A l 0) (hh : @Here s1 _ N st B w0 a w) : @Here s2 _ N (headStM ms sl l) B w0 a w := by
  have hi := hh
  obtain ⟨⟨φ, ds, h1, h2, h3, h4, h7⟩, h5, h6⟩ := hi
  obtain ⟨hms, htr'⟩ := trAllMs_eq htr
  have := Here.turnM (fun _ => False) htr' hm (fun _ h => h.elim) ⟨rfl, rfl, rfl, Nat.le_refl _⟩ (Nat.le_refl _) (fun _ _ _ => rfl) (fun i o h => ⟨(@Rel.imm s1 _ _ _ h3 i o (himm i o h)).1, .inl (by rw [himm i o h]; simp)⟩) hn hc hh
  rw [hms] at this
  exact this

/-- What is owed where a loop is come to. -/
def headObsM (ms : List Nat) (head : Sl) (bks : List Bk) : Option Stop → Option Obs
  | some (.loop _ s _) => trAllMs ms s head bks
  | _ => none
def backObsM (ms : List Nat) (head : Sl) (bks : List Bk) : Option Stop → Option Obs
  | some (.done .normal s) => trAllMs ms s head bks
  | _ => none

theorem ostop_loopM [Outer] {P : Program} {N B : Nat} {w0 : World} {s1 : Sig} {X : Type} {sg : X → Sig} (I : X → Prop) (μ : X → Nat) {ms : List Nat} {head : Sl} {bks : List Bk} {o : Option Stop} {obs : Obs} {Q : Exit → Act → World → Prop} (x : X) (hb : headObsM ms head bks o = some obs) (hm : Meet s1 (sg x) obs)
    (himm : ∀ i o, (sg x).imm i = some o → s1.imm i = some o) (hx : I x)
    (round : ∀ x, I x → ∀ a w, @Here (sg x) _ N (headStM ms head bks) B w0 a w → (stopCode o).wpIn (Fr none) 0 P (Exit.then (fun a' w' => ∃ x', I x' ∧ μ x' < μ x ∧ @Here (sg x') _ N (headStM ms head bks) B w0 a' w') (KQ P (stopKs o) Q)) a w)
    (hn : Outer.n0 ≤ bks.length := by first | exact Nat.zero_le _ | exact Nat.le_of_ble_eq_true rfl) (hc : SameC (stopSt o).A bks 0 := by exact sameC_none rfl) : @OStop s1 _ P N B w0 Q o := by
  cases o with
  | none => cases hb
  | some st =>
    refine ⟨st, rfl, ?_⟩
    unfold headObsM at hb
    split at hb
    · rename_i b s ks hst
      cases hst
      intro a w hh
      exact here_loop sg (headStM ms head bks) I μ round x hx (Here.moveM hb hm himm hn hc hh)
    · cases hb

theorem ostop_backMM {s1 : Sig} [Outer] {P : Program} {N B : Nat} {w0 : World} {X : Type} {sg : X → Sig} {I : X → Prop} {μ : X → Nat} {ms : List Nat} {head : Sl} {bks : List Bk} {o : Option Stop} {x : X} (x' : X) {obs : Obs} {Q : Exit → Act → World → Prop} (hb : backObsM ms head bks o = some obs) (hm : Meet s1 (sg x') obs)
    (himm : ∀ i o, (sg x').imm i = some o → s1.imm i = some o) (hI : I x') (hμ : μ x' < μ x) (hn : Outer.n0 ≤ bks.length := by first | exact Nat.zero_le _ | exact Nat.le_of_ble_eq_true rfl) (hc : SameC (stopSt o).A bks 0 := by exact sameC_none rfl) :
    @OStop s1 _ P N B w0 (Exit.then (fun a w => ∃ x', I x' ∧ μ x' < μ x ∧ @Here (sg x') _ N (headStM ms head bks) B w0 a w) Q) o := by
  cases o with
  | none => cases hb
  | some st =>
    refine ⟨st, rfl, ?_⟩
    unfold backObsM at hb
    split at hb
    · rename_i s hst
      cases hst
      intro a w hh
      exact ⟨x', hI, hμ, Here.moveM hb hm himm hn hc hh⟩
    · cases hb

end AE
end Go.Proofs.YtheaofepenbcgaaGreatDoor

/- Appends in frames that hold marks. -/
namespace Go.Proofs.YtheaofepenbcgaaGreatDoor
open Go Go.Proofs Go.RowKit
namespace AE

theorem Here.turnsM [Outer] {M M' : Mem} {vals vals' : List Value} {T : Option Nat} {N B : Nat} {st : ASt} {w0 w w' : World} {a : Act} {sl : Sl} {l : List Bk} {obs : Obs} (htr : trAllM st sl l = some obs) (hm : Meet (sgL M vals) (sgL M' vals') obs) (ht : Turns B M M' T w w') (hn : Outer.n0 ≤ l.length) (hc : SameC st.A l 0)
    (hh : @Here (sgL M vals) _ N st B w0 a w) : @Here (sgL M' vals') _ N { sl, ms := st.ms, A := mkAS l } B w0 a w' :=
  Here.turnM (fun i => some i = T) htr hm (fun i hi => ht.known i hi) ⟨ht.os, ht.tape, ht.output, ht.drawn⟩ ht.size (fun i hi hv => ht.block i hi hv) (fun i o hi => ht.imm i o hi) hn hc hh

theorem ostop_appendM [Outer] {α : Type} {P : Program} {N B : Nat} {w0 : World} {Q : Exit → Act → World → Prop} {M : Mem} {vals : List Value} {o : Option Stop} {t e : TypeId} {k bytes : Nat} {i : TypeInfo} {z vs xv vR : Value} {enc : α → List Value} {l lx l' : List α} {vals2 : Option Addr → Nat → List Value} {sl2 sl3 : Sl} {bks : List Bk} {obs : Obs}
    (hl' : l' = l ++ lx) (h : appOf t o = some (vs, xv)) (ht : P.underlying t = some (.slice e)) (hi : P.info? e = some i) (hz : i.zero = some z) (hsize : i.size = k) (hby : i.bytes = bytes) (hzs : z.cells.size = k) (hk0 : 0 < k) (hk : ∀ x, (enc x).length = k) (hone : ∀ x, ∀ u ∈ enc x, u.oneCell' = true)
    (htr : trAllM (stopSt o) sl2 bks = some obs) (hput : aput N sl2 (stopDst o) vR = some sl3) (hpl : plainS vR = true) (T : Option Nat)
    (hO : ∀ φ w v, @Rel (sgL M vals) φ (stopSt o).A w → @VRel (sgL M vals) φ vs v → OArr B M e k enc v l ∧ obl v = T)
    (hX : ∀ φ w x, @Rel (sgL M vals) φ (stopSt o).A w → @VRel (sgL M vals) φ xv x → Reads w k enc x lx)
    (h63 : l.length + lx.length ≤ maxLen) (hbytes : (l.length + lx.length) * bytes ≤ 140737488355328)
    (hm : ∀ M' a c, Meet (sgL M vals) (sgL M' (vals2 a c)) obs) (hv : ∀ M' a c, @interp (sgL M' (vals2 a c)) vR = .slice a l'.length c)
    (rest : ∀ M' a c, OArr B M' e k enc (.slice a l'.length c) l' → Keeps M M' T → (∀ i, some i = T → B ≤ i) → (∀ i, some i = obl (.slice a l'.length c) → some i = T ∨ M i = none) → ∀ a' w, @Here (sgL M' (vals2 a c)) _ N { sl := sl3, ms := (stopSt o).ms, A := mkAS bks } B w0 a' w → wpListIn (Fr none) 0 P (stopOps o) (KQ P (stopKs o) Q) (stopRest o) a' w)
    (hn : Outer.n0 ≤ bks.length := by first | exact Nat.zero_le _ | exact Nat.le_of_ble_eq_true rfl) (hc : SameC (stopSt o).A bks 0 := by exact sameC_none rfl) : @OStop (sgL M vals) _ P N B w0 Q o := by
  subst hl'
  letI := sgL M vals
  unfold appOf at h
  split at h
  · rename_i op r ops s ks
    refine ⟨_, rfl, fun a w hh => ?_⟩
    split at h
    · rename_i c hop
      split at h
      · rename_i sO xO hcal hargs
        cases hty : decide (c.argTypes = #[t, t]) with
        | false => rw [hty] at h; cases h
        | true =>
          rw [hty, cond_true] at h
          have hty' : c.argTypes = #[t, t] := of_decide_eq_true hty
          split at h
          · rename_i hwt
            cases h
            have hh0 := hh
            obtain ⟨⟨φ, ds, h1, h2, h3, h4, _⟩, h5, h6⟩ := hh
            unfold wpListIn
            rw [wanted_spec h2.get hwt, if_pos rfl]
            have es := evs_rel (gr_nil φ) h2.get sO
            have ex := evs_rel (gr_nil φ) h2.get xO
            obtain ⟨hOa, hT⟩ := hO φ w _ h3 es
            subst hT
            have hw : ∀ i o, M i = some o → w.heap[i]? = some o := hh0.immW
            obtain ⟨v', w', M', g1, g2, g3, g4⟩ := append_own (ty := op.type) ht hi hz hsize hby hzs hk0 hk hone hOa (hX φ w _ h3 ex) hw h6 h63 hbytes
            have hfr := append_blk ht hi hz hsize hby hzs hk0 hk hone hOa (hX φ w _ h3 ex) hw h63 hbytes g1
            have hrun : (execOp a.eval op).run P w = .ok (.value v') w' := by
              unfold execOp resolve
              rw [hop]
              simp only [hcal, hargs, hty', List.map_toArray, List.map_cons, List.map_nil]
              show (do pure (Next.value (← Builtin.append_ #[t, t] op.type #[a.eval sO, a.eval xO])) : Sem Next).run P w = _
              simp only [Sem.run_bind, g1, Result.andThen_ok]
              rfl
            have hnd : ∀ c', op.op ≠ .defer c' := fun c' h => by rw [hop] at h; cases h
            refine ⟨fun _ _ => trivial, ?_⟩
            rw [Oper.semAt_eq _ _ _ hnd, hrun, Oper.uponIn_value]
            obtain ⟨a', c', rfl⟩ := g2.slice
            have hh2 := Here.turnsM (vals' := vals2 a' c') htr (hm M' a' c') g3 hn hc hh0
            letI := sgL M' (vals2 a' c')
            have hh3 := Here.put (d := op.dst) hh2 hpl hput
            rw [hv M' a' c'] at hh3
            exact rest M' a' c' g2 g4 (fun i hi => (g3.known i hi).2) (fun i hi => (hfr i hi).imp id fun hs => by
              cases hM : M i with
              | none => rfl
              | some o =>
                have := (Array.getElem?_eq_some_iff.1 (hw i o hM)).1
                omega) _ w' hh3
          · cases h
      · cases h
    · cases h
  · cases h

end AE
end Go.Proofs.YtheaofepenbcgaaGreatDoor

/- Missing of the program -/
namespace Go.Proofs.YtheaofepenbcgaaGreatDoor
open Go Go.Proofs Go.RowKit
namespace AE
namespace MissG
set_option maxRecDepth 100000
noncomputable def body : Code := (Tryz.f19.body).getD .skip
def N : Nat := 39
noncomputable abbrev at' (N : Nat) (F : List (FOp × Value)) (C : List (FuncId × List Value × Value)) (c : Code) (s : ASt) : Option Stop := evalTo Tryz.prog F C N 1000 10 c s
noncomputable abbrev leave' (N : Nat) (F : List (FOp × Value)) (C : List (FuncId × List Value × Value)) (ks : List KI) (o : Option Stop) : Option Stop := evalLeave Tryz.prog F C N 1000 10 ks o
noncomputable abbrev unr' (N : Nat) (F : List (FOp × Value)) (C : List (FuncId × List Value × Value)) (m : Nat) (o : Option Stop) : Option Stop := evalUnroll Tryz.prog F C N 1000 10 m o
noncomputable abbrev res' (N : Nat) (F : List (FOp × Value)) (C : List (FuncId × List Value × Value)) (ks : List KI) (x : AX) (s : ASt) : Option Stop := evalRes Tryz.prog F C N 1000 10 ks x s
noncomputable abbrev ops' (N : Nat) (F : List (FOp × Value)) (C : List (FuncId × List Value × Value)) (r : List Oper) (ops : Array Oper) (ks : List KI) (s : ASt) : Option Stop := evalOps Tryz.prog F C N 1000 10 r ops ks s
def s0 : ASt := { sl := slots [(1, symv 1), (0, symv 0)], ms := [], A := start }
def F0 : List (FOp × Value) := [(.bin .lss 3 (symv 1) (.int .i64 1), .bool true)]
def C0 : List (FuncId × List Value × Value) := []
theorem e0 : endVal Tryz.prog Tryz.f19 (at' 39 F0 C0 body s0) = some (.slice none 0 0) := by kernel_rfl
def F1 : List (FOp × Value) := [(.bin .lss 3 (symv 1) (.int .i64 1), .bool false),
    (.bin .gtr 3 (symv 1) (.int .i64 8), .bool true)]
def C1 : List (FuncId × List Value × Value) := []
theorem e1 : endVal Tryz.prog Tryz.f19 (at' 39 F1 C1 body s0) = some (.slice none 0 0) := by kernel_rfl
def F2 : List (FOp × Value) := [(.bin .lss 3 (symv 1) (.int .i64 1), .bool false),
    (.bin .gtr 3 (symv 1) (.int .i64 8), .bool false)]
def C2 : List (FuncId × List Value × Value) := []
noncomputable abbrev sf0 := at' 39 F2 C2 body s0
def hf0 : Sl := slots [(17, .func (.func 49) ⟨[]⟩ ⟨[.pointer (some ⟨1, 0, none⟩), .pointer (some ⟨2, 0, none⟩)]⟩), (4, .slice none 0 0), (1, symv 1), (0, symv 0)]
def hg0 : Sl := (Tr.set (symv 2) depth hf0 5).getD .nil
noncomputable def bf0 : List Bk := [⟨.cells (List.replicate 1001 poison), 51, 0⟩, ⟨.cells [symv 0], 22, 0⟩, ⟨.cells [symv 1], 3, 0⟩]
noncomputable def ha0 : Sl := (Tr.set poison depth (stopSt sf0).sl 5).getD .nil
theorem e2 : Tr.set poison depth (stopSt sf0).sl 5 = some ha0 := by kernel_rfl
theorem e3 : (noRefT 0 ha0 && noRefA 0 (stopSt sf0).A) = true := by kernel_rfl
theorem e4 : (stopSt sf0).ms = [] := by kernel_rfl
theorem e5 : frzB sf0 0 5 1001 51 = true := by kernel_rfl
theorem e6 : trAll { sl := ha0, ms := (stopSt sf0).ms, A := (stopSt sf0).A } hf0 bf0 = some [(symv 0, symv 0), (symv 1, symv 1), (symv 0, symv 0), (symv 1, symv 1)] := by kernel_rfl
theorem e7 : Tr.set (symv 2) depth hf0 5 = some hg0 := by kernel_rfl
noncomputable abbrev ra0 := (frzTo { sl := hg0, ms := [], A := mkAS bf0 } sf0)
noncomputable def bc0 : Code := (Tryz.f49.body).getD .skip
noncomputable def rb0 : List Bk := [⟨.cells (List.replicate 1001 poison), 51, 0⟩, ⟨.cells [symv 0], 22, 0⟩, ⟨.cells [symv 1], 3, 0⟩, ⟨.oth .deferred, 0, 0⟩, ⟨.oth (.loop { state := .ready, pending := none, sl := slots [(5, symv 2)], N := 39, params := [18], assign := (rangeCodes ra0).1, body := (rangeCodes ra0).2, dfr := 3 }), 0, 0⟩]
def rs0 : Sl := slots [(5, symv 2), (4, .slice none 0 0), (1, symv 1), (0, symv 0)]
theorem e8 : (rangeAt Tryz.prog 39 ra0).isSome = true := by kernel_rfl
theorem e9 : (rangeD Tryz.prog 39 ra0).1 = 49 := by kernel_rfl
theorem e10 : (setArgs 0 (rangeD Tryz.prog 39 ra0).2.1 .nil).isSome = true := by kernel_rfl
theorem e11 : (rangeD Tryz.prog 39 ra0).2.1.length + (Tryz.f49.ntmps - (rangeD Tryz.prog 39 ra0).2.1.length) = 28 := by kernel_rfl
theorem e12 : (rangeD Tryz.prog 39 ra0).2.2.1.n = 5 := by kernel_rfl
theorem e13 : trT 5 (stopSt ra0).sl rs0 = some [(symv 0, symv 0), (symv 1, symv 1), (symv 2, symv 2)] := by kernel_rfl
theorem e14 : (rangeEnd (mkAS rb0) (rangeD Tryz.prog 39 ra0).2.2.2.2).isSome = true := by kernel_rfl
def F3 : List (FOp × Value) := [(.len #[22] 3 (symv 0), symv 3)]
def C3 : List (FuncId × List Value × Value) := []
noncomputable def bks0 : List Bk := [⟨.cells (List.replicate 1001 poison), 51, 0⟩, ⟨.cells [symv 0], 22, 0⟩, ⟨.cells [symv 1], 3, 0⟩, ⟨.oth .deferred, 0, 0⟩, ⟨.oth (.loop { state := .ready, pending := none, sl := slots [(5, symv 2)], N := 39, params := [18], assign := (rangeCodes ra0).1, body := (rangeCodes ra0).2, dfr := 3 }), 0, 0⟩]
def head0 : Sl := slots [(8, symv 4), (7, symv 3), (6, symv 0), (2, .pointer (some ⟨2, 0, none⟩)), (0, .func (.yield 4) ⟨[]⟩ ⟨[]⟩)]
noncomputable abbrev at0 := at' 28 F3 C3 bc0 (rangeSt Tryz.prog 39 ra0)
theorem e15 : headObs head0 bks0 at0 = some [(symv 3, symv 3), (.int .i64 0, symv 4), (symv 0, symv 0), (symv 0, symv 0), (symv 1, symv 1), (symv 2, symv 2)] := by kernel_rfl
def F4 : List (FOp × Value) := [(.bin .lss 3 (symv 4) (symv 3), .bool true),
    (.ixa 22 (symv 0) (symv 4), symv 5),
    (.ld 24 (symv 5), .agg ⟨[symv 6, symv 7, symv 8, symv 9]⟩),
    (.bin .eql 3 (symv 8) (symv 1), .bool true)]
def C4 : List (FuncId × List Value × Value) := [(10, [.agg ⟨[symv 6, symv 7, symv 8, symv 9]⟩], .bool true)]
def F5 : List (FOp × Value) := [(.ixa 51 (symv 2) (symv 9), symv 11)]
def C5 : List (FuncId × List Value × Value) := []
noncomputable abbrev so1 := at' 28 F4 C4 (stopCode at0) (headSt head0 bks0)
noncomputable def bk1 : List Bk := [⟨.cells (List.replicate 1001 poison), 51, 0⟩, ⟨.cells [symv 0], 22, 0⟩, ⟨.cells [symv 1], 3, 0⟩, ⟨.oth .deferred, 0, 0⟩, ⟨.oth (.loop { state := .busy, pending := none, sl := slots [(5, symv 2)], N := 39, params := [18], assign := (rangeCodes ra0).1, body := (rangeCodes ra0).2, dfr := 3 }), 0, 0⟩]
def hd1 : Sl := slots [(20, .bool true), (8, symv 4), (7, symv 3), (6, symv 0), (2, .pointer (some ⟨2, 0, none⟩)), (0, .func (.yield 4) ⟨[]⟩ ⟨[]⟩)]
def hp1 : Sl := match aput 28 hd1 (some 24) (.bool true) with | some s => s | none => .nil
noncomputable def rn1 := @rndAt Tryz.prog _ ⟨F5⟩ (@ocalls Tryz.prog _ ⟨F5⟩ ⟨C5⟩ .nil 1000 10) 1000 so1
noncomputable def rA1 : AS := (rn1.getD (0, 0, undef, undef, start)).2.2.2.2
noncomputable def rB1 : AS := (endRnd (mkAS bk1) 4).getD start
theorem e16 : rn1 = some (4, 4, symv 11, .bool true, rA1) := by kernel_rfl
theorem e17 : endRnd (mkAS bk1) 4 = some rB1 := by kernel_rfl
theorem e18 : trAll { sl := (stopSt so1).sl, ms := (stopSt so1).ms, A := rA1 } hd1 bk1 = some [(symv 3, symv 3), (symv 4, symv 4), (symv 0, symv 0), (symv 0, symv 0), (symv 1, symv 1), (symv 2, symv 2)] := by kernel_rfl
theorem e19 : aput 28 hd1 (stopDst so1) (.bool true) = some hp1 := by kernel_rfl
theorem e20 : loopCode rA1 4 = some ((rangeCodes ra0).1, (rangeCodes ra0).2) := by kernel_rfl
def F6 : List (FOp × Value) := [(.bin .add 3 (symv 4) (.int .i64 1), symv 10)]
def C6 : List (FuncId × List Value × Value) := []
theorem e21 : backObs head0 bks0 (ops' 28 F6 C6 (stopRest so1) (stopOps so1) (stopKs so1) { sl := hp1, ms := [], A := rB1 }) = some [(symv 3, symv 3), (symv 10, symv 4), (symv 0, symv 0), (symv 0, symv 0), (symv 1, symv 1), (symv 2, symv 2)] := by kernel_rfl
theorem e22 : loopCode (stopSt (ops' 28 F6 C6 (stopRest so1) (stopOps so1) (stopKs so1) { sl := hp1, ms := [], A := rB1 })).A 4 = some ((rangeCodes ra0).1, (rangeCodes ra0).2) := by kernel_rfl
def F7 : List (FOp × Value) := [(.bin .lss 3 (symv 4) (symv 3), .bool true),
    (.ixa 22 (symv 0) (symv 4), symv 5),
    (.ld 24 (symv 5), .agg ⟨[symv 6, symv 7, symv 8, symv 9]⟩),
    (.bin .eql 3 (symv 8) (symv 1), .bool true),
    (.bin .add 3 (symv 4) (.int .i64 1), symv 10)]
def C7 : List (FuncId × List Value × Value) := [(10, [.agg ⟨[symv 6, symv 7, symv 8, symv 9]⟩], .bool false)]
theorem e23 : backObs head0 bks0 (at' 28 F7 C7 (stopCode at0) (headSt head0 bks0)) = some [(symv 3, symv 3), (symv 10, symv 4), (symv 0, symv 0), (symv 0, symv 0), (symv 1, symv 1), (symv 2, symv 2)] := by kernel_rfl
theorem e24 : loopCode (stopSt (at' 28 F7 C7 (stopCode at0) (headSt head0 bks0))).A 4 = some ((rangeCodes ra0).1, (rangeCodes ra0).2) := by kernel_rfl
def F8 : List (FOp × Value) := [(.bin .lss 3 (symv 4) (symv 3), .bool true),
    (.ixa 22 (symv 0) (symv 4), symv 5),
    (.ld 24 (symv 5), .agg ⟨[symv 6, symv 7, symv 8, symv 9]⟩),
    (.bin .eql 3 (symv 8) (symv 1), .bool false),
    (.bin .add 3 (symv 4) (.int .i64 1), symv 10)]
def C8 : List (FuncId × List Value × Value) := []
theorem e25 : backObs head0 bks0 (at' 28 F8 C8 (stopCode at0) (headSt head0 bks0)) = some [(symv 3, symv 3), (symv 10, symv 4), (symv 0, symv 0), (symv 0, symv 0), (symv 1, symv 1), (symv 2, symv 2)] := by kernel_rfl
theorem e26 : loopCode (stopSt (at' 28 F8 C8 (stopCode at0) (headSt head0 bks0))).A 4 = some ((rangeCodes ra0).1, (rangeCodes ra0).2) := by kernel_rfl
def F9 : List (FOp × Value) := [(.bin .lss 3 (symv 4) (symv 3), .bool false)]
def C9 : List (FuncId × List Value × Value) := []
def F10 : List (FOp × Value) := []
def C10 : List (FuncId × List Value × Value) := []
theorem e27 : retObs Tryz.prog Tryz.f49 (.tuple ⟨[]⟩) rb0 (leave' 28 F10 C10 (stopKs at0) (at' 28 F9 C9 (stopCode at0) (headSt head0 bks0))) = some [(symv 0, symv 0), (symv 1, symv 1), (symv 2, symv 2)] := by kernel_rfl
theorem e28 : loopCode (endA Tryz.prog Tryz.f49 (leave' 28 F10 C10 (stopKs at0) (at' 28 F9 C9 (stopCode at0) (headSt head0 bks0)))) 4 = some ((rangeCodes ra0).1, (rangeCodes ra0).2) := by kernel_rfl
theorem e29 : loopCode (stopSt at0).A 4 = some ((rangeCodes ra0).1, (rangeCodes ra0).2) := by kernel_rfl
noncomputable def bks1 : List Bk := [⟨.cells (List.replicate 1001 poison), 51, 0⟩, ⟨.cells [symv 0], 22, 0⟩, ⟨.cells [symv 1], 3, 0⟩, ⟨.oth .deferred, 0, 0⟩]
def head1 : Sl := slots [(8, symv 13), (7, symv 12), (5, symv 2), (4, .slice none 0 0), (1, symv 1), (0, symv 0)]
noncomputable abbrev at1 := res' 39 F10 C10 (stopKs ra0) (afterX Tryz.prog 39 ra0 rb0) (afterSt Tryz.prog 39 ra0 rb0 rs0)
theorem e30 : headObsM [3] head1 bks1 at1 = some [(symv 0, symv 0), (symv 1, symv 1), (.slice none 0 0, symv 12), (symv 2, symv 2), (.int .i64 1, symv 13), (symv 0, symv 0), (symv 1, symv 1)] := by kernel_rfl
def F11 : List (FOp × Value) := [(.bin .sub 3 (symv 1) (.int .i64 1), symv 22),
    (.ix 38 (.agg ⟨[symv 14, symv 15, symv 16, symv 17, symv 18, symv 19, symv 20, symv 21]⟩) (symv 22), symv 23),
    (.bin .leq 3 (symv 13) (symv 23), .bool true),
    (.ixa 51 (symv 2) (symv 13), symv 24),
    (.ld 4 (symv 24), .bool true),
    (.bin .add 3 (symv 13) (.int .i64 1), symv 25)]
def C11 : List (FuncId × List Value × Value) := [(21, [symv 0], .agg ⟨[symv 14, symv 15, symv 16, symv 17, symv 18, symv 19, symv 20, symv 21]⟩)]
theorem e31 : backObsM [3] head1 bks1 (at' 39 F11 C11 (stopCode at1) (headStM [3] head1 bks1)) = some [(symv 0, symv 0), (symv 1, symv 1), (symv 12, symv 12), (symv 2, symv 2), (symv 25, symv 13), (symv 0, symv 0), (symv 1, symv 1)] := by kernel_rfl
def F12 : List (FOp × Value) := [(.bin .sub 3 (symv 1) (.int .i64 1), symv 22),
    (.ix 38 (.agg ⟨[symv 14, symv 15, symv 16, symv 17, symv 18, symv 19, symv 20, symv 21]⟩) (symv 22), symv 23),
    (.bin .leq 3 (symv 13) (symv 23), .bool true),
    (.ixa 51 (symv 2) (symv 13), symv 24),
    (.ld 4 (symv 24), .bool false)]
def C12 : List (FuncId × List Value × Value) := [(21, [symv 0], .agg ⟨[symv 14, symv 15, symv 16, symv 17, symv 18, symv 19, symv 20, symv 21]⟩)]
theorem e32 : cellsAt (stopSt (at' 39 F12 C12 (stopCode at1) (headStM [3] head1 bks1))).A 1 (.slice (some ⟨4, 0, none⟩) 1 1) = some [symv 13] := by kernel_rfl
theorem e33 : appOf 36 (at' 39 F12 C12 (stopCode at1) (headStM [3] head1 bks1)) = some (symv 12, .slice (some ⟨4, 0, none⟩) 1 1) := by kernel_rfl
noncomputable abbrev so2 := at' 39 F12 C12 (stopCode at1) (headStM [3] head1 bks1)
noncomputable def bk2 : List Bk := [⟨.cells (List.replicate 1001 poison), 51, 0⟩, ⟨.cells [symv 0], 22, 0⟩, ⟨.cells [symv 1], 3, 0⟩, ⟨.oth .deferred, 0, 0⟩]
def hd2 : Sl := slots [(8, symv 13), (7, symv 12), (5, symv 2), (4, .slice none 0 0), (1, symv 1), (0, symv 0)]
def hp2 : Sl := match aput 39 hd2 (some 37) (symv 26) with | some s => s | none => .nil
theorem e34 : trAllM (stopSt so2) hd2 bk2 = some [(symv 0, symv 0), (symv 1, symv 1), (symv 12, symv 12), (symv 2, symv 2), (symv 13, symv 13), (symv 0, symv 0), (symv 1, symv 1)] := by kernel_rfl
theorem e35 : aput 39 hd2 (stopDst so2) (symv 26) = some hp2 := by kernel_rfl
def F13 : List (FOp × Value) := [(.bin .add 3 (symv 13) (.int .i64 1), symv 25)]
def C13 : List (FuncId × List Value × Value) := []
theorem e36 : backObsM [3] head1 bks1 (ops' 39 F13 C13 (stopRest so2) (stopOps so2) (stopKs so2) { sl := hp2, ms := (stopSt so2).ms, A := mkAS bk2 }) = some [(symv 0, symv 0), (symv 1, symv 1), (symv 26, symv 12), (symv 2, symv 2), (symv 25, symv 13), (symv 0, symv 0), (symv 1, symv 1)] := by kernel_rfl
def F14 : List (FOp × Value) := [(.bin .sub 3 (symv 1) (.int .i64 1), symv 22),
    (.ix 38 (.agg ⟨[symv 14, symv 15, symv 16, symv 17, symv 18, symv 19, symv 20, symv 21]⟩) (symv 22), symv 23),
    (.bin .leq 3 (symv 13) (symv 23), .bool false)]
def C14 : List (FuncId × List Value × Value) := [(21, [symv 0], .agg ⟨[symv 14, symv 15, symv 16, symv 17, symv 18, symv 19, symv 20, symv 21]⟩)]
theorem e37 : endVal Tryz.prog Tryz.f19 (leave' 39 F10 C10 (stopKs at1) (at' 39 F14 C14 (stopCode at1) (headStM [3] head1 bks1))) = some (symv 12) := by kernel_rfl
@[reducible] noncomputable def vL (l : List St) (a_l : Option Addr) (c_l : Nat) (site : Int) (hv : List Bool) (i : Nat) (b : List Int) (a : Option Addr) (c : Nat) (n : Nat) (gV : Nat) (b0 : List Int) (a0 : Option Addr) (c0 : Nat) : List Value := [.slice a_l l.length c_l, .int .i64 site, .pointer (some ⟨gV, 0, none⟩), .int .i64 ((l.length : Nat) : Int), .int .i64 ((i : Nat) : Int), cellPtr (.slice a_l l.length c_l) (i * 4), .int .i64 (l.getD (i) default).1, .int .i64 (l.getD (i) default).2.1, .int .i64 (l.getD (i) default).2.2.1, .int .i64 (l.getD (i) default).2.2.2, .int .i64 ((i + 1 : Nat) : Int), .pointer (some ⟨gV, ((l.getD (i) default).2.2.2).toNat, none⟩), .slice a b.length c, .int .i64 ((n : Nat) : Int), .int .i64 (cntAll l 1), .int .i64 (cntAll l 2), .int .i64 (cntAll l 3), .int .i64 (cntAll l 4), .int .i64 (cntAll l 5), .int .i64 (cntAll l 6), .int .i64 (cntAll l 7), .int .i64 (cntAll l 8), .int .i64 (site - 1), .int .i64 (cntAll l site), .pointer (some ⟨gV, n, none⟩), .int .i64 ((n + 1 : Nat) : Int), .slice a0 b0.length c0]
@[reducible] noncomputable def sg (M : Mem) (l : List St) (a_l : Option Addr) (c_l : Nat) (site : Int) (hv : List Bool) (i : Nat) (b : List Int) (a : Option Addr) (c : Nat) (n : Nat) (gV : Nat) (b0 : List Int) (a0 : Option Addr) (c0 : Nat) : Sig := sgL M (vL l a_l c_l site hv i b a c n gV b0 a0 c0)
set_option maxHeartbeats 4000000 in
set_option maxRecDepth 100000 in
theorem any (W : World) {v_l : Value} {l : List St} (hl : Arr (heapOf W) 4 encS v_l l) (site : Int) (hn : l.length ≤ 100000) : Calls Tryz.prog 19 #[v_l, .int .i64 site] W fun e w' => (∃ a c, e = .returned (.slice a (missA l site).length c) ∧ OArr W.heap.size (heapOf w') elI 1 encI (.slice a (missA l site).length c) (missA l site)) ∧ Low W.heap.size W w' := by
  obtain ⟨a_l, c_l, rfl⟩ := hl.slice
  refine @walk_enter (sg (heapOf W) l a_l c_l site [] 0 [] none 0 0 0 [] none 0) Tryz.prog 19 Tryz.f19 body [symv 0, symv 1] (slots [(1, symv 1), (0, symv 0)]) N W _ Tryz.func19 (by kernel_rfl) (by kernel_rfl) (by kernel_rfl) (by kernel_rfl) (immW_sgL W _) fun a hh => ?_
  letI := (sg (heapOf W) l a_l c_l site [] 0 [] none 0 0 0 [] none 0)
  have hcb := cntAll_bound l site
  by_cases h0 : site < 1
  · refine walk_to (F := F0) (T := C0) (fuel := 1000) (d := 10) mixed (allF_cons (FactOk.bi rfl rfl rfl rfl rfl rfl (boolT (by omega))) allF_nil) allC_nil ?_ hh
    exact ostop_end e0 fun w2 hLow hIn => ⟨(by first | exact newEnd_nil (missA_no (by omega)) | exact newEnd hO (missA_at (by omega) (by omega) hn1 (by omega) hI.2.2.2.2.1) hIn), hLow⟩ 
  · by_cases h1 : 8 < site
    · refine walk_to (F := F1) (T := C1) (fuel := 1000) (d := 10) mixed (allF_cons (FactOk.bi rfl rfl rfl rfl rfl rfl (boolF (by omega))) (allF_cons (FactOk.bi rfl rfl rfl rfl rfl rfl (boolT (by omega))) allF_nil)) allC_nil ?_ hh
      exact ostop_end e1 fun w2 hLow hIn => ⟨(by first | exact newEnd_nil (missA_no (by omega)) | exact newEnd hO (missA_at (by omega) (by omega) hn1 (by omega) hI.2.2.2.2.1) hIn), hLow⟩ 
    · refine walk_to (F := F2) (T := C2) (fuel := 1000) (d := 10) mixed (allF_cons (FactOk.bi rfl rfl rfl rfl rfl rfl (boolF (by omega))) (allF_cons (FactOk.bi rfl rfl rfl rfl rfl rfl (boolF (by omega))) allF_nil)) allC_nil ?_ hh
      refine ostop_freezeB (b := 0) (t := 5) (n := 1001) (ty := 51) (q := 2) (vals2 := fun gV => vL  l a_l c_l site [] 0 [] none 0 0 gV [] none 0) (sl := hf0) (sl' := hg0) (l := bf0) e5 rfl e2 e3 e4 e6 (fun _ _ => (meet_cons (by exact meetV _ rfl rfl) (meet_cons (by exact meetV _ rfl rfl) (meet_cons (by exact meetV _ rfl rfl) (meet_cons (by exact meetV _ rfl rfl) meet_nil))))) e7 (fun _ => rfl) ?_
      intro gV MV hVV hMV hnV
      letI := (sg MV l a_l c_l site [] 0 [] none 0 0 gV [] none 0)
      refine ostop_rangeX (N' := 28) (n := 5) (fn := Tryz.f49) (c := bc0) (sgR := fun (⟨MY, hY1⟩ : Mem × List Bool) => (sg MY l a_l c_l site [] 0 [] none 0 0 gV [] none 0)) (R := fun (⟨MY, hY1⟩ : Mem × List Bool) => OVar W.heap.size MY 51 encB gV hY1 ∧ (∀ j o, heapOf W j = some o → MY j = some o) ∧ hY1.length = 1001 ∧ (∀ n, n ≤ 1000 → hY1.getD n false = hasTo l site n l.length)) (vR := .tuple ⟨[]⟩) (bksR := rb0) (sl2 := rs0) e8 ((congrArg (fun f => Tryz.prog.funcs[f]?) e9).trans Tryz.func49) (by kernel_rfl) e10 e11 e12 e13 e14 (fun _ _ => (meet_cons (by exact meetV _ rfl rfl) (meet_cons (by exact meetV _ rfl rfl) (meet_cons (by exact meetV _ rfl rfl) meet_nil)))) ?_ ?_
      · intro φ aC w hh
        letI : Outer := ⟨φ, 5⟩
        refine walk_to (F := F3) (T := C3) (fuel := 1000) (d := 10) mixed (allF_cons (FactOk.arrLen (hl.mono hMV) rfl rfl under27 rfl rfl) allF_nil) allC_nil ?_ hh
        refine ostop_loop (sg := (fun (⟨MV1, hv, i⟩ : Mem × List Bool × Nat) => sg MV1 l a_l c_l site hv i [] none 0 0 gV [] none 0)) (fun (⟨MV1, hv, i⟩ : Mem × List Bool × Nat) => OVar W.heap.size MV1 51 encB gV hv ∧ (∀ j o, heapOf W j = some o → MV1 j = some o) ∧ i ≤ l.length ∧ hv.length = 1001 ∧ (∀ n, n ≤ 1000 → hv.getD n false = hasTo l site n i)) (fun (⟨MV1, hv, i⟩ : Mem × List Bool × Nat) => l.length - i) ⟨MV, List.replicate 1001 false, 0⟩ e15 (meet_cons (by exact meetV _ rfl rfl) (meet_cons rfl (meet_cons (by exact meetV _ rfl rfl) (meet_cons (by exact meetV _ rfl rfl) (meet_cons (by exact meetV _ rfl rfl) (meet_cons (by exact meetV _ rfl rfl) meet_nil)))))) (fun _ _ h => h) (by exact ⟨hVV, hMV, Nat.zero_le _, List.length_replicate, fun n h => by rw [hasTo_zero]; exact getB_rep n⟩) ?_ (hc := ⟨trivial, ⟨trivial, ⟨trivial, ⟨trivial, ⟨e29, trivial⟩⟩⟩⟩⟩)
        intro ⟨MV1, hv, i⟩ hI aC w hh
        letI := (sg MV1 l a_l c_l site hv i [] none 0 0 gV [] none 0)
        have hVV1 := hI.1
        have hMV1 := hI.2.1
        have hi1 := hI.2.2.1
        have hvl := hI.2.2.2.1
        by_cases q0 : ((i : Nat) : Int) < ((l.length : Nat) : Int)
        · by_cases q1 : (l.getD (i) default).2.2.1 = site
          · by_cases q2 : (0 ≤ (l.getD (i) default).1 ∧ (l.getD (i) default).1 ≤ 4000 ∧ 1 ≤ (l.getD (i) default).2.1 ∧ (l.getD (i) default).2.1 ≤ 1000000 ∧ 1 ≤ (l.getD (i) default).2.2.1 ∧ (l.getD (i) default).2.2.1 ≤ 8 ∧ 1 ≤ (l.getD (i) default).2.2.2 ∧ (l.getD (i) default).2.2.2 ≤ 1000)
            · refine walk_to (F := F4) (T := C4) (fuel := 1000) (d := 10) mixed (allF_cons (FactOk.bi rfl rfl rfl rfl rfl rfl (boolT (by omega))) (allF_cons (FactOk.arrIxa (hl.mono hMV1) (show i < l.length by omega) rfl rfl rfl under27 sizeSt rfl rfl rfl) (allF_cons (FactOk.arrLd (hl.mono hMV1) (getSome (show i < l.length by omega)) rfl rfl aggSt sizeSt rfl rfl rfl) (allF_cons (FactOk.bi rfl rfl rfl rfl rfl rfl (boolT (by omega))) allF_nil)))) (allC_cons (callValidT rfl rfl q2) allC_nil) ?_ hh
              obtain ⟨b0, hb0⟩ : ∃ b0 : List Bool, b0 = hv.set (((l.getD (i) default).2.2.2).toNat) true := ⟨_, rfl⟩
              have hn0 : b0.length = hv.length := by rw [hb0, List.length_set]
              refine ostop_roundS (F := F5) (T := C5) (fuel := 1000) (d := 10) (c := Value.bool) (y := true) (vals2 := (vL l a_l c_l site hv i [] none 0 0 gV [] none 0)) mixed (allF_cons (FactOk.ixaP1 rfl rfl rfl underA sizeB rfl (natI (by omega)) (show ((l.getD (i) default).2.2.2).toNat < 1001 by omega) rfl) allF_nil) allC_nil hb0 e16 sizeB rfl rfl rfl rfl (fun _ => ⟨fun h => (by cases h), fun h => (by cases h)⟩) rfl hVV1 (show ((l.getD (i) default).2.2.2).toNat < hv.length by omega) e18 (fun _ => (meet_cons (by exact meetV _ rfl rfl) (meet_cons (by exact meetV _ rfl rfl) (meet_cons (by exact meetV _ rfl rfl) (meet_cons (by exact meetV _ rfl rfl) (meet_cons (by exact meetV _ rfl rfl) (meet_cons (by exact meetV _ rfl rfl) meet_nil))))))) e19 e17 (Nat.le_of_ble_eq_true rfl) ?_ (hc := ⟨trivial, ⟨trivial, ⟨trivial, ⟨trivial, ⟨e20, trivial⟩⟩⟩⟩⟩)
              intro M0 hO0 hK0 aC w hh
              have hM0 := hK0.up (fun i h => by cases h; exact hVV1.1) (Nat.le_refl _) hMV1
              letI := (sg M0 l a_l c_l site hv i [] none 0 0 gV [] none 0)
              refine walk_ops (F := F6) (T := C6) (fuel := 1000) (d := 10) mixed (allF_cons (FactOk.bi rfl rfl rfl rfl rfl rfl (intI (by omega) (by omega) (by omega))) allF_nil) allC_nil ?_ hh
              exact ostop_backM (s1 := (sg M0 l a_l c_l site hv i [] none 0 0 gV [] none 0)) (sg := (fun (⟨MV1, hv, i⟩ : Mem × List Bool × Nat) => sg MV1 l a_l c_l site hv i [] none 0 0 gV [] none 0)) (I := fun (⟨MV1, hv, i⟩ : Mem × List Bool × Nat) => OVar W.heap.size MV1 51 encB gV hv ∧ (∀ j o, heapOf W j = some o → MV1 j = some o) ∧ i ≤ l.length ∧ hv.length = 1001 ∧ (∀ n, n ≤ 1000 → hv.getD n false = hasTo l site n i)) (μ := fun (⟨MV1, hv, i⟩ : Mem × List Bool × Nat) => l.length - i) (x := ⟨MV1, hv, i⟩) ⟨M0, b0, i + 1⟩ e21 (meet_cons (by exact meetV _ rfl rfl) (meet_cons (by exact meetV _ rfl rfl) (meet_cons (by exact meetV _ rfl rfl) (meet_cons (by exact meetV _ rfl rfl) (meet_cons (by exact meetV _ rfl rfl) (meet_cons (by exact meetV _ rfl rfl) meet_nil)))))) (fun _ _ h => h) (by first | exact ⟨hO0, hM0, by omega, by omega, fun n h => by rw [hb0]; exact hasTo_set hI.2.2.2.2 (by omega) hvl n h q1 q2⟩ | exact ⟨hVV1, hMV1, by omega, hvl, fun n h => by rw [hI.2.2.2.2 n h]; first | exact hasTo_no1 (by omega) (by omega) | exact hasTo_no2 (by omega) q2⟩) (by (try dsimp only); omega) (hc := ⟨trivial, ⟨trivial, ⟨trivial, ⟨trivial, ⟨e22, trivial⟩⟩⟩⟩⟩)
            · refine walk_to (F := F7) (T := C7) (fuel := 1000) (d := 10) mixed (allF_cons (FactOk.bi rfl rfl rfl rfl rfl rfl (boolT (by omega))) (allF_cons (FactOk.arrIxa (hl.mono hMV1) (show i < l.length by omega) rfl rfl rfl under27 sizeSt rfl rfl rfl) (allF_cons (FactOk.arrLd (hl.mono hMV1) (getSome (show i < l.length by omega)) rfl rfl aggSt sizeSt rfl rfl rfl) (allF_cons (FactOk.bi rfl rfl rfl rfl rfl rfl (boolT (by omega))) (allF_cons (FactOk.bi rfl rfl rfl rfl rfl rfl (intI (by omega) (by omega) (by omega))) allF_nil))))) (allC_cons (callValidF rfl rfl q2) allC_nil) ?_ hh
              exact ostop_backM (s1 := (sg MV1 l a_l c_l site hv i [] none 0 0 gV [] none 0)) (sg := (fun (⟨MV1, hv, i⟩ : Mem × List Bool × Nat) => sg MV1 l a_l c_l site hv i [] none 0 0 gV [] none 0)) (I := fun (⟨MV1, hv, i⟩ : Mem × List Bool × Nat) => OVar W.heap.size MV1 51 encB gV hv ∧ (∀ j o, heapOf W j = some o → MV1 j = some o) ∧ i ≤ l.length ∧ hv.length = 1001 ∧ (∀ n, n ≤ 1000 → hv.getD n false = hasTo l site n i)) (μ := fun (⟨MV1, hv, i⟩ : Mem × List Bool × Nat) => l.length - i) (x := ⟨MV1, hv, i⟩) ⟨MV1, hv, i + 1⟩ e23 (meet_cons (by exact meetV _ rfl rfl) (meet_cons (by exact meetV _ rfl rfl) (meet_cons (by exact meetV _ rfl rfl) (meet_cons (by exact meetV _ rfl rfl) (meet_cons (by exact meetV _ rfl rfl) (meet_cons (by exact meetV _ rfl rfl) meet_nil)))))) (fun _ _ h => h) (by first | exact ⟨hO0, hM0, by omega, by omega, fun n h => by rw [hb0]; exact hasTo_set hI.2.2.2.2 (by omega) hvl n h q1 q2⟩ | exact ⟨hVV1, hMV1, by omega, hvl, fun n h => by rw [hI.2.2.2.2 n h]; first | exact hasTo_no1 (by omega) (by omega) | exact hasTo_no2 (by omega) q2⟩) (by (try dsimp only); omega) (hc := ⟨trivial, ⟨trivial, ⟨trivial, ⟨trivial, ⟨e24, trivial⟩⟩⟩⟩⟩)
          · refine walk_to (F := F8) (T := C8) (fuel := 1000) (d := 10) mixed (allF_cons (FactOk.bi rfl rfl rfl rfl rfl rfl (boolT (by omega))) (allF_cons (FactOk.arrIxa (hl.mono hMV1) (show i < l.length by omega) rfl rfl rfl under27 sizeSt rfl rfl rfl) (allF_cons (FactOk.arrLd (hl.mono hMV1) (getSome (show i < l.length by omega)) rfl rfl aggSt sizeSt rfl rfl rfl) (allF_cons (FactOk.bi rfl rfl rfl rfl rfl rfl (boolF (by omega))) (allF_cons (FactOk.bi rfl rfl rfl rfl rfl rfl (intI (by omega) (by omega) (by omega))) allF_nil))))) allC_nil ?_ hh
            exact ostop_backM (s1 := (sg MV1 l a_l c_l site hv i [] none 0 0 gV [] none 0)) (sg := (fun (⟨MV1, hv, i⟩ : Mem × List Bool × Nat) => sg MV1 l a_l c_l site hv i [] none 0 0 gV [] none 0)) (I := fun (⟨MV1, hv, i⟩ : Mem × List Bool × Nat) => OVar W.heap.size MV1 51 encB gV hv ∧ (∀ j o, heapOf W j = some o → MV1 j = some o) ∧ i ≤ l.length ∧ hv.length = 1001 ∧ (∀ n, n ≤ 1000 → hv.getD n false = hasTo l site n i)) (μ := fun (⟨MV1, hv, i⟩ : Mem × List Bool × Nat) => l.length - i) (x := ⟨MV1, hv, i⟩) ⟨MV1, hv, i + 1⟩ e25 (meet_cons (by exact meetV _ rfl rfl) (meet_cons (by exact meetV _ rfl rfl) (meet_cons (by exact meetV _ rfl rfl) (meet_cons (by exact meetV _ rfl rfl) (meet_cons (by exact meetV _ rfl rfl) (meet_cons (by exact meetV _ rfl rfl) meet_nil)))))) (fun _ _ h => h) (by first | exact ⟨hO0, hM0, by omega, by omega, fun n h => by rw [hb0]; exact hasTo_set hI.2.2.2.2 (by omega) hvl n h q1 q2⟩ | exact ⟨hVV1, hMV1, by omega, hvl, fun n h => by rw [hI.2.2.2.2 n h]; first | exact hasTo_no1 (by omega) (by omega) | exact hasTo_no2 (by omega) q2⟩) (by (try dsimp only); omega) (hc := ⟨trivial, ⟨trivial, ⟨trivial, ⟨trivial, ⟨e26, trivial⟩⟩⟩⟩⟩)
        · refine walk_to (F := F9) (T := C9) (fuel := 1000) (d := 10) mixed (allF_cons (FactOk.bi rfl rfl rfl rfl rfl rfl (boolF (by omega))) allF_nil) allC_nil ?_ hh
          refine walk_leave (F := F10) (T := C10) (fuel := 1000) (d := 10) mixed allF_nil allC_nil ?_
          exact ostop_ret (s1 := (sg MV1 l a_l c_l site hv i [] none 0 0 gV [] none 0)) (sgR := fun (⟨MY, hY1⟩ : Mem × List Bool) => (sg MY l a_l c_l site [] 0 [] none 0 0 gV [] none 0)) (R := fun (⟨MY, hY1⟩ : Mem × List Bool) => OVar W.heap.size MY 51 encB gV hY1 ∧ (∀ j o, heapOf W j = some o → MY j = some o) ∧ hY1.length = 1001 ∧ (∀ n, n ≤ 1000 → hY1.getD n false = hasTo l site n l.length)) ⟨MV1, hv⟩ e27 (meet_cons (by exact meetV _ rfl rfl) (meet_cons (by exact meetV _ rfl rfl) (meet_cons (by exact meetV _ rfl rfl) meet_nil))) (fun _ _ h => h) (by exact ⟨hVV1, hMV1, hvl, fun n h => by rw [hI.2.2.2.2 n h, show i = l.length by omega]⟩) (Nat.le_of_ble_eq_true rfl) ⟨trivial, ⟨trivial, ⟨trivial, ⟨trivial, ⟨e28, trivial⟩⟩⟩⟩⟩
      · intro ⟨MY, hY1⟩ hY aC w hh
        letI := (sg MY l a_l c_l site [] 0 [] none 0 0 gV [] none 0)
        have hVY := hY.1
        have hMY := hY.2.1
        have hYl := hY.2.2.1
        have hYc := hY.2.2.2
        refine walk_res (F := F10) (T := C10) (fuel := 1000) (d := 10) mixed allF_nil allC_nil ?_ hh
        refine ostop_loopM (sg := (fun (⟨M, b, a, c, n⟩ : Mem × List Int × Option Addr × Nat × Nat) => sg M l a_l c_l site [] 0 b a c n gV [] none 0)) (fun (⟨M, b, a, c, n⟩ : Mem × List Int × Option Addr × Nat × Nat) => OArr W.heap.size M elI 1 encI (.slice a b.length c) b ∧ (∀ j o, MY j = some o → M j = some o) ∧ 1 ≤ n ∧ (n : Int) ≤ cntAll l site + 1 ∧ b = missN l site (n - 1) ∧ (∀ i, some i = obl (.slice a b.length c) → MY i = none)) (fun (⟨M, b, a, c, n⟩ : Mem × List Int × Option Addr × Nat × Nat) => 1002 - n) ⟨MY, [], none, 0, 1⟩ e30 (meet_cons (by exact meetV _ rfl rfl) (meet_cons (by exact meetV _ rfl rfl) (meet_cons rfl (meet_cons (by exact meetV _ rfl rfl) (meet_cons rfl (meet_cons (by exact meetV _ rfl rfl) (meet_cons (by exact meetV _ rfl rfl) meet_nil))))))) (fun _ _ h => h) (by exact ⟨OArr.nil _ _ _ _ _ _, fun _ _ h => h, Nat.le_refl _, by omega, rfl, fun i h => by cases h⟩) ?_
        intro ⟨M, b, a, c, n⟩ hI aC w hh
        letI := (sg M l a_l c_l site [] 0 b a c n gV [] none 0)
        have hO := hI.1
        have hMM := hI.2.1
        have hM : ∀ j o, heapOf W j = some o → M j = some o := fun j o h => hMM j o (hMY j o h)
        have hVM := hVY.mono2 hMM
        have hfr := hI.2.2.2.2.2
        have hn1 := hI.2.2.1
        have hn2 := hI.2.2.2.1
        have hbl : b.length ≤ n - 1 := by rw [hI.2.2.2.2.1]; exact missN_len l site (n - 1)
        by_cases p0 : ((n : Nat) : Int) ≤ (cntAll l site)
        · by_cases p1 : hY1.getD (n) false = true
          · refine walk_to (F := F11) (T := C11) (fuel := 1000) (d := 10) mixed (allF_cons (FactOk.bi rfl rfl rfl rfl rfl rfl (intI (by omega) (by omega) (by omega))) (allF_cons (ixCounts rfl rfl rfl rfl rfl rfl (by omega) (by omega)) (allF_cons (FactOk.bi rfl rfl rfl rfl rfl rfl (boolT (by omega))) (allF_cons (FactOk.ixaP1 rfl rfl rfl underA sizeB rfl rfl (show n < 1001 by omega) rfl) (allF_cons (FactOk.ovarLd hVM (getB_true p1) rfl rfl aggBool rfl rfl) (allF_cons (FactOk.bi rfl rfl rfl rfl rfl rfl (intI (by omega) (by omega) (by omega))) allF_nil)))))) (allC_cons (callCounts rfl rfl rfl rfl (hl.mono hM) (by omega)) allC_nil) ?_ hh
            exact ostop_backMM (s1 := (sg M l a_l c_l site [] 0 b a c n gV [] none 0)) (sg := (fun (⟨M, b, a, c, n⟩ : Mem × List Int × Option Addr × Nat × Nat) => sg M l a_l c_l site [] 0 b a c n gV [] none 0)) (I := fun (⟨M, b, a, c, n⟩ : Mem × List Int × Option Addr × Nat × Nat) => OArr W.heap.size M elI 1 encI (.slice a b.length c) b ∧ (∀ j o, MY j = some o → M j = some o) ∧ 1 ≤ n ∧ (n : Int) ≤ cntAll l site + 1 ∧ b = missN l site (n - 1) ∧ (∀ i, some i = obl (.slice a b.length c) → MY i = none)) (μ := fun (⟨M, b, a, c, n⟩ : Mem × List Int × Option Addr × Nat × Nat) => 1002 - n) (x := ⟨M, b, a, c, n⟩) ⟨M, b, a, c, n + 1⟩ e31 (meet_cons (by exact meetV _ rfl rfl) (meet_cons (by exact meetV _ rfl rfl) (meet_cons (by exact meetV _ rfl rfl) (meet_cons (by exact meetV _ rfl rfl) (meet_cons (by exact meetV _ rfl rfl) (meet_cons (by exact meetV _ rfl rfl) (meet_cons (by exact meetV _ rfl rfl) meet_nil))))))) (fun _ _ h => h) (by first | exact ⟨hO0, fun j o h => hK0 j o (hMM j o h) (fun he => by rw [hfr j he] at h; cases h), by omega, by omega, by rw [hb0, hI.2.2.2.2.1]; exact missN_no hn1 ((hasTo_len l site n).symm.trans ((hYc n (by omega)).symm.trans (by simpa using p1))), fun i hi => (hF0 i hi).elim (hfr i) (fun h => by cases hy : MY i with | none => rfl | some o => rw [hMM i o hy] at h; cases h)⟩ | exact ⟨hO, hMM, by omega, by omega, hI.2.2.2.2.1.trans (missN_yes hn1 ((hasTo_len l site n).symm.trans ((hYc n (by omega)).symm.trans p1))), hfr⟩) (by (try dsimp only); omega)
          · refine walk_to (F := F12) (T := C12) (fuel := 1000) (d := 10) mixed (allF_cons (FactOk.bi rfl rfl rfl rfl rfl rfl (intI (by omega) (by omega) (by omega))) (allF_cons (ixCounts rfl rfl rfl rfl rfl rfl (by omega) (by omega)) (allF_cons (FactOk.bi rfl rfl rfl rfl rfl rfl (boolT (by omega))) (allF_cons (FactOk.ixaP1 rfl rfl rfl underA sizeB rfl rfl (show n < 1001 by omega) rfl) (allF_cons (FactOk.ovarLd hVM (getB_false p1 (show n < hY1.length by omega)) rfl rfl aggBool rfl rfl) allF_nil))))) (allC_cons (callCounts rfl rfl rfl rfl (hl.mono hM) (by omega)) allC_nil) ?_ hh
            obtain ⟨b0, hb0⟩ : ∃ b0 : List Int, b0 = b ++ [((n : Nat) : Int)] := ⟨_, rfl⟩
            have hn0 : b0.length = b.length + 1 := by rw [hb0]; first | rfl | simp
            refine ostop_appendM (l := b) (lx := [((n : Nat) : Int)]) (l' := b0) (vals2 := fun aV cV => (vL l a_l c_l site [] 0 b a c n gV b0 aV cV)) (T := (obl (.slice a b.length c))) hb0 e33 underIl infoI zeroI iszI ibyI zszI (by decide) hkI honeI e34 e35 rfl (appTo_sym rfl rfl hO) (app_cells e32 hkI (by decide) rfl) (lenMax (show b.length + 1 ≤ 1000000 by omega)) (show (b.length + 1) * bytesI ≤ 140737488355328 by unfold bytesI; omega) (fun _ _ _ => (meet_cons (by exact meetV _ rfl rfl) (meet_cons (by exact meetV _ rfl rfl) (meet_cons (by exact meetV _ rfl rfl) (meet_cons (by exact meetV _ rfl rfl) (meet_cons (by exact meetV _ rfl rfl) (meet_cons (by exact meetV _ rfl rfl) (meet_cons (by exact meetV _ rfl rfl) meet_nil)))))))) (fun _ _ _ => rfl) ?_
            intro M0 a0 c0 hO0 hK0 hT0 hF0 aC w hh
            have hM0 := hK0.up hT0 (Nat.le_refl _) hM
            letI := (sg M0 l a_l c_l site [] 0 b a c n gV b0 a0 c0)
            refine walk_ops (F := F13) (T := C13) (fuel := 1000) (d := 10) mixed (allF_cons (FactOk.bi rfl rfl rfl rfl rfl rfl (intI (by omega) (by omega) (by omega))) allF_nil) allC_nil ?_ hh
            exact ostop_backMM (s1 := (sg M0 l a_l c_l site [] 0 b a c n gV b0 a0 c0)) (sg := (fun (⟨M, b, a, c, n⟩ : Mem × List Int × Option Addr × Nat × Nat) => sg M l a_l c_l site [] 0 b a c n gV [] none 0)) (I := fun (⟨M, b, a, c, n⟩ : Mem × List Int × Option Addr × Nat × Nat) => OArr W.heap.size M elI 1 encI (.slice a b.length c) b ∧ (∀ j o, MY j = some o → M j = some o) ∧ 1 ≤ n ∧ (n : Int) ≤ cntAll l site + 1 ∧ b = missN l site (n - 1) ∧ (∀ i, some i = obl (.slice a b.length c) → MY i = none)) (μ := fun (⟨M, b, a, c, n⟩ : Mem × List Int × Option Addr × Nat × Nat) => 1002 - n) (x := ⟨M, b, a, c, n⟩) ⟨M0, b0, a0, c0, n + 1⟩ e36 (meet_cons (by exact meetV _ rfl rfl) (meet_cons (by exact meetV _ rfl rfl) (meet_cons (by exact meetV _ rfl rfl) (meet_cons (by exact meetV _ rfl rfl) (meet_cons (by exact meetV _ rfl rfl) (meet_cons (by exact meetV _ rfl rfl) (meet_cons (by exact meetV _ rfl rfl) meet_nil))))))) (fun _ _ h => h) (by first | exact ⟨hO0, fun j o h => hK0 j o (hMM j o h) (fun he => by rw [hfr j he] at h; cases h), by omega, by omega, by rw [hb0, hI.2.2.2.2.1]; exact missN_no hn1 ((hasTo_len l site n).symm.trans ((hYc n (by omega)).symm.trans (by simpa using p1))), fun i hi => (hF0 i hi).elim (hfr i) (fun h => by cases hy : MY i with | none => rfl | some o => rw [hMM i o hy] at h; cases h)⟩ | exact ⟨hO, hMM, by omega, by omega, hI.2.2.2.2.1.trans (missN_yes hn1 ((hasTo_len l site n).symm.trans ((hYc n (by omega)).symm.trans p1))), hfr⟩) (by (try dsimp only); omega)
        · refine walk_to (F := F14) (T := C14) (fuel := 1000) (d := 10) mixed (allF_cons (FactOk.bi rfl rfl rfl rfl rfl rfl (intI (by omega) (by omega) (by omega))) (allF_cons (ixCounts rfl rfl rfl rfl rfl rfl (by omega) (by omega)) (allF_cons (FactOk.bi rfl rfl rfl rfl rfl rfl (boolF (by omega))) allF_nil))) (allC_cons (callCounts rfl rfl rfl rfl (hl.mono hM) (by omega)) allC_nil) ?_ hh
          refine walk_leave (F := F10) (T := C10) (fuel := 1000) (d := 10) mixed allF_nil allC_nil ?_
          exact ostop_end e37 fun w2 hLow hIn => ⟨(by first | exact newEnd_nil (missA_no (by omega)) | exact newEnd hO (missA_at (by omega) (by omega) hn1 (by omega) hI.2.2.2.2.1) hIn), hLow⟩ 
end MissG
end AE
end Go.Proofs.YtheaofepenbcgaaGreatDoor

/- StampNextMatchesSpec: the law for all stamps -/
namespace Go.Proofs.YtheaofepenbcgaaGreatDoor
open Go Go.Proofs Go.RowKit
namespace AE
namespace NextSpG
set_option maxRecDepth 100000
noncomputable def body : Code := (Tryz.f4.body).getD .skip
def N : Nat := 60
noncomputable abbrev at' (N : Nat) (F : List (FOp × Value)) (C : List (FuncId × List Value × Value)) (c : Code) (s : ASt) : Option Stop := evalTo Tryz.prog F C N 1000 10 c s
noncomputable abbrev leave' (N : Nat) (F : List (FOp × Value)) (C : List (FuncId × List Value × Value)) (ks : List KI) (o : Option Stop) : Option Stop := evalLeave Tryz.prog F C N 1000 10 ks o
noncomputable abbrev unr' (N : Nat) (F : List (FOp × Value)) (C : List (FuncId × List Value × Value)) (m : Nat) (o : Option Stop) : Option Stop := evalUnroll Tryz.prog F C N 1000 10 m o
noncomputable abbrev res' (N : Nat) (F : List (FOp × Value)) (C : List (FuncId × List Value × Value)) (ks : List KI) (x : AX) (s : ASt) : Option Stop := evalRes Tryz.prog F C N 1000 10 ks x s
noncomputable abbrev ops' (N : Nat) (F : List (FOp × Value)) (C : List (FuncId × List Value × Value)) (r : List Oper) (ops : Array Oper) (ks : List KI) (s : ASt) : Option Stop := evalOps Tryz.prog F C N 1000 10 r ops ks s
def s0 : ASt := { sl := slots [(2, symv 2), (1, symv 1), (0, symv 0)], ms := [], A := start }
def F0 : List (FOp × Value) := [(.len #[22] 3 (symv 0), symv 3),
    (.bin .gtr 3 (symv 3) (.int .i64 60), .bool true)]
def C0 : List (FuncId × List Value × Value) := [(6, [], .bool true)]
theorem e0 : endVal Tryz.prog Tryz.f4 (at' 60 F0 C0 body s0) = some (.bool true) := by kernel_rfl
def F1 : List (FOp × Value) := [(.len #[22] 3 (symv 0), symv 3),
    (.bin .gtr 3 (symv 3) (.int .i64 60), .bool false)]
def C1 : List (FuncId × List Value × Value) := [(6, [], .bool true),
    (16, [symv 0, symv 1, symv 2], .tuple ⟨[.agg ⟨[symv 4, symv 5, symv 6, symv 7]⟩, symv 8]⟩),
    (17, [symv 0, symv 1, symv 2], .tuple ⟨[.agg ⟨[symv 4, symv 5, symv 6, symv 7]⟩, symv 8]⟩)]
theorem e1 : callAt Tryz.prog (at' 60 F1 C1 body s0) = some (19, [symv 0, symv 1]) := by kernel_rfl
noncomputable abbrev so0 := at' 60 F1 C1 body s0
noncomputable def bk0 : List Bk := [⟨.cells [symv 4, symv 5, symv 6, symv 7], 24, 0⟩, ⟨.cells [symv 4, symv 5, symv 6, symv 7], 24, 0⟩]
def hd0 : Sl := slots [(11, symv 8), (10, .pointer (some ⟨1, 0, none⟩)), (9, symv 8), (8, .pointer (some ⟨0, 0, none⟩)), (7, .bool true), (6, .bool false), (1, symv 1), (0, symv 0)]
def hp0 : Sl := match aput 60 hd0 (some 34) (symv 9) with | some s => s | none => .nil
theorem e2 : trAll (stopSt so0) hd0 bk0 = some [(symv 0, symv 0), (symv 1, symv 1), (symv 8, symv 8), (symv 8, symv 8), (symv 4, symv 4), (symv 5, symv 5), (symv 6, symv 6), (symv 7, symv 7), (symv 4, symv 4), (symv 5, symv 5), (symv 6, symv 6), (symv 7, symv 7)] := by kernel_rfl
theorem e3 : aput 60 hd0 (stopDst so0) (symv 9) = some hp0 := by kernel_rfl
def F2 : List (FOp × Value) := []
def C2 : List (FuncId × List Value × Value) := []
theorem e4 : callAt Tryz.prog (ops' 60 F2 C2 (stopRest so0) (stopOps so0) (stopKs so0) { sl := hp0, ms := [], A := mkAS bk0 }) = some (20, [symv 0, symv 1]) := by kernel_rfl
noncomputable abbrev so1 := ops' 60 F2 C2 (stopRest so0) (stopOps so0) (stopKs so0) { sl := hp0, ms := [], A := mkAS bk0 }
noncomputable def bk1 : List Bk := [⟨.cells [symv 4, symv 5, symv 6, symv 7], 24, 0⟩, ⟨.cells [symv 4, symv 5, symv 6, symv 7], 24, 0⟩]
def hd1 : Sl := slots [(34, symv 9), (11, symv 8), (10, .pointer (some ⟨1, 0, none⟩)), (9, symv 8), (8, .pointer (some ⟨0, 0, none⟩)), (7, .bool true), (6, .bool false), (0, symv 0)]
def hp1 : Sl := match aput 60 hd1 (some 37) (symv 10) with | some s => s | none => .nil
theorem e5 : trAll (stopSt so1) hd1 bk1 = some [(symv 0, symv 0), (symv 8, symv 8), (symv 8, symv 8), (symv 9, symv 9), (symv 4, symv 4), (symv 5, symv 5), (symv 6, symv 6), (symv 7, symv 7), (symv 4, symv 4), (symv 5, symv 5), (symv 6, symv 6), (symv 7, symv 7)] := by kernel_rfl
theorem e6 : aput 60 hd1 (stopDst so1) (symv 10) = some hp1 := by kernel_rfl
def F3 : List (FOp × Value) := [(.bin .eql 24 (.agg ⟨[symv 4, symv 5, symv 6, symv 7]⟩) (.agg ⟨[symv 4, symv 5, symv 6, symv 7]⟩), .bool true),
    (.bin .eql 32 (symv 8) (symv 8), .bool true),
    (.bin .eql 38 (.agg ⟨[symv 11, symv 12, symv 13, symv 14, symv 15, symv 16, symv 17, symv 18]⟩) (.agg ⟨[symv 11, symv 12, symv 13, symv 14, symv 15, symv 16, symv 17, symv 18]⟩), .bool true)]
def C3 : List (FuncId × List Value × Value) := [(18, [symv 9, symv 10], .bool true),
    (21, [symv 0], .agg ⟨[symv 11, symv 12, symv 13, symv 14, symv 15, symv 16, symv 17, symv 18]⟩),
    (22, [symv 0], .agg ⟨[symv 11, symv 12, symv 13, symv 14, symv 15, symv 16, symv 17, symv 18]⟩)]
theorem e7 : endVal Tryz.prog Tryz.f4 (ops' 60 F3 C3 (stopRest so1) (stopOps so1) (stopKs so1) { sl := hp1, ms := [], A := mkAS bk1 }) = some (.bool true) := by kernel_rfl
@[reducible] noncomputable def vL (l : List St) (a_l : Option Addr) (c_l : Nat) (site : Int) (tick : Int) (b0 : List Int) (a0 : Option Addr) (c0 : Nat) (b1 : List Int) (a1 : Option Addr) (c1 : Nat) : List Value := [.slice a_l l.length c_l, .int .i64 site, .int .i64 tick, .int .i64 ((l.length : Nat) : Int), .int .i64 (nextSt l site tick).1, .int .i64 (nextSt l site tick).2.1, .int .i64 (nextSt l site tick).2.2.1, .int .i64 (nextSt l site tick).2.2.2, .int .i64 (nextErr l site tick), .slice a0 b0.length c0, .slice a1 b1.length c1, .int .i64 (cntAll l 1), .int .i64 (cntAll l 2), .int .i64 (cntAll l 3), .int .i64 (cntAll l 4), .int .i64 (cntAll l 5), .int .i64 (cntAll l 6), .int .i64 (cntAll l 7), .int .i64 (cntAll l 8)]
@[reducible] noncomputable def sg (M : Mem) (l : List St) (a_l : Option Addr) (c_l : Nat) (site : Int) (tick : Int) (b0 : List Int) (a0 : Option Addr) (c0 : Nat) (b1 : List Int) (a1 : Option Addr) (c1 : Nat) : Sig := sgL M (vL l a_l c_l site tick b0 a0 c0 b1 a1 c1)
set_option maxHeartbeats 4000000 in
set_option maxRecDepth 100000 in
theorem any (W : World) {v_l : Value} {l : List St} (hl : Arr (heapOf W) 4 encS v_l l) (site : Int) (tick : Int)  : Calls Tryz.prog 4 #[v_l, .int .i64 site, .int .i64 tick] W fun e w' => e = .returned (.bool true) ∧ Low W.heap.size W w' := by
  obtain ⟨a_l, c_l, rfl⟩ := hl.slice
  refine @walk_enter (sg (heapOf W) l a_l c_l site tick [] none 0 [] none 0) Tryz.prog 4 Tryz.f4 body [symv 0, symv 1, symv 2] (slots [(2, symv 2), (1, symv 1), (0, symv 0)]) N W _ Tryz.func4 (by kernel_rfl) (by kernel_rfl) (by kernel_rfl) (by kernel_rfl) (immW_sgL W _) fun a hh => ?_
  letI := (sg (heapOf W) l a_l c_l site tick [] none 0 [] none 0)
  by_cases h0 : 60 < ((l.length : Nat) : Int)
  · refine walk_to (F := F0) (T := C0) (fuel := 1000) (d := 10) mixed (allF_cons (FactOk.arrLen hl rfl rfl under27 rfl rfl) (allF_cons (FactOk.bi rfl rfl rfl rfl rfl rfl (boolT (by omega))) allF_nil)) (allC_cons (callSanity) allC_nil) ?_ hh
    exact ostop_end e0 fun w2 hLow hIn => ⟨(by rfl), hLow⟩ 
  · refine walk_to (F := F1) (T := C1) (fuel := 1000) (d := 10) mixed (allF_cons (FactOk.arrLen hl rfl rfl under27 rfl rfl) (allF_cons (FactOk.bi rfl rfl rfl rfl rfl rfl (boolF (by omega))) allF_nil)) (allC_cons (callSanity) (allC_cons (callNext rfl rfl rfl rfl hl (by omega)) (allC_cons (callRNext rfl rfl rfl rfl hl (by omega)) allC_nil))) ?_ hh
    obtain ⟨b0, hb0⟩ : ∃ b0 : List Int, b0 = missA l site := ⟨_, rfl⟩
    refine ostop_callT (Y := Option Addr × Nat) (vals2 := fun yV => (vL l a_l c_l site tick b0 yV.1 yV.2 [] none 0)) (T := none) (R := fun y M' => OArr W.heap.size M' elI 1 encI (.slice y.1 b0.length y.2) b0 ∧ Keeps (heapOf W) M' none) e1 e2 e3 rfl (fun w hw hB => by subst hb0; exact newOf hw hB (fun y M' => rfl) (MissG.any w (hl.mono hw) site (by omega))) (fun _ _ _ => (meet_cons (by exact meetV _ rfl rfl) (meet_cons (by exact meetV _ rfl rfl) (meet_cons (by exact meetV _ rfl rfl) (meet_cons (by exact meetV _ rfl rfl) (meet_cons (by exact meetV _ rfl rfl) (meet_cons (by exact meetV _ rfl rfl) (meet_cons (by exact meetV _ rfl rfl) (meet_cons (by exact meetV _ rfl rfl) (meet_cons (by exact meetV _ rfl rfl) (meet_cons (by exact meetV _ rfl rfl) (meet_cons (by exact meetV _ rfl rfl) (meet_cons (by exact meetV _ rfl rfl) meet_nil))))))))))))) ?_
    intro M0 ⟨a0, c0⟩ hR0 aC w hh
    obtain ⟨hO0, hK0⟩ := hR0
    have hM0 := hK0.up (fun _ h => by cases h) (Nat.le_refl _) (fun _ _ h => h)
    have hn0 : b0.length ≤ 1000 := by rw [hb0]; first | done | exact missA_len l site
    letI := (sg M0 l a_l c_l site tick b0 a0 c0 [] none 0)
    refine walk_ops (F := F2) (T := C2) (fuel := 1000) (d := 10) mixed allF_nil allC_nil ?_ hh
    obtain ⟨b1, hb1⟩ : ∃ b1 : List Int, b1 = missA l site := ⟨_, rfl⟩
    refine ostop_callT (Y := Option Addr × Nat) (vals2 := fun yV => (vL l a_l c_l site tick b0 a0 c0 b1 yV.1 yV.2)) (T := none) (R := fun y M' => OArr W.heap.size M' elI 1 encI (.slice y.1 b1.length y.2) b1 ∧ Keeps M0 M' none) e4 e5 e6 rfl (fun w hw hB => by subst hb1; exact newOf hw hB (fun y M' => rfl) (RMiss.any w ((hl.mono hM0).mono hw) site (by omega))) (fun _ _ _ => (meet_cons (by exact meetV _ rfl rfl) (meet_cons (by exact meetV _ rfl rfl) (meet_cons (by exact meetV _ rfl rfl) (meet_cons (by exact meetV _ rfl rfl) (meet_cons (by exact meetV _ rfl rfl) (meet_cons (by exact meetV _ rfl rfl) (meet_cons (by exact meetV _ rfl rfl) (meet_cons (by exact meetV _ rfl rfl) (meet_cons (by exact meetV _ rfl rfl) (meet_cons (by exact meetV _ rfl rfl) (meet_cons (by exact meetV _ rfl rfl) (meet_cons (by exact meetV _ rfl rfl) meet_nil))))))))))))) ?_
    intro M1 ⟨a1, c1⟩ hR1 aC w hh
    obtain ⟨hO1, hK1⟩ := hR1
    have hM1 := hK1.up (fun _ h => by cases h) (Nat.le_refl _) hM0
    have hO0k1 := hK1.own hO0 (fun _ _ h => by cases h)
    have hn1 : b1.length ≤ 1000 := by rw [hb1]; first | done | exact missA_len l site
    letI := (sg M1 l a_l c_l site tick b0 a0 c0 b1 a1 c1)
    refine walk_ops (F := F3) (T := C3) (fuel := 1000) (d := 10) mixed (allF_cons (eqS rfl rfl rfl rfl (decide_eq_true rfl).symm) (allF_cons (FactOk.bi rfl rfl rfl rfl rfl rfl (boolT (by omega))) (allF_cons (eqCounts rfl rfl rfl rfl) allF_nil))) (allC_cons (callSameI rfl rfl (hO0k1.arr hkI) (hO1.arr hkI) (by omega) (by rw [hb0, hb1])) (allC_cons (callCounts rfl rfl rfl rfl (hl.mono hM1) (by omega)) (allC_cons (callRCounts rfl rfl rfl rfl (hl.mono hM1) (by omega)) allC_nil))) ?_ hh
    exact ostop_end e7 fun w2 hLow hIn => ⟨(by rfl), hLow⟩ 
end NextSpG
end AE
end Go.Proofs.YtheaofepenbcgaaGreatDoor

namespace Go.Proofs.YtheaofepenbcgaaGreatDoor
open Go Go.ChangeShapes Go.WideShapes Go.ChangeAt Go.RowKit
set_option maxRecDepth 100000

theorem stampNextMatchesSpec_laid (os : Os) (args : Array Value) : laidMetH Tryz.prog Rows.stampNextMatchesSpecRow.laid ((World.laidAll Tryz.prog os Rows.stampNextMatchesSpecRow.laid).forCall (fun _ _ => 0) ⟨#[], args, []⟩).memory := by
  rw [MakeChecks.laidMetH_plain _ _ _ (by kernel_rfl)]
  exact laidMet_laidAll _ (by kernel_rfl) (by kernel_rfl)

theorem stampNextMatchesSpec_lifted (os : Os) (started : os.Started) (H : Type) (enc : TypeId × Value → H) :
    ReturnsInHanded {} Tryz.checked os 4 .any (fun w args => (Rows.stampNextMatchesSpecSpec.pre enc Tryz.prog Tryz.f4 [] false w args ∧ laidMetH Tryz.prog Rows.stampNextMatchesSpecRow.laid w) ∧ sizedMet enc Tryz.prog Tryz.f4 (OpenSpec.ofChange Rows.stampNextMatchesSpecSpec) false w args)
      (Rows.stampNextMatchesSpecSpec.post enc Tryz.prog Tryz.f4 false true false false) := by
  refine returnsInHanded_of_change_and (C := Tryz.checked) (X := fun w _ => laidMetH Tryz.prog Rows.stampNextMatchesSpecRow.laid w) (fun _ _ _ hh h => h.of_heap hh) own started (by kernel_rfl) Tryz.func4
    (ChangeSpec.witness_shaped (enc := enc) (C := Tryz.checked) (os := os) (X := fun w _ => laidMetH Tryz.prog Rows.stampNextMatchesSpecRow.laid w) false (World.laidAll Tryz.prog os Rows.stampNextMatchesSpecRow.laid) #[.slice none 0 0, .int .i64 0, .int .i64 0] 8 (World.laidAll_os _ _ _)
      (World.shaped_of_ZipB (by kernel_rfl) (by kernel_rfl)) (by kernel_rfl) (by kernel_rfl) (by kernel_rfl) (stampNextMatchesSpec_laid os _)) ?_
  intro W base args ds gs before hval0 hW _ _ _ _
  have hval : ∀ (j : Nat) t v, Tryz.f4.params[j]? = some t → args[j]? = some v → Value.okWide Tryz.prog W .any base t v := hval0
  have hW' := hW
  obtain ⟨p, q, hA0, hV, rfl, _, _⟩ := hW
  have hA : DataW.TrodAll enc Tryz.prog W 0 (fun _ => true) true Tryz.f4.params.toList args.toList ds p := hA0
  rw [Tryz.params4] at hA hval
  have hAk := hA
  obtain ⟨v0, v1, v2, d0, d1, d2, p0, p1, p2, rfl, rfl, rfl, h0, h1, h2⟩ := trodAll_three hA
  obtain ⟨rfl, rfl⟩ := trodVars_none hV
  obtain ⟨l0, hl0⟩ := open_stamps (hval 0 22 v0 rfl rfl) h0
  obtain ⟨n1, rfl⟩ := open_num (hval 1 3 v1 rfl rfl) h1
  obtain ⟨n2, rfl⟩ := open_num (hval 2 3 v2 rfl rfl) h2
  simp only [List.append_nil] at hW'
  have hlt : ∀ x ∈ p0 ++ p1 ++ p2, x.block < W.heap.size := fun x hx => by simpa using hW'.lt x hx
  refine (AE.NextSpG.any W hl0 n1 n2).mono fun e W' ⟨he, hb⟩ => ?_
  subst he
  exact ⟨_, rfl, _, _, _, [], p0 ++ p1 ++ p2, [], hW', trodAll_mk1 (shut_bool Tryz.underlying4 _), trodAll_below laidOut hb.below _ _ _ _ (by kernel_rfl) hAk hlt, rfl, hb.below.frame _, fun h => by cases h⟩

theorem stampNextMatchesSpec_row : Rows.StampNextMatchesSpecSaid :=
  OpenClaim.holds_of_wide 4 Tryz.f4 rfl rfl rfl rfl rfl rfl rfl ⟨rfl, rfl, rfl, rfl, rfl⟩ rfl rfl rfl rfl rfl (by kernel_rfl) Tryz.func4 (by kernel_rfl)
    (of_decide_eq_true (by kernel_rfl)) (by unfold Func.isWrapper; first | (rw [if_pos (by decide +kernel)]; kernel_rfl) | (rw [if_neg (by decide +kernel)]; exact ⟨rfl, rfl⟩))
    (fun os started H enc _ => stampNextMatchesSpec_lifted os started H enc)

theorem stampNextMatchesSpec_card : Rows.StampNextMatchesSpecCardSaid :=
  Claim7.holds_tied_plain_at .later [] [.data, .data, .data, .data, .sentinel, .sentinel, .pinned] true (true, "8876499d230eb0fd6c8639e00a990afc07c2c11a9d87cf5b2cc2f45ab4d42669") true stampNextMatchesSpec_row (fun _ h => by cases h) (by kernel_rfl) (fun _ h => by cases h) stampNextMatchesSpec_row_tie rfl ⟨rfl, rfl⟩ (by kernel_rfl) rfl
    (fun f fn hf hfn => by
      obtain rfl : f = 4 := Option.some.inj ((show Tryz.prog.funcNamed "voxel/voxellaw24.StampNextMatchesSpec" = some 4 by kernel_rfl).symm.trans hf) |>.symm
      obtain rfl : fn = Tryz.f4 := (Option.some.inj (Tryz.func4.symm.trans hfn)).symm
      exact ⟨by kernel_rfl, fun j t ht => by
        rw [Tryz.params4] at ht
        have hm := Array.mem_of_getElem? ht
        have hall : (Tryz.f4.params.toList.all fun u => !Tryz.prog.wantsStandIn u) = true := by kernel_rfl
        rw [Tryz.params4] at hall
        have hw := List.all_eq_true.1 hall t (by simpa using hm)
        exact (show Tryz.prog.wantsStandIn t = false by simpa using hw)⟩)
    (by kernel_rfl)
#print axioms stampNextMatchesSpec_card

end Go.Proofs.YtheaofepenbcgaaGreatDoor

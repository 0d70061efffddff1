/- AE, part 12: bytes and strings, comparisons with nil, interfaces, function values, maps. -/
import Derived.Test.YtheaofepenbcgaaDoorAe11
namespace Go.Proofs.YtheaofepenbcgaaDoor
open Go
namespace AE
variable [Sig]

section
variable {P : Program} {φ : Emb} {A A' : AS} {w : World}

/- BYTES TO STRING -/

def b2sFrom (cells : Array Value) : Sem Value := do
  let mut s := ByteArray.empty
  for c in cells do
    let .int .u8 n := c | stuck "bytesToString: byte expected"
    s := s.push (UInt8.ofNat n.toNat)
  pure (.string s)

omit [Sig] in
theorem b2s_eq (a : Addr) (len c : Nat) : Conv.bytesToString (.slice (some a) len c) = loadCells a len >>= b2sFrom := rfl

def aB2S (P : Program) (A : AS) : Value → Option Value
  | .slice none _ _ => some (.string .empty)
  | .slice (some ⟨b, off, none⟩) n _ => bif Nat.beq n 0 then some (.string .empty) else match A.loadN b off n with
    | some l => bif plainL l then match pureRun P (b2sFrom ⟨l⟩) with
      | some (.string s) => some (.string s)
      | _ => none
      else none
    | none => none
  | _ => none

theorem snd_b2s (hr : Rel φ A w) {x x' v : Value} (hx : VRel φ x x') (h : aB2S P A x = some v) : Snd (RV v) P φ A w (Conv.bytesToString x') A := by
  unfold aB2S at h
  split at h
  · simp only [Option.some.injEq] at h
    subst h
    cases hx
    exact Snd.ret hr (.string _)
  · rename_i b off n c
    have hempty : ∀ (a : Addr) (c : Nat), (Conv.bytesToString (.slice (some a) 0 c)).run P w = .ok (.string .empty) w := fun a c => by
      rw [b2s_eq]
      simp [loadCells, loadCellsFrom, b2sFrom, Sem.run, pure]
    have main : ∀ (e : Em) (c' : Nat), φ b = some e → Snd (RV v) P φ A w (Conv.bytesToString (.slice (some ⟨e.blk, e.sh + off, none⟩) n c')) A := by
      intro e c' he
      cases hn : Nat.beq n 0 with
      | true =>
        rw [hn, cond_true, Option.some.injEq] at h
        subst h
        have : n = 0 := Nat.eq_of_beq_eq_true hn
        subst this
        exact ⟨φ, w, _, hempty _ _, .string _, Step.refl hr⟩
      | false =>
        rw [hn, cond_false] at h
        split at h
        · rename_i l hl
          cases hp : plainL l with
          | false => rw [hp] at h; cases h
          | true =>
            rw [hp, cond_true] at h
            split at h
            · rename_i s hs
              simp only [Option.some.injEq] at h
              subst h
              rw [b2s_eq]
              obtain ⟨vs', h1, h2, h3⟩ := run_loadN hr P hl he
              have : vs' = ⟨l⟩ := by
                obtain ⟨l'⟩ := vs'
                have := VRel.eq_of_plainL l l' hp (by simpa using h2.symm) (fun i hi => by simpa using h3 i hi)
                rw [this]
              subst this
              exact ⟨φ, w, _, run_then h1 (pureRun_run hs w), .string _, Step.refl hr⟩
            · cases h
        · cases h
    cases hx with
    | slx _ _ he => exact main _ _ he
    | slg _ _ c' he _ _ _ => exact main _ _ he
    | slz a' _ =>
      rw [Nat.beq_refl, cond_true, Option.some.injEq] at h
      subst h
      exact ⟨φ, w, _, hempty _ _, .string _, Step.refl hr⟩
  · cases h

def aS2B (A : AS) (elem : TypeId) (s : ByteArray) : Option (Value × AS) :=
  match A.push (.cells (s.data.toList.map fun b => .int .u8 b.toNat)) 1 elem with
  | some (r, A1) => some (.slice (some ⟨r, 0, none⟩) s.size s.size, A1)
  | none => none

theorem snd_s2b (hr : Rel φ A w) {elem : TypeId} {s : ByteArray} {v : Value} (h : aS2B A elem s = some (v, A')) : Snd (RV v) P φ A w (Conv.stringToBytes elem s) A' := by
  unfold aS2B at h
  split at h
  · rename_i r A1 hp
    simp only [Option.some.injEq, Prod.mk.injEq] at h
    obtain ⟨rfl, rfl⟩ := h
    unfold Conv.stringToBytes
    let cap := (Question.appendCap s.size 0 elem).cut (w.tape w.drawn (.appendCap s.size 0 elem))
    have hcap : s.size ≤ cap := by simp [cap, Question.cut]
    let row : Array Value := (s.data.map fun b => Value.int .u8 b.toNat) ++ Array.replicate (cap - s.size) (.int .u8 0)
    have hrow : row.size = cap := by
      simp only [row, Array.size_append, Array.size_map, Array.size_replicate]
      have : s.data.size = s.size := rfl
      omega
    have hr1 := rel_drawn hr (w.drawn + 1)
    have hlr := (hr1.wf.push hp).2.1
    have st := step_push (o' := .cells row elem (cap, cap + 1)) (e := ⟨w.heap.size, 0, 1, cap⟩) hr1 hp rfl rfl (by
      simp only [ORel]
      refine ⟨row, (cap, cap + 1), by simp, hrow.symm, ⟨by simp only [List.length_map, Nat.zero_add, Array.length_toList]; rw [hrow]; exact hcap, fun h => absurd h (by decide)⟩, fun j hj => ?_, fun _ i hi => by rw [hrow] at hi; simp; omega⟩
      simp only [List.length_map, Array.length_toList] at hj
      simp only [List.getD_eq_getElem?_getD, Array.getD_eq_getD_getElem?, Nat.zero_add, row]
      rw [Array.getElem?_append_left (by simpa using hj)]
      simp only [List.getElem?_map, Array.getElem?_toList, Array.getElem?_map, Array.getElem?_eq_getElem hj, Option.map_some, Option.getD_some]
      exact .int _ _)
    refine ⟨_, _, .slice (some ⟨w.heap.size, 0, none⟩) s.size cap, ?_, ?_, Step.trans hr (Step.drawn hr (w.drawn + 1)) st⟩
    · refine run_then (w1 := { w with drawn := w.drawn + 1 }) (a := cap) (by simp [choose, Sem.run, Question.forced, cap]) ?_
      refine run_then (a := (⟨w.heap.size, 0, none⟩ : Addr)) (by simp only [newRow, newObj]; rfl) ?_
      have hsh : ({ w with drawn := w.drawn + 1, heap := w.heap.push (.cells row elem) } : World).shape? w.heap.size = some (elem, cap) := by
        simp [World.shape?, hrow]
      refine run_then (w1 := { w with drawn := w.drawn + 1, heap := w.heap.push (.cells row elem (cap, cap + 1)) }) (a := ()) ?_ rfl
      unfold markStringish
      refine run_then (a := some (elem, cap)) (by simp only [shape, Sem.run]; exact congrArg (Result.ok · _) hsh) ?_
      simp only [freeze, Sem.run, World.freeze]
      rw [if_neg (by omega)]
      refine congrArg (Result.ok ()) ?_
      simp only [World.mk.injEq, and_true, true_and]
      apply Array.ext_getElem?
      intro i
      rw [Array.getElem?_modify]
      split
      · rename_i hi
        subst hi
        simp [row]
      · rename_i hi
        rw [Array.getElem?_push, Array.getElem?_push]
        rw [if_neg (Ne.symm hi), if_neg (Ne.symm hi)]
    · subst hlr
      have := VRel.slg (φ := upd φ A.n ⟨w.heap.size, 0, 1, cap⟩) (b := A.n) (o := 0) (e := ⟨w.heap.size, 0, 1, cap⟩) s.size s.size cap (by simp [upd]) (Nat.le_refl _) hcap (by simp)
      simpa using this
  · cases h

/- COMPARISONS -/

def isPtrD : TypeDesc → Bool
  | .pointer _ => true
  | _ => false

/-- Are x and y equal? Where one of them is nil, or both point into one block. -/
def aSame (P : Program) (t : TypeId) (x y : Value) : Option Bool :=
  match pureRun P (underlying t), x, y with
  | some (.pointer _), .pointer (some _), .pointer none => some false
  | some (.pointer _), .pointer none, .pointer (some _) => some false
  | some (.pointer e), .pointer (some ⟨b, o, none⟩), .pointer (some ⟨b', o', none⟩) => match pureRun P (sizeOf e) with
    | some n => bif Nat.beq b b' && !Nat.beq n 0 then some (Nat.beq o o') else none
    | none => none
  | some (.slice _), .slice (some _) _ _, .slice none _ _ => some false
  | some (.slice _), .slice none _ _, .slice (some _) _ _ => some false
  | some (.map _ _), .map (some _), .map none => some false
  | some (.map _ _), .map none, .map (some _) => some false
  | some (.interface _), .iface _ _, .nilIface => some false
  | some (.interface _), .nilIface, .iface _ _ => some false
  | some (.func _ _ _), .func _ _ _, .nilFunc => some false
  | some (.func _ _ _), .nilFunc, .func _ _ _ => some false
  | _, _, _ => none

theorem same_run {t : TypeId} {x x' y y' : Value} {r : Bool} (hx : VRel φ x x') (hy : VRel φ y y') (h : aSame P t x y = some r) : (Op.equal t x' y').run P w = .ok r w ∧ ∀ op (o1 o2 : Operand), (eqGuard op t o1 o2 x' y').run P w = .ok () w := by
  unfold aSame at h
  have guard : ∀ (x' y' : Value), (¬ (x' = .nilIface ∧ y' = .nilIface)) → (¬ ∃ a b, x' = .agg a ∧ y' = .agg b) → ∀ op (o1 o2 : Operand), (eqGuard op t o1 o2 x' y').run P w = .ok () w := by
    intro x' y' h1 h2 op o1 o2
    unfold eqGuard
    by_cases hop : op = .eql ∨ op = .neq
    · cases x' <;> cases y' <;> rcases hop with rfl | rfl <;> first | rfl | exact absurd ⟨rfl, rfl⟩ h1 | exact absurd ⟨_, _, rfl, rfl⟩ h2
    · cases op <;> first | rfl | exact absurd (.inl rfl) hop | exact absurd (.inr rfl) hop
  split at h
  all_goals try (cases h; done)
  all_goals rename_i hu
  · simp only [Option.some.injEq] at h
    subst h
    cases hx with
    | ptr he => cases hy; exact ⟨by unfold Op.equal Op.maxDepth Op.equalIn; exact run_pre hu rfl, guard _ _ (by simp) (by simp)⟩
  · simp only [Option.some.injEq] at h
    subst h
    cases hy with
    | ptr he => cases hx; exact ⟨by unfold Op.equal Op.maxDepth Op.equalIn; exact run_pre hu rfl, guard _ _ (by simp) (by simp)⟩
  · split at h
    · rename_i b o b' o' _x n hn
      cases hb : (Nat.beq b b' && !Nat.beq n 0) with
      | false => rw [hb] at h; cases h
      | true =>
        rw [hb, cond_true, Option.some.injEq] at h
        subst h
        simp only [Bool.and_eq_true, Bool.not_eq_true'] at hb
        have hbb : b = b' := Nat.eq_of_beq_eq_true hb.1
        subst hbb
        have hn0 : n ≠ 0 := fun e => by subst e; simp at hb
        cases hx with
        | ptr he => cases hy with
          | ptr he2 =>
            rw [he] at he2; cases he2
            refine ⟨?_, guard _ _ (by simp) (by simp)⟩
            unfold Op.equal Op.maxDepth Op.equalIn
            refine run_pre hu ?_
            simp only
            refine run_pre hn ?_
            rw [if_pos hn0]
            unfold sameAddr
            simp only [beq_self_eq_true, if_true]
            show Result.ok _ w = Result.ok _ w
            congr 1
            by_cases hoo : o = o'
            · subst hoo; simp
            · have h1 : Nat.beq o o' = false := by
                cases hh : Nat.beq o o' with
                | false => rfl
                | true => exact absurd (Nat.eq_of_beq_eq_true hh) hoo
              rw [h1]
              simp [hoo]
    · cases h
  all_goals simp only [Option.some.injEq] at h
  all_goals subst h
  all_goals cases hx <;> cases hy <;> exact ⟨by unfold Op.equal Op.maxDepth Op.equalIn; exact run_pre hu rfl, guard _ _ (by simp) (by simp)⟩


def aBinOp (P : Program) (op : BinOp) (t : TypeId) (x y : Value) : Option Value :=
  match op with
  | .eql => (aSame P t x y).map .bool
  | .neq => (aSame P t x y).map fun b => .bool !b
  | _ => none

theorem snd_binOp (hr : Rel φ A w) {op : BinOp} {t : TypeId} {o1 o2 : Operand} {x x' y y' v : Value} (hx : VRel φ x x') (hy : VRel φ y y') (h : aBinOp P op t x y = some v) : Snd (RV v) P φ A w (do eqGuard op t o1 o2 x' y'; binOp op t x' y') A := by
  unfold aBinOp at h
  have shapes : ∀ r, aSame P t x y = some r → (binOp .eql t x' y' = do pure (.bool (← Op.equal t x' y'))) ∧ (binOp .neq t x' y' = do pure (.bool (!(← Op.equal t x' y')))) := by
    intro r hs
    unfold aSame at hs
    split at hs
    all_goals try (cases hs; done)
    all_goals cases hx <;> cases hy <;> exact ⟨rfl, rfl⟩
  split at h
  · obtain ⟨r, hs, rfl⟩ := Option.map_eq_some_iff.1 h
    obtain ⟨h1, h2⟩ := same_run (P := P) (w := w) hx hy hs
    refine ⟨φ, w, .bool r, run_then (h2 _ _ _) ?_, .bool _, Step.refl hr⟩
    rw [(shapes r hs).1]
    exact run_then h1 rfl
  · obtain ⟨r, hs, rfl⟩ := Option.map_eq_some_iff.1 h
    obtain ⟨h1, h2⟩ := same_run (P := P) (w := w) hx hy hs
    refine ⟨φ, w, .bool !r, run_then (h2 _ _ _) ?_, .bool _, Step.refl hr⟩
    rw [(shapes r hs).2]
    exact run_then h1 rfl
  · cases h

/- INTERFACES -/

def isIfaceD : TypeDesc → Bool
  | .interface _ => true
  | _ => false

def aMakeIface (P : Program) (t : TypeId) (x : Value) : Option Value :=
  match pureRun P (underlying t) with
  | some d => bif isIfaceD d then none else some (.iface t x)
  | none => none

theorem snd_makeIface (hr : Rel φ A w) {t : TypeId} {x x' v : Value} (hx : VRel φ x x') (h : aMakeIface P t x = some v) : Snd (RV v) P φ A w (Instr.makeInterface t x') A := by
  unfold aMakeIface at h
  split at h
  · rename_i d hu
    cases hd : isIfaceD d with
    | true => rw [hd] at h; cases h
    | false =>
      rw [hd, cond_false, Option.some.injEq] at h
      subst h
      unfold Instr.makeInterface
      refine Snd.pre hu ?_
      cases d <;> first | (cases hd; done) | exact Snd.ret hr (.iface _ hx)
  · cases h

/-- x.(T) and x.(T) with ok. -/
def aAssert (P : Program) (x : Value) (asserted : TypeId) (ok : Bool) : Option Value :=
  match pureRun P (underlying asserted), x with
  | some (.interface want), .iface t _ => match pureRun P (typeInfo t) with
    | some info => match Instr.missingMethod want info.methods with
      | none => some (if ok then .tuple #[x, .bool true] else x)
      | some _ => none
    | none => none
  | some d, .iface t v => bif isIfaceD d then none else
      if t = asserted then some (if ok then .tuple #[v, .bool true] else v) else
        bif ok then match pureRun P (zeroValue asserted) with
          | some z => bif plain z then some (.tuple #[z, .bool false]) else none
          | none => none
        else none
  | _, _ => none

theorem rel_pair {a a' : Value} (h : VRel φ a a') (b : Bool) : VRel φ (.tuple #[a, .bool b]) (.tuple #[a', .bool b]) := .tuple _ _ rfl fun i hi => by
  have : i = 0 ∨ i = 1 := by simp at hi; omega
  rcases this with rfl | rfl
  · simpa using h
  · simpa using VRel.bool b

theorem snd_assert (hr : Rel φ A w) {x x' v : Value} {xt asserted : TypeId} {ok : Bool} (hx : VRel φ x x') (h : aAssert P x asserted ok = some v) : Snd (RV v) P φ A w (Instr.typeAssert x' xt asserted ok) A := by
  unfold aAssert at h
  split at h
  · rename_i want t u hu
    split at h
    · rename_i info hi
      split at h
      · rename_i hm
        simp only [Option.some.injEq] at h
        subst h
        cases hx with
        | iface t hv =>
          unfold Instr.typeAssert
          refine Snd.pre hu ?_
          simp only
          refine Snd.pre hi ?_
          simp only [hm]
          refine Snd.ret hr ?_
          cases ok
          · exact .iface t hv
          · exact rel_pair (.iface t hv) true
      · cases h
    · cases h
  · rename_i d t u _ hu
    cases hd : isIfaceD d with
    | true => rw [hd] at h; cases h
    | false =>
      rw [hd, cond_false] at h
      cases hx with
      | iface t hv =>
        unfold Instr.typeAssert
        refine Snd.pre hu ?_
        by_cases ht : t = asserted
        · rw [if_pos ht, Option.some.injEq] at h
          subst h
          cases d <;> first
            | (cases hd; done)
            | (simp only [if_pos ht]
               refine Snd.ret hr ?_
               cases ok
               · exact hv
               · exact rel_pair hv true)
        · rw [if_neg ht] at h
          cases ok with
          | false => cases h
          | true =>
            rw [cond_true] at h
            split at h
            · rename_i z hz
              cases hp : plain z with
              | false => rw [hp] at h; cases h
              | true =>
                rw [hp, cond_true, Option.some.injEq] at h
                subst h
                cases d <;> first
                  | (cases hd; done)
                  | (simp only [if_neg ht, if_true]
                     refine Snd.pre hz ?_
                     exact Snd.ret hr (rel_pair (VRel.of_plain φ z hp) false))
            · cases h
  · cases h

end
end AE
end Go.Proofs.YtheaofepenbcgaaDoor

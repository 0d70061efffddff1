/- AE, part 14: the table of operations. -/
import Derived.Test.YtheaofepenbcgaaDoorAe13
namespace Go.Proofs.YtheaofepenbcgaaDoor
open Go
namespace AE
variable [Sig]

def optPlain (ev : Operand → Value) : Option Operand → Bool
  | none => true
  | some x => plain (ev x)

def aConvert (P : Program) (A : AS) (src dst : TypeId) (x : Value) : Option (Value × AS) :=
  match (bif plain x then aPure P (convert src dst x) else none) with
  | some v => some (v, A)
  | none => match aToUnsafe P A src dst x with
   | some v => some (v, A)
   | none => match pureRun P (underlying src), pureRun P (underlying dst), x with
    | some _, some (.slice e), .string s => match pureRun P (underlying e) with
      | some (.int .u8) => aS2B A e s
      | _ => none
    | some (.slice e), some .string, .slice a n c => match pureRun P (underlying e) with
      | some (.int .u8) => (aB2S P A (.slice a n c)).map (·, A)
      | _ => none
    | _, _, _ => none

def aNil (x : Value) : Option Value :=
  match x with
  | .pointer (some _) => some x
  | .func (.func _) _ _ => some x
  | .iface _ _ => some x
  | _ => none

def isYield : Fn → Bool
  | .yield _ => true
  | _ => false

def val (A : AS) : Option Value → Option (ANext × AS)
  | some v => some (.value v, A)
  | none => none
def valA : Option (Value × AS) → Option (ANext × AS)
  | some (v, A) => some (.value v, A)
  | none => none

def aop (P : Program) [Lib P] (ev : Operand → Value) (A : AS) (o : Oper) : Option (ANext × AS) :=
  match o.op with
  | .move x | .assign x => some (.value (ev x), A)
  | .pick c a b => match ev c with
    | .bool t => some (.value (bif t then ev a else ev b), A)
    | _ => none
  | .alloc t => valA (aAlloc P A t)
  | .box t x => valA (aBox A t (ev x))
  | .build t parts => val A (aBuild P t (parts.map fun (i, x) => (i, ev x)))
  | .buildSlice t len parts => bif Nat.beq len 0 && Nat.beq parts.size 0 then valA (aBuildEmpty P A t) else valA (aBuildSlice P A t len (parts.map fun (i, x) => (i, ev x)))
  | .load t a => val A (aLoad P A t (ev a))
  | .store t a x => match aStore P A t (ev x) (ev a) with
    | some A1 => some (.skip, A1)
    | none => none
  | .nilCheck x => val A (aNil (ev x))
  | .binOp op t x y _ => match (bif plain (ev x) && plain (ev y) then aPure P (do eqGuard op t x y (ev x) (ev y); binOp op t (ev x) (ev y)) else none) with
    | some v => some (.value v, A)
    | none => val A (aBinOp P op t (ev x) (ev y))
  | .unOp op _ x => bif plain (ev x) then val A (aPure P (Op.unary op (ev x))) else none
  | .convert src dst x => valA (aConvert P A src dst (ev x))
  | .makeInterface t x => val A (aMakeIface P t (ev x))
  | .makeFunc fn first captured => bif isYield fn then none else some (.value (.func fn ⟨first.toList.map ev⟩ ⟨captured.toList.map ev⟩), A)
  | .makeSlice t l c => bif plain (ev l) && plain (ev c) then valA (aMakeSlice P A t (ev l) (ev c)) else none
  | .slice t x lo hi mx => bif optPlain ev lo && (optPlain ev hi && optPlain ev mx) then val A (match aSlice P A t (ev x) (lo.map ev) (hi.map ev) (mx.map ev) with
      | some v => some v
      | none => bif plain (ev x) then aPure P (Instr.sliceAt t (ev x) (lo.map ev) (hi.map ev) (mx.map ev)) else none) else none
  | .fieldAddr s x f => val A (aField P s f (ev x))
  | .field t x f => val A (aFieldOf P t (ev x) f)
  | .indexAddr t x ix => bif plain (ev ix) then val A (aIndexAddr P t (ev x) (ev ix)) else none
  | .index t x ix => bif plain (ev ix) then val A (match aIndexOf P t (ev x) (ev ix) with
      | some v => some v
      | none => bif plain (ev x) then aPure P (Instr.index t (ev x) (ev ix)) else none) else none
  | .typeAssert x _ asserted ok => val A (aAssert P (ev x) asserted ok)
  | .extract t ix => val A (aExtract (ev t) ix)
  | .call c => aCall P A ev c o.type
  | _ => none

section
variable {P : Program} {φ : Emb} {A A' : AS} {w : World}

theorem snd_convert (hr : Rel φ A w) {src dst : TypeId} {x x' v : Value} (hx : VRel φ x x') (h : aConvert P A src dst x = some (v, A')) : Snd (RV v) P φ A w (convert src dst x') A' := by
  unfold aConvert at h
  split at h
  · rename_i u hu
    simp only [Option.some.injEq, Prod.mk.injEq] at h
    obtain ⟨rfl, rfl⟩ := h
    cases hp : plain x with
    | false => rw [hp] at hu; cases hu
    | true =>
      rw [hp, cond_true] at hu
      rw [VRel.eq_of_plain x hp hx]
      exact snd_pure hr hu
  split at h
  · rename_i u hu
    cases h
    exact snd_toUnsafe hr hx hu
  · split at h
    · rename_i d e s h1 h2 _ _
      split at h
      · rename_i h3
        cases hx
        unfold convert
        refine Snd.pre h1 (Snd.pre h2 ?_)
        simp only
        refine Snd.pre h3 ?_
        exact snd_s2b hr h
      · cases h
    · rename_i e a n c h1 h2 _ _
      split at h
      · rename_i h3
        obtain ⟨v', hv, he⟩ := Option.map_eq_some_iff.1 h
        cases he
        have hs := snd_b2s hr hx hv
        unfold convert
        refine Snd.pre h1 (Snd.pre h2 ?_)
        cases hx <;> exact Snd.pre h3 hs
      · cases h
    · cases h

theorem optPlain_eq {ρ ρ' : Operand → Value} (hρ : ∀ x, VRel φ (ρ x) (ρ' x)) {o : Option Operand} (h : optPlain ρ o = true) : o.map ρ' = o.map ρ := by
  cases o with
  | none => rfl
  | some x => simp only [Option.map_some]; rw [VRel.eq_of_plain _ h (hρ x)]

theorem snd_aop [Lib P] (hr : Rel φ A w) {ρ ρ' : Operand → Value} {o : Oper} {n : ANext} (hρ : ∀ x, VRel φ (ρ x) (ρ' x)) (h : aop P ρ A o = some (n, A')) : Snd (NR n) P φ A w (execOp ρ' o) A' := by
  have fin : ∀ {v : Value} {s : Sem Value}, Snd (RV v) P φ A w s A' → Snd (NR (.value v)) P φ A w (do pure (.value (← s))) A' := fun hs => Snd.map hs fun φ a ha => ⟨a, rfl, ha⟩
  have hval : ∀ {r : Option Value}, val A r = some (n, A') → ∃ v, r = some v ∧ n = .value v ∧ A' = A := by
    intro r hv
    cases r with
    | none => cases hv
    | some v => simp only [val, Option.some.injEq, Prod.mk.injEq] at hv; exact ⟨v, rfl, hv.1.symm, hv.2.symm⟩
  have hvalA : ∀ {r : Option (Value × AS)}, valA r = some (n, A') → ∃ v, r = some (v, A') ∧ n = .value v := by
    intro r hv
    cases r with
    | none => cases hv
    | some p => obtain ⟨v, A1⟩ := p; simp only [valA, Option.some.injEq, Prod.mk.injEq] at hv; exact ⟨v, by rw [hv.2], hv.1.symm⟩
  obtain ⟨dst, op, type, pos, after, guard⟩ := o
  unfold aop at h
  unfold execOp
  cases op <;> simp only at h ⊢ <;> try (cases h; done)
  case move x => cases h; exact Snd.ret hr ⟨_, rfl, hρ x⟩
  case assign x => cases h; exact Snd.ret hr ⟨_, rfl, hρ x⟩
  case pick c a b =>
    split at h
    · rename_i t hc
      cases h
      have := hρ c
      rw [hc] at this
      cases hc' : ρ' c <;> rw [hc'] at this <;> cases this
      refine Snd.pre (a := t) rfl ?_
      cases t
      · exact Snd.ret hr ⟨_, rfl, hρ b⟩
      · exact Snd.ret hr ⟨_, rfl, hρ a⟩
    · cases h
  case alloc t =>
    obtain ⟨v, h1, rfl⟩ := hvalA h
    exact fin (snd_alloc hr h1)
  case box t x =>
    obtain ⟨v, h1, rfl⟩ := hvalA h
    exact fin (snd_box hr (hρ x) h1)
  case build t parts =>
    obtain ⟨v, h1, rfl, rfl⟩ := hval h
    exact fin (snd_build hr (fun p _ => hρ p.2) h1)
  case buildSlice t len parts =>
    cases hb : (Nat.beq len 0 && Nat.beq parts.size 0) with
    | true =>
      rw [hb, cond_true] at h
      simp only [Bool.and_eq_true] at hb
      obtain ⟨v, h1, rfl⟩ := hvalA h
      have e1 : len = 0 := Nat.eq_of_beq_eq_true hb.1
      have e2 : parts = #[] := Array.eq_empty_of_size_eq_zero (Nat.eq_of_beq_eq_true hb.2)
      subst e1; subst e2
      exact fin (by simpa using snd_buildEmpty hr h1)
    | false =>
      rw [hb, cond_false] at h
      obtain ⟨v, h1, rfl⟩ := hvalA h
      exact fin (snd_buildSlice hr (fun p _ => hρ p.2) h1)
  case load t a =>
    obtain ⟨v, h1, rfl, rfl⟩ := hval h
    exact fin (snd_load hr (hρ a) h1)
  case store t a x =>
    split at h
    · rename_i A1 h1
      cases h
      exact Snd.map (snd_store hr (hρ a) (hρ x) h1) fun _ _ _ => rfl
    · cases h
  case nilCheck x =>
    obtain ⟨v, h1, rfl, rfl⟩ := hval h
    have hx := hρ x
    unfold aNil at h1
    split at h1
    · rename_i a ha
      cases h1
      rw [ha] at hx
      cases hx' : ρ' x <;> rw [hx'] at hx
      all_goals cases hx
      rename_i h
      exact Snd.ret hr ⟨_, rfl, ha ▸ .ptr h⟩
    · rename_i f fs cs ha
      cases h1
      rw [ha] at hx
      cases hx' : ρ' x <;> rw [hx'] at hx
      all_goals cases hx
      rename_i h1 h2 h3 h4 h5
      exact Snd.ret hr ⟨_, rfl, ha ▸ .func _ _ _ _ h1 h2 h4 h3 h5⟩
    · rename_i t u ha
      cases h1
      rw [ha] at hx
      cases hx' : ρ' x <;> rw [hx'] at hx
      all_goals cases hx
      rename_i h
      exact Snd.ret hr ⟨_, rfl, ha ▸ .iface _ h⟩
    · cases h1
  case binOp op t x y yt =>
    split at h
    · rename_i v hv
      cases h
      cases hp : plain (ρ x) with
      | false => simp only [hp, Bool.false_and, cond_false] at hv; cases hv
      | true =>
        cases hq : plain (ρ y) with
        | false => simp only [hq, Bool.and_false, cond_false] at hv; cases hv
        | true =>
          simp only [hp, hq, Bool.and_true, cond_true] at hv
          rw [VRel.eq_of_plain _ hp (hρ x), VRel.eq_of_plain _ hq (hρ y)]
          exact fin (snd_pure hr hv)
    · obtain ⟨v, h1, rfl, rfl⟩ := hval h
      exact fin (snd_binOp hr (hρ x) (hρ y) h1)
  case unOp op t x =>
    cases hp : plain (ρ x) with
    | false => rw [hp] at h; cases h
    | true =>
      rw [hp, cond_true] at h
      obtain ⟨v, h1, rfl, rfl⟩ := hval h
      rw [VRel.eq_of_plain _ hp (hρ x)]
      exact fin (snd_pure hr h1)
  case convert src dst x =>
    obtain ⟨v, h1, rfl⟩ := hvalA h
    exact fin (snd_convert hr (hρ x) h1)
  case makeInterface t x =>
    obtain ⟨v, h1, rfl, rfl⟩ := hval h
    exact fin (snd_makeIface hr (hρ x) h1)
  case makeFunc fn first captured =>
    cases hy : isYield fn with
    | true => rw [hy] at h; cases h
    | false =>
      rw [hy] at h
      cases h
      have r1 := RL.map (φ := φ) (l := first) (ρ := ρ) (ρ' := ρ') fun x _ => hρ x
      have r2 := RL.map (φ := φ) (l := captured) (ρ := ρ) (ρ' := ρ') fun x _ => hρ x
      refine Snd.ret hr ⟨_, rfl, .func _ _ _ _ (fun l hl => by subst hl; cases hy) (by simp) (by simp) (fun i hi => ?_) (fun i hi => ?_)⟩
      · have := r1.2 i (by simpa using hi)
        simpa [Array.getD_eq_getD_getElem?] using this
      · have := r2.2 i (by simpa using hi)
        simpa [Array.getD_eq_getD_getElem?] using this
  case makeSlice t l c =>
    cases hp : plain (ρ l) with
    | false => simp only [hp, Bool.false_and, cond_false] at h; cases h
    | true =>
      cases hq : plain (ρ c) with
      | false => simp only [hq, Bool.and_false, cond_false] at h; cases h
      | true =>
        simp only [hp, hq, Bool.and_true, cond_true] at h
        obtain ⟨v, h1, rfl⟩ := hvalA h
        rw [VRel.eq_of_plain _ hp (hρ l), VRel.eq_of_plain _ hq (hρ c)]
        exact fin (snd_makeSlice hr h1)
  case slice t x lo hi mx =>
    cases hp : (optPlain ρ lo && (optPlain ρ hi && optPlain ρ mx)) with
    | false => rw [hp] at h; cases h
    | true =>
      rw [hp, cond_true] at h
      simp only [Bool.and_eq_true] at hp
      obtain ⟨v, h1, rfl, rfl⟩ := hval h
      rw [optPlain_eq hρ hp.1, optPlain_eq hρ hp.2.1, optPlain_eq hρ hp.2.2]
      split at h1
      · rename_i u hu
        cases h1
        exact fin (snd_slice hr (hρ x) hu)
      · cases hq : plain (ρ x) with
        | false => rw [hq] at h1; cases h1
        | true =>
          rw [hq, cond_true] at h1
          rw [VRel.eq_of_plain _ hq (hρ x)]
          exact fin (snd_pure hr h1)
  case fieldAddr s x f =>
    obtain ⟨v, h1, rfl, rfl⟩ := hval h
    exact fin (snd_fieldAddr hr (hρ x) h1)
  case field t x f =>
    obtain ⟨v, h1, rfl, rfl⟩ := hval h
    exact fin (snd_field hr (hρ x) h1)
  case indexAddr t x ix =>
    cases hp : plain (ρ ix) with
    | false => rw [hp] at h; cases h
    | true =>
      rw [hp, cond_true] at h
      obtain ⟨v, h1, rfl, rfl⟩ := hval h
      rw [VRel.eq_of_plain _ hp (hρ ix)]
      exact fin (snd_indexAddr hr (hρ x) h1)
  case index t x ix =>
    cases hp : plain (ρ ix) with
    | false => rw [hp] at h; cases h
    | true =>
      rw [hp, cond_true] at h
      obtain ⟨v, h1, rfl, rfl⟩ := hval h
      rw [VRel.eq_of_plain _ hp (hρ ix)]
      split at h1
      · rename_i u hu
        cases h1
        exact fin (snd_index hr (hρ x) hu)
      · cases hq : plain (ρ x) with
        | false => rw [hq] at h1; cases h1
        | true =>
          rw [hq, cond_true] at h1
          rw [VRel.eq_of_plain _ hq (hρ x)]
          exact fin (snd_pure hr h1)
  case typeAssert x xt asserted ok =>
    obtain ⟨v, h1, rfl, rfl⟩ := hval h
    exact fin (snd_assert hr (hρ x) h1)
  case extract t ix =>
    obtain ⟨v, h1, rfl, rfl⟩ := hval h
    exact fin (snd_extract hr (hρ t) h1)
  case call c => exact snd_call hr hρ h

end
end AE
end Go.Proofs.YtheaofepenbcgaaDoor

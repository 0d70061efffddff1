/- AE, part 13: one operation. -/
import Derived.Test.YtheaofepenbcgaaDoorAeU
namespace Go.Proofs.YtheaofepenbcgaaDoor
open Go
namespace AE
variable [Sig]

inductive ANext where
  | value (v : Value)
  | skip
  | enter (f : FuncId) (args : List Value)

def NR : ANext → Emb → Next → Prop
  | .value v, φ, n => ∃ v', n = .value v' ∧ VRel φ v v'
  | .skip, _, n => n = .skip
  | .enter f args, φ, n => ∃ args' : Array Value, n = .enter f args' ∧ RL args φ args'

/-- A plain computation. -/
def aPure (P : Program) (s : Sem Value) : Option Value :=
  match pureRun P s with
  | some v => bif plain v then some v else none
  | none => none

section
variable {P : Program} {φ : Emb} {A A' : AS} {w : World}

theorem snd_pure (hr : Rel φ A w) {s : Sem Value} {v : Value} (h : aPure P s = some v) : Snd (RV v) P φ A w s A := by
  unfold aPure at h
  split at h
  · rename_i u hu
    cases hp : plain u with
    | false => rw [hp] at h; cases h
    | true =>
      rw [hp, cond_true, Option.some.injEq] at h
      subst h
      exact Snd.pure_run hr hu (VRel.of_plain φ u hp)
  · cases h

/- BUILTINS -/

def aMax (P : Program) (s : Array Value → Sem Value) (args : List Value) : Option Value :=
  bif plainL args then aPure P (s ⟨args⟩) else none

def aSliceData (x : Value) : Option Value :=
  match x with
  | .slice none _ _ => some (.pointer none)
  | .slice (some ⟨b, off, none⟩) _ c => bif Nat.beq c 0 then none else some (.pointer (some ⟨b, off, none⟩))
  | _ => none

def aCap (P : Program) (ts : Array TypeId) (x : Value) : Option Value :=
  match ts[0]? with
  | some t => match pureRun P (underlying t), x with
    | some (.slice _), .slice none _ c => some (.int .i64 c)
    | some (.slice _), .slice (some _) _ _ => some poison
    | some (.array n _), _ => some (.int .i64 n)
    | _, _ => none
  | none => none

def aBuiltin (P : Program) (A : AS) (b : Builtin) (ts : Array TypeId) (ty : TypeId) (args : List Value) : Option (Value × AS) :=
  match b, args with
  | .len, [x] => match aLen P A ts x with
    | some v => some (v, A)
    | none => match aMax P (Builtin.len_ ts ty) [x] with
      | some v => some (v, A)
      | none => none
  | .append, [s, x] => aAppend P A ts s x
  | .copy, [d, s] => aCopy P A ts d s
  | .cap, [x] => (aCap P ts x).map (·, A)
  | .max, l => (aMax P (Builtin.max_ ts ty) l).map (·, A)
  | .min, l => (aMax P (Builtin.min_ ts ty) l).map (·, A)
  | .unsafeSliceData, [x] => (aSliceData x).map (·, A)
  | .clear, [x] => match aClear P A ts x with
    | some A1 => some (undef, A1)
    | none => none
  | .unsafeString, [x, n] => bif plain n then aUnsafeString P A ts x n else none
  | _, _ => none

theorem RL.eq {l : List Value} {a : Array Value} (hp : plainL l = true) (h : RL l φ a) : a = ⟨l⟩ := by
  obtain ⟨la⟩ := a
  have : la = l := VRel.eq_of_plainL (φ := φ) l la hp (by simpa using h.1.symm) (fun i hi => by simpa [Array.getD_eq_getD_getElem?] using h.2 i hi)
  rw [this]

theorem snd_max (hr : Rel φ A w) {s : Array Value → Sem Value} {l : List Value} {a : Array Value} {v : Value} (hl : RL l φ a) (h : aMax P s l = some v) : Snd (RV v) P φ A w (s a) A := by
  unfold aMax at h
  cases hp : plainL l with
  | false => rw [hp] at h; cases h
  | true =>
    rw [hp, cond_true] at h
    rw [hl.eq hp]
    exact snd_pure hr h

theorem RL.one {x : Value} {a : Array Value} (h : RL [x] φ a) : ∃ x', a = #[x'] ∧ VRel φ x x' := by
  obtain ⟨l⟩ := a
  obtain ⟨h1, h2⟩ := h
  match l, h1 with
  | [x'], _ => exact ⟨x', rfl, by simpa using h2 0 (by simp)⟩

theorem RL.two {x y : Value} {a : Array Value} (h : RL [x, y] φ a) : ∃ x' y', a = #[x', y'] ∧ VRel φ x x' ∧ VRel φ y y' := by
  obtain ⟨l⟩ := a
  obtain ⟨h1, h2⟩ := h
  match l, h1 with
  | [x', y'], _ => exact ⟨x', y', rfl, by simpa using h2 0 (by simp), by simpa using h2 1 (by simp)⟩

theorem snd_cap (hr : Rel φ A w) {ts : Array TypeId} {ty : TypeId} {x x' v : Value} (hx : VRel φ x x') (h : aCap P ts x = some v) : Snd (RV v) P φ A w (Builtin.cap_ ts ty #[x']) A := by
  unfold aCap at h
  split at h
  · rename_i t ht
    have hm : ∀ v', (do match ← underlying t, x' with
      | .array n _, _ => pure (goInt n)
      | .pointer arr, _ =>
        let .array n _ ← underlying arr | stuck "cap: pointer to array expected"
        pure (goInt n)
      | .slice _, .slice _ _ n => pure (goInt n)
      | .chan _ _, .chan none => pure (goInt 0)
      | .chan _ _, .chan (some r) =>
        let .chan n _ _ _ _ timer ← getObj r | stuck "cap: channel expected"
        pure (goInt (if timer then 0 else n))
      | _, _ => stuck "cap: array, pointer to array, slice or channel expected" : Sem Value).run P w = .ok v' w → (Builtin.cap_ ts ty #[x']).run P w = .ok v' w := by
      intro v' hv
      rw [← hv]
      unfold Builtin.cap_
      simp only [ht]
      rfl
    split at h
    · rename_i e l c hu
      simp only [Option.some.injEq] at h
      subst h
      cases hx
      exact ⟨φ, w, _, hm _ (run_pre hu rfl), .int _ _, Step.refl hr⟩
    · rename_i e a l c hu
      simp only [Option.some.injEq] at h
      subst h
      cases hx <;> exact ⟨φ, w, _, hm _ (run_pre hu rfl), .poison _, Step.refl hr⟩
    · rename_i n e hu
      simp only [Option.some.injEq] at h
      subst h
      exact ⟨φ, w, _, hm _ (run_pre hu rfl), .int _ _, Step.refl hr⟩
    · cases h
  · cases h

theorem snd_sliceData (hr : Rel φ A w) {ts : Array TypeId} {ty : TypeId} {x x' v : Value} (hx : VRel φ x x') (h : aSliceData x = some v) : Snd (RV v) P φ A w (Builtin.unsafeSliceData_ ts ty #[x']) A := by
  unfold aSliceData at h
  split at h
  · simp only [Option.some.injEq] at h
    subst h
    cases hx
    exact Snd.ret hr .pnil
  · rename_i b off n c
    cases hc : Nat.beq c 0 with
    | true => rw [hc] at h; cases h
    | false =>
      rw [hc, cond_false, Option.some.injEq] at h
      subst h
      have hc' : c ≠ 0 := fun hh => by rw [hh] at hc; exact absurd hc (by decide)
      have key : ∀ (a : Addr) (n c : Nat), c ≠ 0 → (Builtin.unsafeSliceData_ ts ty #[.slice (some a) n c]).run P w = .ok (.pointer (some a)) w := by
        intro a n c hc
        have e : Builtin.unsafeSliceData_ ts ty #[.slice (some a) n c] = (if c ≠ 0 then pure (.pointer (some a)) else do
          if (← viewAt a.block).isSome then pure (.pointer (some a)) else pure (.pointer (some ⟨← newObj (.view a (← elemOf ty)), 0, none⟩))) := rfl
        rw [e, if_pos hc]
        rfl
      cases hx with
      | slz => exact absurd rfl hc'
      | slx n c he => exact ⟨φ, w, _, key _ _ _ hc', .ptr he, Step.refl hr⟩
      | slg n c c' he h1 h2 h3 => exact ⟨φ, w, _, key _ _ _ (by omega), .ptr he, Step.refl hr⟩
  · cases h

theorem snd_builtin (hr : Rel φ A w) {b : Builtin} {ts : Array TypeId} {ty : TypeId} {cs : Array Bool} {l : List Value} {a : Array Value} {v : Value} (hl : RL l φ a) (h : aBuiltin P A b ts ty l = some (v, A')) :
    Snd (NR (.value v)) P φ A w (builtin b ts ty cs a) A' := by
  have fin : ∀ {s : Sem Value}, Snd (RV v) P φ A w s A' → Snd (NR (.value v)) P φ A w (do pure (.value (← s))) A' := fun hs => Snd.map hs fun φ a ha => ⟨a, rfl, ha⟩
  unfold aBuiltin at h
  split at h
  · obtain ⟨x', rfl, hx⟩ := hl.one
    split at h
    · rename_i v' hv
      cases h
      exact fin (snd_len hr hx hv)
    · split at h
      · rename_i v' hv
        cases h
        exact fin (snd_max hr hl hv)
      · cases h
  · obtain ⟨x', y', rfl, hx, hy⟩ := hl.two
    exact fin (snd_append hr hx hy h)
  · obtain ⟨x', y', rfl, hx, hy⟩ := hl.two
    exact fin (snd_copy hr hx hy h)
  · obtain ⟨x', rfl, hx⟩ := hl.one
    obtain ⟨v', hv, he⟩ := Option.map_eq_some_iff.1 h
    cases he
    exact fin (snd_cap hr hx hv)
  · obtain ⟨v', hv, he⟩ := Option.map_eq_some_iff.1 h
    cases he
    exact fin (snd_max hr hl hv)
  · obtain ⟨v', hv, he⟩ := Option.map_eq_some_iff.1 h
    cases he
    exact fin (snd_max hr hl hv)
  · obtain ⟨x', rfl, hx⟩ := hl.one
    obtain ⟨v', hv, he⟩ := Option.map_eq_some_iff.1 h
    cases he
    exact fin (snd_sliceData hr hx hv)
  · obtain ⟨x', rfl, hx⟩ := hl.one
    split at h
    · rename_i A1 hA1
      cases h
      exact fin (snd_clear hr hx hA1)
    · cases h
  · rename_i x n
    obtain ⟨x', y', rfl, hx, hy⟩ := hl.two
    cases hp : plain n with
    | false => rw [hp] at h; cases h
    | true =>
      rw [hp, cond_true] at h
      rw [VRel.eq_of_plain _ hp hy]
      exact fin (snd_unsafeString hr hx h)
  · cases h

/- CALLS -/

def enters (P : Program) (f : FuncId) : Bool :=
  match P.funcs[f]? with
  | some fn => !(fn.name == "runtime.NumGoroutine") && fn.body.isSome
  | none => false

omit [Sig] in
theorem enters_run {f : FuncId} (h : enters P f = true) (args : Array Value) : pureRun P (callFunc f args) = some (.enter f args) := by
  unfold enters at h
  split at h
  · rename_i fn hf
    simp only [Bool.and_eq_true, Bool.not_eq_true'] at h
    obtain ⟨h1, h2⟩ := h
    have h3 : fn.body.isNone = false := by cases hb : fn.body <;> simp_all
    unfold callFunc
    show pureRun P (match P.funcs[f]? with | none => _ | some fn => _) = _
    simp only [hf, h1, h3, Bool.false_eq_true, if_false]
    rfl
  · cases h

def aPlainFunc (P : Program) (f : FuncId) (args : List Value) : Option ANext :=
  bif plainL args then match pureRun P (callFunc f ⟨args⟩) with
    | some (.value v) => bif plain v then some (.value v) else none
    | _ => none
  else none

def aKnown (P : Program) [Lib P] (A : AS) (f : FuncId) : List Value → Option (Value × AS)
  | [x] => bif (Lib.same P).contains f then some (x, A) else
    match (Lib.nozero P).find? fun p => Nat.beq p.1 f, x with
    | some p, .int .i64 n => aNoZero A p.2 n
    | _, _ => none
  | _ => none

def aCallFunc (P : Program) [Lib P] (A : AS) (f : FuncId) (args : List Value) : Option (ANext × AS) :=
  bif enters P f then some (.enter f args, A) else
    match aKnown P A f args with
    | some (v, A1) => some (.value v, A1)
    | none => match aPlainFunc P f args with
      | some n => some (n, A)
      | none => none

theorem snd_known [Lib P] (hr : Rel φ A w) {f : FuncId} {l : List Value} {a : Array Value} {v : Value} (hl : RL l φ a) (h : aKnown P A f l = some (v, A')) : Snd (NR (.value v)) P φ A w (callFunc f a) A' := by
  unfold aKnown at h
  split at h
  · rename_i x
    obtain ⟨x', rfl, hx⟩ := hl.one
    cases hc : (Lib.same P).contains f with
    | true =>
      rw [hc] at h
      cases h
      exact Snd.pure_run hr (Lib.sameOk f (by simpa using hc) x') ⟨x', rfl, hx⟩
    | false =>
      rw [hc, cond_false] at h
      split at h
      · rename_i p n hf
        cases hx
        have hp1 : p.1 = f := by
          have := List.find?_some hf
          exact Nat.eq_of_beq_eq_true this
        obtain ⟨ps, rs, t, h1, h2, h3⟩ := Lib.nozeroOk p (List.mem_of_find?_eq_some hf)
        obtain ⟨φ1, w1, v1, g1, g2, g3⟩ := snd_noZero (ps := ps) hr h2 h3 h
        refine ⟨φ1, w1, .value v1, ?_, ⟨v1, rfl, g2⟩, g3⟩
        rw [← hp1, h1]
        exact run_then g1 rfl
      · cases h
  · cases h

theorem snd_callFunc [Lib P] (hr : Rel φ A w) {f : FuncId} {l : List Value} {a : Array Value} {n : ANext} (hl : RL l φ a) (h : aCallFunc P A f l = some (n, A')) : Snd (NR n) P φ A w (callFunc f a) A' := by
  unfold aCallFunc at h
  cases he : enters P f with
  | true =>
    rw [he] at h
    cases h
    exact Snd.pure_run hr (enters_run he a) ⟨a, rfl, hl⟩
  | false =>
    rw [he, cond_false] at h
    split at h
    · rename_i v A1 hk
      cases h
      exact snd_known hr hl hk
    · split at h
      · rename_i n hn
        cases h
        unfold aPlainFunc at hn
        cases hp : plainL l with
        | false => rw [hp] at hn; cases hn
        | true =>
          rw [hp, cond_true] at hn
          split at hn
          · rename_i v hv
            cases hpv : plain v with
            | false => rw [hpv] at hn; cases hn
            | true =>
              rw [hpv, cond_true, Option.some.injEq] at hn
              subst hn
              rw [hl.eq hp]
              exact Snd.pure_run hr hv ⟨v, rfl, VRel.of_plain φ v hpv⟩
          · cases hn
      · cases h

def aCall (P : Program) [Lib P] (A : AS) (ev : Operand → Value) (c : Call) (ty : TypeId) : Option (ANext × AS) :=
  match c.callee with
  | .builtin b => (aBuiltin P A b c.argTypes ty (c.args.toList.map ev)).map fun r => (.value r.1, r.2)
  | .value f => match ev f with
    | .func (.func g) ⟨first⟩ ⟨captured⟩ => aCallFunc P A g (first ++ c.args.toList.map ev ++ captured)
    | _ => none
  | .invoke recv name => match ev recv with
    | .iface t v => bif plain v then match pureRun P (method (P.types.size + Made.depth) t v name) with
        | some (f, r) => bif plain r then aCallFunc P A f (r :: c.args.toList.map ev) else none
        | none => none
      else none
    | _ => none

theorem RL.append {l1 l2 : List Value} {a1 a2 : Array Value} (h1 : RL l1 φ a1) (h2 : RL l2 φ a2) : RL (l1 ++ l2) φ (a1 ++ a2) := by
  obtain ⟨la⟩ := a1
  obtain ⟨lb⟩ := a2
  obtain ⟨s1, v1⟩ := h1
  obtain ⟨s2, v2⟩ := h2
  simp only [List.size_toArray] at s1 s2
  refine ⟨by simp [s1, s2], fun j hj => ?_⟩
  simp only [List.append_toArray, Array.getD_eq_getD_getElem?, List.getElem?_toArray, List.getD_eq_getElem?_getD] at v1 v2 ⊢
  rcases Nat.lt_or_ge j l1.length with h | h
  · rw [List.getElem?_append_left h, List.getElem?_append_left (by omega)]
    exact v1 j h
  · rw [List.getElem?_append_right h, List.getElem?_append_right (by omega), s1]
    exact v2 _ (by simp at hj; omega)

theorem RL.map {l : Array Operand} {ρ ρ' : Operand → Value} (h : ∀ x ∈ l, VRel φ (ρ x) (ρ' x)) : RL (l.toList.map ρ) φ (l.map ρ') := by
  obtain ⟨l⟩ := l
  refine ⟨by simp, fun j hj => ?_⟩
  simp only [List.length_map] at hj
  simp only [List.map_toArray, Array.getD_eq_getD_getElem?, List.getElem?_toArray, List.getD_eq_getElem?_getD, List.getElem?_map, List.getElem?_eq_getElem hj, Option.map_some, Option.getD_some]
  exact h _ (by simp)

theorem RL.of {cs cs' : Array Value} (h1 : cs.size = cs'.size) (h : ∀ i, i < cs.size → VRel φ (cs.getD i undef) (cs'.getD i undef)) : RL cs.toList φ cs' := by
  obtain ⟨l⟩ := cs
  refine ⟨by simpa using h1.symm, fun j hj => ?_⟩
  simpa [Array.getD_eq_getD_getElem?] using h j (by simpa using hj)

theorem snd_call [Lib P] (hr : Rel φ A w) {ρ ρ' : Operand → Value} {c : Call} {ty : TypeId} {n : ANext} (hρ : ∀ x, VRel φ (ρ x) (ρ' x)) (h : aCall P A ρ c ty = some (n, A')) :
    Snd (NR n) P φ A w (do let d ← resolve ρ' c ty; invoke d.target d.args) A' := by
  unfold aCall at h
  have hargs : RL (c.args.toList.map ρ) φ (c.args.map ρ') := RL.map fun x _ => hρ x
  split at h
  · rename_i b hc
    obtain ⟨⟨v, A1⟩, hb, he⟩ := Option.map_eq_some_iff.1 h
    cases he
    obtain ⟨φ2, w2, n2, g1, g2, g3⟩ := snd_builtin (cs := c.args.map fun | .const _ => true | _ => false) hr hargs hb
    refine ⟨φ2, w2, n2, ?_, g2, g3⟩
    rw [← g1]
    unfold resolve
    rw [hc]
    rfl
  · rename_i f hc
    split at h
    · rename_i g first captured hf
      have hb := h
      have hv := hρ f
      rw [hf] at hv
      cases hf' : ρ' f with
      | func fn fs' cs' =>
        rw [hf'] at hv
        cases hv with
        | func fs fs' cs cs' hn h1 h2 hfs hcs =>
          have := (RL.of h1 hfs).append hargs |>.append (RL.of h2 hcs)
          obtain ⟨φ2, w2, n2, g1, g2, g3⟩ := snd_callFunc hr this hb
          refine ⟨φ2, w2, n2, ?_, g2, g3⟩
          rw [← g1]
          unfold resolve
          rw [hc]
          simp only [hf']
          rfl
      | _ => rw [hf'] at hv; cases hv
    · cases h
  · rename_i recv name hc
    split at h
    · rename_i t v hv
      cases hp : plain v with
      | false => rw [hp] at h; cases h
      | true =>
        rw [hp, cond_true] at h
        split at h
        · rename_i f r hm
          cases hpr : plain r with
          | false => rw [hpr] at h; cases h
          | true =>
            rw [hpr, cond_true] at h
            have hb := h
            have hvr := hρ recv
            rw [hv] at hvr
            cases hf' : ρ' recv with
            | iface t' v' =>
              rw [hf'] at hvr
              cases hvr with
              | iface _ hvv =>
                have hveq := VRel.eq_of_plain v hp hvv
                subst hveq
                have h1 : RL [r] φ #[r] := ⟨rfl, fun j hj => by
                  have : j = 0 := by simpa using hj
                  subst this
                  exact VRel.of_plain φ r hpr⟩
                obtain ⟨φ2, w2, n2, g1, g2, g3⟩ := snd_callFunc hr (h1.append hargs) hb
                refine ⟨φ2, w2, n2, ?_, g2, g3⟩
                rw [← g1]
                unfold resolve
                rw [hc]
                simp only [hf']
                refine run_pre (a := { target := .fn (.method name) #[], args := #[.iface t v'] ++ c.args.map ρ' }) rfl ?_
                unfold invoke
                have e0 : (#[Value.iface t v'] ++ c.args.map ρ')[0]? = some (.iface t v') := by
                  simp [Array.getElem?_append]
                have e1 : (#[Value.iface t v'] ++ c.args.map ρ').extract 1 (#[Value.iface t v'] ++ c.args.map ρ').size = c.args.map ρ' := by
                  apply Array.ext'
                  simp [List.take_of_length_le]
                simp only [e0, e1]
                unfold callMethod
                refine run_pre (a := P) rfl ?_
                exact run_pre hm rfl
            | _ => rw [hf'] at hvr; cases hvr
        · cases h
    · cases h

end
end AE
end Go.Proofs.YtheaofepenbcgaaDoor

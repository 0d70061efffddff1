/- Parts of the proof, in the order in which they are built: Ae13, Ae14, AeF, Ae15, Posts, Ae16, Ae17, Ae18, AeDr, Ae19, Ae20, Ae21, AeG, MtS, AeH. -/
import Derived.Test.YtblhndlmgibljaaDoorPsCard1
import Derived.CallsIn
import Derived.OrdersIn
import Derived.RangeFuncIn
import Derived.RangeFuncCalls
import Derived.RangeFuncLeaves
import Derived.TacticsIn
import Derived.WalkKit
import Derived.Orders
import Derived.LoopNIn
import Derived.Laws.Sem
import Derived.Below
import Derived.Test.YtblhndlmgibljaaDoorProg
import Derived.KernelRfl

/- AE, part 13: one operation. -/
namespace Go.Proofs.YtblhndlmgibljaaDoor
open Go
namespace AE
variable [Sig]

inductive ANext where
  | value (v : Value)
  | skip
  | enter (f : FuncId) (args : List Value)

def NR : ANext → Emb → Next → Prop
  | .value v, φ, n => ∃ v', n = .value v' ∧ VRel φ v v'
  | .skip, _, n => n = .skip
  | .enter f args, φ, n => ∃ args' : Array Value, n = .enter f args' ∧ RL args φ args'

def aPure (P : Program) (s : Sem Value) : Option Value :=
  match pureRun P s with
  | some v => bif plain v then some v else none
  | none => none

section
variable {P : Program} {φ : Emb} {A A' : AS} {w : World}

theorem snd_pure (hr : Rel φ A w) {s : Sem Value} {v : Value} (h : aPure P s = some v) : Snd (RV v) P φ A w s A := by
  unfold aPure at h
  split at h
  · rename_i u hu
    cases hp : plain u with
    | false => rw [hp] at h; cases h
    | true =>
      rw [hp, cond_true, Option.some.injEq] at h
      subst h
      exact Snd.pure_run hr hu (VRel.of_plain φ u hp)
  · cases h

/- BUILTINS -/

def aMax (P : Program) (s : Array Value → Sem Value) (args : List Value) : Option Value :=
  bif plainL args then aPure P (s ⟨args⟩) else none

def aSliceData (x : Value) : Option Value :=
  match x with
  | .slice none _ _ => some (.pointer none)
  | .slice (some ⟨b, off, none⟩) _ c => bif Nat.beq c 0 then none else some (.pointer (some ⟨b, off, none⟩))
  | _ => none

def aCap (P : Program) (ts : Array TypeId) (x : Value) : Option Value :=
  match ts[0]? with
  | some t => match pureRun P (underlying t), x with
    | some (.slice _), .slice none _ c => some (.int .i64 c)
    | some (.slice _), .slice (some _) _ _ => some poison
    | some (.array n _), _ => some (.int .i64 n)
    | _, _ => none
  | none => none

def aBuiltin (P : Program) (A : AS) (b : Builtin) (ts : Array TypeId) (ty : TypeId) (args : List Value) : Option (Value × AS) :=
  match b, args with
  | .len, [x] => match aLen P A ts x with
    | some v => some (v, A)
    | none => match aMax P (Builtin.len_ ts ty) [x] with
      | some v => some (v, A)
      | none => none
  | .append, [s, x] => aAppend P A ts s x
  | .copy, [d, s] => aCopy P A ts d s
  | .cap, [x] => (aCap P ts x).map (·, A)
  | .max, l => (aMax P (Builtin.max_ ts ty) l).map (·, A)
  | .min, l => (aMax P (Builtin.min_ ts ty) l).map (·, A)
  | .unsafeSliceData, [x] => (aSliceData x).map (·, A)
  | .clear, [x] => match aClear P A ts x with
    | some A1 => some (undef, A1)
    | none => none
  | .unsafeString, [x, n] => bif plain n then aUnsafeString P A ts x n else none
  | .delete, [m, k] => match aDelete P A ts m k with
    | some A1 => some (.tuple ⟨[]⟩, A1)
    | none => none
  | _, _ => none

theorem RL.eq {l : List Value} {a : Array Value} (hp : plainL l = true) (h : RL l φ a) : a = ⟨l⟩ := by
  obtain ⟨la⟩ := a
  have : la = l := VRel.eq_of_plainL (φ := φ) l la hp (by simpa using h.1.symm) (fun i hi => by simpa [Array.getD_eq_getD_getElem?] using h.2 i hi)
  rw [this]

theorem snd_max (hr : Rel φ A w) {s : Array Value → Sem Value} {l : List Value} {a : Array Value} {v : Value} (hl : RL l φ a) (h : aMax P s l = some v) : Snd (RV v) P φ A w (s a) A := by
  unfold aMax at h
  cases hp : plainL l with
  | false => rw [hp] at h; cases h
  | true =>
    rw [hp, cond_true] at h
    rw [hl.eq hp]
    exact snd_pure hr h

theorem RL.one {x : Value} {a : Array Value} (h : RL [x] φ a) : ∃ x', a = #[x'] ∧ VRel φ x x' := by
  obtain ⟨l⟩ := a
  obtain ⟨h1, h2⟩ := h
  match l, h1 with
  | [x'], _ => exact ⟨x', rfl, by simpa using h2 0 (by simp)⟩

theorem RL.two {x y : Value} {a : Array Value} (h : RL [x, y] φ a) : ∃ x' y', a = #[x', y'] ∧ VRel φ x x' ∧ VRel φ y y' := by
  obtain ⟨l⟩ := a
  obtain ⟨h1, h2⟩ := h
  match l, h1 with
  | [x', y'], _ => exact ⟨x', y', rfl, by simpa using h2 0 (by simp), by simpa using h2 1 (by simp)⟩

theorem snd_cap (hr : Rel φ A w) {ts : Array TypeId} {ty : TypeId} {x x' v : Value} (hx : VRel φ x x') (h : aCap P ts x = some v) : Snd (RV v) P φ A w (Builtin.cap_ ts ty #[x']) A := by
  unfold aCap at h
  split at h
  · rename_i t ht
    have hm : ∀ v', (do match ← underlying t, x' with
      | .array n _, _ => pure (goInt n)
      | .pointer arr, _ =>
        let .array n _ ← underlying arr | stuck "cap: pointer to array expected"
        pure (goInt n)
      | .slice _, .slice _ _ n => pure (goInt n)
      | .chan _ _, .chan none => pure (goInt 0)
      | .chan _ _, .chan (some r) =>
        let .chan n _ _ _ _ timer ← getObj r | stuck "cap: channel expected"
        pure (goInt (if timer then 0 else n))
      | _, _ => stuck "cap: array, pointer to array, slice or channel expected" : Sem Value).run P w = .ok v' w → (Builtin.cap_ ts ty #[x']).run P w = .ok v' w := by
      intro v' hv
      rw [← hv]
      unfold Builtin.cap_
      simp only [ht]
      rfl
    split at h
    · rename_i e l c hu
      simp only [Option.some.injEq] at h
      subst h
      cases hx
      exact ⟨φ, w, _, hm _ (run_pre hu rfl), .int _ _, Step.refl hr⟩
    · rename_i e a l c hu
      simp only [Option.some.injEq] at h
      subst h
      cases hx <;> exact ⟨φ, w, _, hm _ (run_pre hu rfl), .poison _, Step.refl hr⟩
    · rename_i n e hu
      simp only [Option.some.injEq] at h
      subst h
      exact ⟨φ, w, _, hm _ (run_pre hu rfl), .int _ _, Step.refl hr⟩
    · cases h
  · cases h

theorem snd_sliceData (hr : Rel φ A w) {ts : Array TypeId} {ty : TypeId} {x x' v : Value} (hx : VRel φ x x') (h : aSliceData x = some v) : Snd (RV v) P φ A w (Builtin.unsafeSliceData_ ts ty #[x']) A := by
  unfold aSliceData at h
  split at h
  · simp only [Option.some.injEq] at h
    subst h
    cases hx
    exact Snd.ret hr .pnil
  · rename_i b off n c
    cases hc : Nat.beq c 0 with
    | true => rw [hc] at h; cases h
    | false =>
      rw [hc, cond_false, Option.some.injEq] at h
      subst h
      have hc' : c ≠ 0 := fun hh => by rw [hh] at hc; exact absurd hc (by decide)
      have key : ∀ (a : Addr) (n c : Nat), c ≠ 0 → (Builtin.unsafeSliceData_ ts ty #[.slice (some a) n c]).run P w = .ok (.pointer (some a)) w := by
        intro a n c hc
        have e : Builtin.unsafeSliceData_ ts ty #[.slice (some a) n c] = (if c ≠ 0 then pure (.pointer (some a)) else do
          if (← viewAt a.block).isSome then pure (.pointer (some a)) else pure (.pointer (some ⟨← newObj (.view a (← elemOf ty)), 0, none⟩))) := rfl
        rw [e, if_pos hc]
        rfl
      cases hx with
      | slz => exact absurd rfl hc'
      | slx n c he => exact ⟨φ, w, _, key _ _ _ hc', .ptr he, Step.refl hr⟩
      | slg n c c' he h1 h2 h3 => exact ⟨φ, w, _, key _ _ _ (by omega), .ptr he, Step.refl hr⟩
  · cases h

theorem snd_builtin (hr : Rel φ A w) {b : Builtin} {ts : Array TypeId} {ty : TypeId} {cs : Array Bool} {l : List Value} {a : Array Value} {v : Value} (hl : RL l φ a) (h : aBuiltin P A b ts ty l = some (v, A')) :
    Snd (NR (.value v)) P φ A w (builtin b ts ty cs a) A' := by
  have fin : ∀ {s : Sem Value}, Snd (RV v) P φ A w s A' → Snd (NR (.value v)) P φ A w (do pure (.value (← s))) A' := fun hs => Snd.map hs fun φ a ha => ⟨a, rfl, ha⟩
  unfold aBuiltin at h
  split at h
  · obtain ⟨x', rfl, hx⟩ := hl.one
    split at h
    · rename_i v' hv
      cases h
      exact fin (snd_len hr hx hv)
    · split at h
      · rename_i v' hv
        cases h
        exact fin (snd_max hr hl hv)
      · cases h
  · obtain ⟨x', y', rfl, hx, hy⟩ := hl.two
    exact fin (snd_append hr hx hy h)
  · obtain ⟨x', y', rfl, hx, hy⟩ := hl.two
    exact fin (snd_copy hr hx hy h)
  · obtain ⟨x', rfl, hx⟩ := hl.one
    obtain ⟨v', hv, he⟩ := Option.map_eq_some_iff.1 h
    cases he
    exact fin (snd_cap hr hx hv)
  · obtain ⟨v', hv, he⟩ := Option.map_eq_some_iff.1 h
    cases he
    exact fin (snd_max hr hl hv)
  · obtain ⟨v', hv, he⟩ := Option.map_eq_some_iff.1 h
    cases he
    exact fin (snd_max hr hl hv)
  · obtain ⟨x', rfl, hx⟩ := hl.one
    obtain ⟨v', hv, he⟩ := Option.map_eq_some_iff.1 h
    cases he
    exact fin (snd_sliceData hr hx hv)
  · obtain ⟨x', rfl, hx⟩ := hl.one
    split at h
    · rename_i A1 hA1
      cases h
      exact fin (snd_clear hr hx hA1)
    · cases h
  · rename_i x n
    obtain ⟨x', y', rfl, hx, hy⟩ := hl.two
    cases hp : plain n with
    | false => rw [hp] at h; cases h
    | true =>
      rw [hp, cond_true] at h
      rw [VRel.eq_of_plain _ hp hy]
      exact fin (snd_unsafeString hr hx h)
  · rename_i m k
    obtain ⟨x', y', rfl, hx, hy⟩ := hl.two
    split at h
    · rename_i A1 hA1
      cases h
      have hp : plain k = true := by
        unfold aDelete at hA1
        split at hA1
        · cases hp : plain k with
          | true => rfl
          | false => rw [hp] at hA1; cases hA1
        · cases hA1
      rw [VRel.eq_of_plain _ hp hy]
      exact fin (snd_delete hr hx hA1)
    · cases h
  · cases h

/- CALLS -/

def enters (P : Program) (f : FuncId) : Bool :=
  match P.funcs[f]? with
  | some fn => !(fn.name == "runtime.NumGoroutine") && fn.body.isSome
  | none => false

omit [Sig] in
theorem enters_run {f : FuncId} (h : enters P f = true) (args : Array Value) : pureRun P (callFunc f args) = some (.enter f args) := by
  unfold enters at h
  split at h
  · rename_i fn hf
    simp only [Bool.and_eq_true, Bool.not_eq_true'] at h
    obtain ⟨h1, h2⟩ := h
    have h3 : fn.body.isNone = false := by cases hb : fn.body <;> simp_all
    unfold callFunc
    show pureRun P (match P.funcs[f]? with | none => _ | some fn => _) = _
    simp only [hf, h1, h3, Bool.false_eq_true, if_false]
    rfl
  · cases h

def aPlainFunc (P : Program) (f : FuncId) (args : List Value) : Option ANext :=
  bif plainL args then match pureRun P (callFunc f ⟨args⟩) with
    | some (.value v) => bif plain v then some (.value v) else none
    | _ => none
  else none

def aKnown (P : Program) [Lib P] (A : AS) (f : FuncId) : List Value → Option (Value × AS)
  | [x] => bif (Lib.same P).contains f then some (x, A) else
    match (Lib.nozero P).find? fun p => Nat.beq p.1 f, x with
    | some p, .int .i64 n => aNoZero A p.2 n
    | _, _ => none
  | _ => none

def aCallFunc (P : Program) [Lib P] (A : AS) (f : FuncId) (args : List Value) : Option (ANext × AS) :=
  bif enters P f then some (.enter f args, A) else
    match aKnown P A f args with
    | some (v, A1) => some (.value v, A1)
    | none => match aPlainFunc P f args with
      | some n => some (n, A)
      | none => none

theorem snd_known [Lib P] (hr : Rel φ A w) {f : FuncId} {l : List Value} {a : Array Value} {v : Value} (hl : RL l φ a) (h : aKnown P A f l = some (v, A')) : Snd (NR (.value v)) P φ A w (callFunc f a) A' := by
  unfold aKnown at h
  split at h
  · rename_i x
    obtain ⟨x', rfl, hx⟩ := hl.one
    cases hc : (Lib.same P).contains f with
    | true =>
      rw [hc] at h
      cases h
      exact Snd.pure_run hr (Lib.sameOk f (by simpa using hc) x') ⟨x', rfl, hx⟩
    | false =>
      rw [hc, cond_false] at h
      split at h
      · rename_i p n hf
        cases hx
        have hp1 : p.1 = f := by
          have := List.find?_some hf
          exact Nat.eq_of_beq_eq_true this
        obtain ⟨ps, rs, t, h1, h2, h3⟩ := Lib.nozeroOk p (List.mem_of_find?_eq_some hf)
        obtain ⟨φ1, w1, v1, g1, g2, g3⟩ := snd_noZero (ps := ps) hr h2 h3 h
        refine ⟨φ1, w1, .value v1, ?_, ⟨v1, rfl, g2⟩, g3⟩
        rw [← hp1, h1]
        exact run_then g1 rfl
      · cases h
  · cases h

theorem snd_callFunc [Lib P] (hr : Rel φ A w) {f : FuncId} {l : List Value} {a : Array Value} {n : ANext} (hl : RL l φ a) (h : aCallFunc P A f l = some (n, A')) : Snd (NR n) P φ A w (callFunc f a) A' := by
  unfold aCallFunc at h
  cases he : enters P f with
  | true =>
    rw [he] at h
    cases h
    exact Snd.pure_run hr (enters_run he a) ⟨a, rfl, hl⟩
  | false =>
    rw [he, cond_false] at h
    split at h
    · rename_i v A1 hk
      cases h
      exact snd_known hr hl hk
    · split at h
      · rename_i n hn
        cases h
        unfold aPlainFunc at hn
        cases hp : plainL l with
        | false => rw [hp] at hn; cases hn
        | true =>
          rw [hp, cond_true] at hn
          split at hn
          · rename_i v hv
            cases hpv : plain v with
            | false => rw [hpv] at hn; cases hn
            | true =>
              rw [hpv, cond_true, Option.some.injEq] at hn
              subst hn
              rw [hl.eq hp]
              exact Snd.pure_run hr hv ⟨v, rfl, VRel.of_plain φ v hpv⟩
          · cases hn
      · cases h

def aCall (P : Program) [Lib P] (A : AS) (ev : Operand → Value) (c : Call) (ty : TypeId) : Option (ANext × AS) :=
  match c.callee with
  | .builtin b => (aBuiltin P A b c.argTypes ty (c.args.toList.map ev)).map fun r => (.value r.1, r.2)
  | .value f => match ev f with
    | .func (.func g) ⟨first⟩ ⟨captured⟩ => aCallFunc P A g (first ++ c.args.toList.map ev ++ captured)
    | _ => none
  | .invoke recv name => match ev recv with
    | .iface t v => bif plain v then match pureRun P (method (P.types.size + Made.depth) t v name) with
        | some (f, r) => bif plain r then aCallFunc P A f (r :: c.args.toList.map ev) else none
        | none => none
      else none
    | _ => none

theorem RL.append {l1 l2 : List Value} {a1 a2 : Array Value} (h1 : RL l1 φ a1) (h2 : RL l2 φ a2) : RL (l1 ++ l2) φ (a1 ++ a2) := by
  obtain ⟨la⟩ := a1
  obtain ⟨lb⟩ := a2
  obtain ⟨s1, v1⟩ := h1
  obtain ⟨s2, v2⟩ := h2
  simp only [List.size_toArray] at s1 s2
  refine ⟨by simp [s1, s2], fun j hj => ?_⟩
  simp only [List.append_toArray, Array.getD_eq_getD_getElem?, List.getElem?_toArray, List.getD_eq_getElem?_getD] at v1 v2 ⊢
  rcases Nat.lt_or_ge j l1.length with h | h
  · rw [List.getElem?_append_left h, List.getElem?_append_left (by omega)]
    exact v1 j h
  · rw [List.getElem?_append_right h, List.getElem?_append_right (by omega), s1]
    exact v2 _ (by simp at hj; omega)

theorem RL.map {l : Array Operand} {ρ ρ' : Operand → Value} (h : ∀ x ∈ l, VRel φ (ρ x) (ρ' x)) : RL (l.toList.map ρ) φ (l.map ρ') := by
  obtain ⟨l⟩ := l
  refine ⟨by simp, fun j hj => ?_⟩
  simp only [List.length_map] at hj
  simp only [List.map_toArray, Array.getD_eq_getD_getElem?, List.getElem?_toArray, List.getD_eq_getElem?_getD, List.getElem?_map, List.getElem?_eq_getElem hj, Option.map_some, Option.getD_some]
  exact h _ (by simp)

theorem RL.of {cs cs' : Array Value} (h1 : cs.size = cs'.size) (h : ∀ i, i < cs.size → VRel φ (cs.getD i undef) (cs'.getD i undef)) : RL cs.toList φ cs' := by
  obtain ⟨l⟩ := cs
  refine ⟨by simpa using h1.symm, fun j hj => ?_⟩
  simpa [Array.getD_eq_getD_getElem?] using h j (by simpa using hj)

theorem snd_call [Lib P] (hr : Rel φ A w) {ρ ρ' : Operand → Value} {c : Call} {ty : TypeId} {n : ANext} (hρ : ∀ x, VRel φ (ρ x) (ρ' x)) (h : aCall P A ρ c ty = some (n, A')) :
    Snd (NR n) P φ A w (do let d ← resolve ρ' c ty; invoke d.target d.args) A' := by
  unfold aCall at h
  have hargs : RL (c.args.toList.map ρ) φ (c.args.map ρ') := RL.map fun x _ => hρ x
  split at h
  · rename_i b hc
    obtain ⟨⟨v, A1⟩, hb, he⟩ := Option.map_eq_some_iff.1 h
    cases he
    obtain ⟨φ2, w2, n2, g1, g2, g3⟩ := snd_builtin (cs := c.args.map fun | .const _ => true | _ => false) hr hargs hb
    refine ⟨φ2, w2, n2, ?_, g2, g3⟩
    rw [← g1]
    unfold resolve
    rw [hc]
    rfl
  · rename_i f hc
    split at h
    · rename_i g first captured hf
      have hb := h
      have hv := hρ f
      rw [hf] at hv
      cases hf' : ρ' f with
      | func fn fs' cs' =>
        rw [hf'] at hv
        cases hv with
        | func fs fs' cs cs' hn h1 h2 hfs hcs =>
          have := (RL.of h1 hfs).append hargs |>.append (RL.of h2 hcs)
          obtain ⟨φ2, w2, n2, g1, g2, g3⟩ := snd_callFunc hr this hb
          refine ⟨φ2, w2, n2, ?_, g2, g3⟩
          rw [← g1]
          unfold resolve
          rw [hc]
          simp only [hf']
          rfl
      | _ => rw [hf'] at hv; cases hv
    · cases h
  · rename_i recv name hc
    split at h
    · rename_i t v hv
      cases hp : plain v with
      | false => rw [hp] at h; cases h
      | true =>
        rw [hp, cond_true] at h
        split at h
        · rename_i f r hm
          cases hpr : plain r with
          | false => rw [hpr] at h; cases h
          | true =>
            rw [hpr, cond_true] at h
            have hb := h
            have hvr := hρ recv
            rw [hv] at hvr
            cases hf' : ρ' recv with
            | iface t' v' =>
              rw [hf'] at hvr
              cases hvr with
              | iface _ hvv =>
                have hveq := VRel.eq_of_plain v hp hvv
                subst hveq
                have h1 : RL [r] φ #[r] := ⟨rfl, fun j hj => by
                  have : j = 0 := by simpa using hj
                  subst this
                  exact VRel.of_plain φ r hpr⟩
                obtain ⟨φ2, w2, n2, g1, g2, g3⟩ := snd_callFunc hr (h1.append hargs) hb
                refine ⟨φ2, w2, n2, ?_, g2, g3⟩
                rw [← g1]
                unfold resolve
                rw [hc]
                simp only [hf']
                refine run_pre (a := { target := .fn (.method name) #[], args := #[.iface t v'] ++ c.args.map ρ' }) rfl ?_
                unfold invoke
                have e0 : (#[Value.iface t v'] ++ c.args.map ρ')[0]? = some (.iface t v') := by
                  simp [Array.getElem?_append]
                have e1 : (#[Value.iface t v'] ++ c.args.map ρ').extract 1 (#[Value.iface t v'] ++ c.args.map ρ').size = c.args.map ρ' := by
                  apply Array.ext'
                  simp [List.take_of_length_le]
                simp only [e0, e1]
                unfold callMethod
                refine run_pre (a := P) rfl ?_
                exact run_pre hm rfl
            | _ => rw [hf'] at hvr; cases hvr
        · cases h
    · cases h

end
end AE
end Go.Proofs.YtblhndlmgibljaaDoor

/- AE, part 14: the table of operations. -/
namespace Go.Proofs.YtblhndlmgibljaaDoor
open Go
namespace AE
variable [Sig]

def optPlain (ev : Operand → Value) : Option Operand → Bool
  | none => true
  | some x => plain (ev x)

def aConvert (P : Program) (A : AS) (src dst : TypeId) (x : Value) : Option (Value × AS) :=
  match (bif plain x then aPure P (convert src dst x) else none) with
  | some v => some (v, A)
  | none => match aToUnsafe P A src dst x with
   | some v => some (v, A)
   | none => match pureRun P (underlying src), pureRun P (underlying dst), x with
    | some _, some (.slice e), .string s => match pureRun P (underlying e) with
      | some (.int .u8) => aS2B A e s
      | _ => none
    | some (.slice e), some .string, .slice a n c => match pureRun P (underlying e) with
      | some (.int .u8) => (aB2S P A (.slice a n c)).map (·, A)
      | _ => none
    | _, _, _ => none

def aNil (x : Value) : Option Value :=
  match x with
  | .pointer (some _) => some x
  | .func (.func _) _ _ => some x
  | .iface _ _ => some x
  | _ => none

def isYield : Fn → Bool
  | .yield _ => true
  | _ => false

def val (A : AS) : Option Value → Option (ANext × AS)
  | some v => some (.value v, A)
  | none => none
def valA : Option (Value × AS) → Option (ANext × AS)
  | some (v, A) => some (.value v, A)
  | none => none

def aop (P : Program) [Lib P] (ev : Operand → Value) (A : AS) (o : Oper) : Option (ANext × AS) :=
  match o.op with
  | .move x | .assign x => some (.value (ev x), A)
  | .pick c a b => match ev c with
    | .bool t => some (.value (bif t then ev a else ev b), A)
    | _ => none
  | .alloc t => valA (aAlloc P A t)
  | .box t x => valA (aBox A t (ev x))
  | .build t parts => val A (aBuild P t (parts.map fun (i, x) => (i, ev x)))
  | .buildSlice t len parts => bif Nat.beq len 0 && Nat.beq parts.size 0 then valA (aBuildEmpty P A t) else valA (aBuildSlice P A t len (parts.map fun (i, x) => (i, ev x)))
  | .load t a => val A (aLoad P A t (ev a))
  | .store t a x => match aStore P A t (ev x) (ev a) with
    | some A1 => some (.skip, A1)
    | none => none
  | .nilCheck x => val A (aNil (ev x))
  | .binOp op t x y _ => match (bif plain (ev x) && plain (ev y) then aPure P (do eqGuard op t x y (ev x) (ev y); binOp op t (ev x) (ev y)) else none) with
    | some v => some (.value v, A)
    | none => val A (aBinOp P op t (ev x) (ev y))
  | .unOp op _ x => bif plain (ev x) then val A (aPure P (Op.unary op (ev x))) else none
  | .convert src dst x => valA (aConvert P A src dst (ev x))
  | .makeInterface t x => val A (aMakeIface P t (ev x))
  | .makeFunc fn first captured => bif isYield fn then none else some (.value (.func fn ⟨first.toList.map ev⟩ ⟨captured.toList.map ev⟩), A)
  | .makeSlice t l c => bif plain (ev l) && plain (ev c) then valA (aMakeSlice P A t (ev l) (ev c)) else none
  | .slice t x lo hi mx => bif optPlain ev lo && (optPlain ev hi && optPlain ev mx) then val A (match aSlice P A t (ev x) (lo.map ev) (hi.map ev) (mx.map ev) with
      | some v => some v
      | none => bif plain (ev x) then aPure P (Instr.sliceAt t (ev x) (lo.map ev) (hi.map ev) (mx.map ev)) else none) else none
  | .fieldAddr s x f => val A (aField P s f (ev x))
  | .field t x f => val A (aFieldOf P t (ev x) f)
  | .indexAddr t x ix => bif plain (ev ix) then val A (aIndexAddr P t (ev x) (ev ix)) else none
  | .index t x ix => bif plain (ev ix) then val A (match aIndexOf P t (ev x) (ev ix) with
      | some v => some v
      | none => bif plain (ev x) then aPure P (Instr.index t (ev x) (ev ix)) else none) else none
  | .typeAssert x _ asserted ok => val A (aAssert P (ev x) asserted ok)
  | .extract t ix => val A (aExtract (ev t) ix)
  | .call c => aCall P A ev c o.type
  | .makeMap t r => bif optPlain ev r then valA (aMakeMap P A t (r.map ev)) else none
  | .lookup t x ix ok => val A (aLookup P A t (ev x) (ev ix) ok)
  | .mapUpdate t m k x | .insert t m k x => match aMapUpdate P A t (ev m) (ev k) (ev x) with
    | some A1 => some (.skip, A1)
    | none => none
  | .mapEntry t m k => valA (aMapEntry P A t (ev m) (ev k))
  | .entryStore _ m st x => match aEntryStore P A (ev m) (ev st) (ev x) with
    | some A1 => some (.skip, A1)
    | none => none
  | .range t x => valA (aRange P A t (ev x))
  | .next it isS => valA (aNext A (ev it) isS)
  | _ => none

section
variable {P : Program} {φ : Emb} {A A' : AS} {w : World}

theorem snd_convert (hr : Rel φ A w) {src dst : TypeId} {x x' v : Value} (hx : VRel φ x x') (h : aConvert P A src dst x = some (v, A')) : Snd (RV v) P φ A w (convert src dst x') A' := by
  unfold aConvert at h
  split at h
  · rename_i u hu
    simp only [Option.some.injEq, Prod.mk.injEq] at h
    obtain ⟨rfl, rfl⟩ := h
    cases hp : plain x with
    | false => rw [hp] at hu; cases hu
    | true =>
      rw [hp, cond_true] at hu
      rw [VRel.eq_of_plain x hp hx]
      exact snd_pure hr hu
  split at h
  · rename_i u hu
    cases h
    exact snd_toUnsafe hr hx hu
  · split at h
    · rename_i d e s h1 h2 _ _
      split at h
      · rename_i h3
        cases hx
        unfold convert
        refine Snd.pre h1 (Snd.pre h2 ?_)
        simp only
        refine Snd.pre h3 ?_
        exact snd_s2b hr h
      · cases h
    · rename_i e a n c h1 h2 _ _
      split at h
      · rename_i h3
        obtain ⟨v', hv, he⟩ := Option.map_eq_some_iff.1 h
        cases he
        have hs := snd_b2s hr hx hv
        unfold convert
        refine Snd.pre h1 (Snd.pre h2 ?_)
        cases hx <;> exact Snd.pre h3 hs
      · cases h
    · cases h

theorem optPlain_eq {ρ ρ' : Operand → Value} (hρ : ∀ x, VRel φ (ρ x) (ρ' x)) {o : Option Operand} (h : optPlain ρ o = true) : o.map ρ' = o.map ρ := by
  cases o with
  | none => rfl
  | some x => simp only [Option.map_some]; rw [VRel.eq_of_plain _ h (hρ x)]

theorem snd_aop [Lib P] (hr : Rel φ A w) {ρ ρ' : Operand → Value} {o : Oper} {n : ANext} (hρ : ∀ x, VRel φ (ρ x) (ρ' x)) (h : aop P ρ A o = some (n, A')) : Snd (NR n) P φ A w (execOp ρ' o) A' := by
  have fin : ∀ {v : Value} {s : Sem Value}, Snd (RV v) P φ A w s A' → Snd (NR (.value v)) P φ A w (do pure (.value (← s))) A' := fun hs => Snd.map hs fun φ a ha => ⟨a, rfl, ha⟩
  have hval : ∀ {r : Option Value}, val A r = some (n, A') → ∃ v, r = some v ∧ n = .value v ∧ A' = A := by
    intro r hv
    cases r with
    | none => cases hv
    | some v => simp only [val, Option.some.injEq, Prod.mk.injEq] at hv; exact ⟨v, rfl, hv.1.symm, hv.2.symm⟩
  have hvalA : ∀ {r : Option (Value × AS)}, valA r = some (n, A') → ∃ v, r = some (v, A') ∧ n = .value v := by
    intro r hv
    cases r with
    | none => cases hv
    | some p => obtain ⟨v, A1⟩ := p; simp only [valA, Option.some.injEq, Prod.mk.injEq] at hv; exact ⟨v, by rw [hv.2], hv.1.symm⟩
  obtain ⟨dst, op, type, pos, after, guard⟩ := o
  unfold aop at h
  unfold execOp
  cases op <;> simp only at h ⊢ <;> try (cases h; done)
  case move x => cases h; exact Snd.ret hr ⟨_, rfl, hρ x⟩
  case assign x => cases h; exact Snd.ret hr ⟨_, rfl, hρ x⟩
  case pick c a b =>
    split at h
    · rename_i t hc
      cases h
      have := hρ c
      rw [hc] at this
      cases hc' : ρ' c <;> rw [hc'] at this <;> cases this
      refine Snd.pre (a := t) rfl ?_
      cases t
      · exact Snd.ret hr ⟨_, rfl, hρ b⟩
      · exact Snd.ret hr ⟨_, rfl, hρ a⟩
    · cases h
  case alloc t =>
    obtain ⟨v, h1, rfl⟩ := hvalA h
    exact fin (snd_alloc hr h1)
  case box t x =>
    obtain ⟨v, h1, rfl⟩ := hvalA h
    exact fin (snd_box hr (hρ x) h1)
  case build t parts =>
    obtain ⟨v, h1, rfl, rfl⟩ := hval h
    exact fin (snd_build hr (fun p _ => hρ p.2) h1)
  case buildSlice t len parts =>
    cases hb : (Nat.beq len 0 && Nat.beq parts.size 0) with
    | true =>
      rw [hb, cond_true] at h
      simp only [Bool.and_eq_true] at hb
      obtain ⟨v, h1, rfl⟩ := hvalA h
      have e1 : len = 0 := Nat.eq_of_beq_eq_true hb.1
      have e2 : parts = #[] := Array.eq_empty_of_size_eq_zero (Nat.eq_of_beq_eq_true hb.2)
      subst e1; subst e2
      exact fin (by simpa using snd_buildEmpty hr h1)
    | false =>
      rw [hb, cond_false] at h
      obtain ⟨v, h1, rfl⟩ := hvalA h
      exact fin (snd_buildSlice hr (fun p _ => hρ p.2) h1)
  case load t a =>
    obtain ⟨v, h1, rfl, rfl⟩ := hval h
    exact fin (snd_load hr (hρ a) h1)
  case store t a x =>
    split at h
    · rename_i A1 h1
      cases h
      exact Snd.map (snd_store hr (hρ a) (hρ x) h1) fun _ _ _ => rfl
    · cases h
  case nilCheck x =>
    obtain ⟨v, h1, rfl, rfl⟩ := hval h
    have hx := hρ x
    unfold aNil at h1
    split at h1
    · rename_i a ha
      cases h1
      rw [ha] at hx
      cases hx' : ρ' x <;> rw [hx'] at hx
      all_goals cases hx
      rename_i h
      exact Snd.ret hr ⟨_, rfl, ha ▸ .ptr h⟩
    · rename_i f fs cs ha
      cases h1
      rw [ha] at hx
      cases hx' : ρ' x <;> rw [hx'] at hx
      all_goals cases hx
      rename_i h1 h2 h3 h4 h5
      exact Snd.ret hr ⟨_, rfl, ha ▸ .func _ _ _ _ h1 h2 h4 h3 h5⟩
    · rename_i t u ha
      cases h1
      rw [ha] at hx
      cases hx' : ρ' x <;> rw [hx'] at hx
      all_goals cases hx
      rename_i h
      exact Snd.ret hr ⟨_, rfl, ha ▸ .iface _ h⟩
    · cases h1
  case binOp op t x y yt =>
    split at h
    · rename_i v hv
      cases h
      cases hp : plain (ρ x) with
      | false => simp only [hp, Bool.false_and, cond_false] at hv; cases hv
      | true =>
        cases hq : plain (ρ y) with
        | false => simp only [hq, Bool.and_false, cond_false] at hv; cases hv
        | true =>
          simp only [hp, hq, Bool.and_true, cond_true] at hv
          rw [VRel.eq_of_plain _ hp (hρ x), VRel.eq_of_plain _ hq (hρ y)]
          exact fin (snd_pure hr hv)
    · obtain ⟨v, h1, rfl, rfl⟩ := hval h
      exact fin (snd_binOp hr (hρ x) (hρ y) h1)
  case unOp op t x =>
    cases hp : plain (ρ x) with
    | false => rw [hp] at h; cases h
    | true =>
      rw [hp, cond_true] at h
      obtain ⟨v, h1, rfl, rfl⟩ := hval h
      rw [VRel.eq_of_plain _ hp (hρ x)]
      exact fin (snd_pure hr h1)
  case convert src dst x =>
    obtain ⟨v, h1, rfl⟩ := hvalA h
    exact fin (snd_convert hr (hρ x) h1)
  case makeInterface t x =>
    obtain ⟨v, h1, rfl, rfl⟩ := hval h
    exact fin (snd_makeIface hr (hρ x) h1)
  case makeFunc fn first captured =>
    cases hy : isYield fn with
    | true => rw [hy] at h; cases h
    | false =>
      rw [hy] at h
      cases h
      have r1 := RL.map (φ := φ) (l := first) (ρ := ρ) (ρ' := ρ') fun x _ => hρ x
      have r2 := RL.map (φ := φ) (l := captured) (ρ := ρ) (ρ' := ρ') fun x _ => hρ x
      refine Snd.ret hr ⟨_, rfl, .func _ _ _ _ (fun l hl => by subst hl; cases hy) (by simp) (by simp) (fun i hi => ?_) (fun i hi => ?_)⟩
      · have := r1.2 i (by simpa using hi)
        simpa [Array.getD_eq_getD_getElem?] using this
      · have := r2.2 i (by simpa using hi)
        simpa [Array.getD_eq_getD_getElem?] using this
  case makeSlice t l c =>
    cases hp : plain (ρ l) with
    | false => simp only [hp, Bool.false_and, cond_false] at h; cases h
    | true =>
      cases hq : plain (ρ c) with
      | false => simp only [hq, Bool.and_false, cond_false] at h; cases h
      | true =>
        simp only [hp, hq, Bool.and_true, cond_true] at h
        obtain ⟨v, h1, rfl⟩ := hvalA h
        rw [VRel.eq_of_plain _ hp (hρ l), VRel.eq_of_plain _ hq (hρ c)]
        exact fin (snd_makeSlice hr h1)
  case slice t x lo hi mx =>
    cases hp : (optPlain ρ lo && (optPlain ρ hi && optPlain ρ mx)) with
    | false => rw [hp] at h; cases h
    | true =>
      rw [hp, cond_true] at h
      simp only [Bool.and_eq_true] at hp
      obtain ⟨v, h1, rfl, rfl⟩ := hval h
      rw [optPlain_eq hρ hp.1, optPlain_eq hρ hp.2.1, optPlain_eq hρ hp.2.2]
      split at h1
      · rename_i u hu
        cases h1
        exact fin (snd_slice hr (hρ x) hu)
      · cases hq : plain (ρ x) with
        | false => rw [hq] at h1; cases h1
        | true =>
          rw [hq, cond_true] at h1
          rw [VRel.eq_of_plain _ hq (hρ x)]
          exact fin (snd_pure hr h1)
  case fieldAddr s x f =>
    obtain ⟨v, h1, rfl, rfl⟩ := hval h
    exact fin (snd_fieldAddr hr (hρ x) h1)
  case field t x f =>
    obtain ⟨v, h1, rfl, rfl⟩ := hval h
    exact fin (snd_field hr (hρ x) h1)
  case indexAddr t x ix =>
    cases hp : plain (ρ ix) with
    | false => rw [hp] at h; cases h
    | true =>
      rw [hp, cond_true] at h
      obtain ⟨v, h1, rfl, rfl⟩ := hval h
      rw [VRel.eq_of_plain _ hp (hρ ix)]
      exact fin (snd_indexAddr hr (hρ x) h1)
  case index t x ix =>
    cases hp : plain (ρ ix) with
    | false => rw [hp] at h; cases h
    | true =>
      rw [hp, cond_true] at h
      obtain ⟨v, h1, rfl, rfl⟩ := hval h
      rw [VRel.eq_of_plain _ hp (hρ ix)]
      split at h1
      · rename_i u hu
        cases h1
        exact fin (snd_index hr (hρ x) hu)
      · cases hq : plain (ρ x) with
        | false => rw [hq] at h1; cases h1
        | true =>
          rw [hq, cond_true] at h1
          rw [VRel.eq_of_plain _ hq (hρ x)]
          exact fin (snd_pure hr h1)
  case typeAssert x xt asserted ok =>
    obtain ⟨v, h1, rfl, rfl⟩ := hval h
    exact fin (snd_assert hr (hρ x) h1)
  case extract t ix =>
    obtain ⟨v, h1, rfl, rfl⟩ := hval h
    exact fin (snd_extract hr (hρ t) h1)
  case call c => exact snd_call hr hρ h
  case makeMap t r =>
    cases hp : optPlain ρ r with
    | false => rw [hp] at h; cases h
    | true =>
      rw [hp, cond_true] at h
      obtain ⟨v, h1, rfl⟩ := hvalA h
      rw [optPlain_eq hρ hp]
      exact fin (snd_makeMap hr h1)
  case lookup t x ix ok =>
    obtain ⟨v, h1, rfl, rfl⟩ := hval h
    have hp : plain (ρ ix) = true := by
      unfold aLookup at h1
      cases hp : plain (ρ ix) with
      | true => rfl
      | false => rw [hp] at h1; cases h1
    rw [VRel.eq_of_plain _ hp (hρ ix)]
    exact fin (snd_lookup hr (hρ x) h1)
  case mapUpdate t m k x =>
    split at h
    · rename_i A1 h1
      cases h
      have hp : plain (ρ k) = true := by
        unfold aMapUpdate at h1
        cases hp : plain (ρ k) with
        | true => rfl
        | false => rw [hp] at h1; cases h1
      rw [VRel.eq_of_plain _ hp (hρ k)]
      exact Snd.map (snd_mapUpdate hr (hρ m) (hρ x) h1) fun _ _ _ => rfl
    · cases h
  case insert t m k x =>
    split at h
    · rename_i A1 h1
      cases h
      have hp : plain (ρ k) = true := by
        unfold aMapUpdate at h1
        cases hp : plain (ρ k) with
        | true => rfl
        | false => rw [hp] at h1; cases h1
      rw [VRel.eq_of_plain _ hp (hρ k)]
      exact Snd.map (snd_mapUpdate hr (hρ m) (hρ x) h1) fun _ _ _ => rfl
    · cases h
  case mapEntry t m k =>
    obtain ⟨v, h1, rfl⟩ := hvalA h
    have hp : plain (ρ k) = true := by
      unfold aMapEntry at h1
      cases hp : plain (ρ k) with
      | true => rfl
      | false => rw [hp] at h1; cases h1
    rw [VRel.eq_of_plain _ hp (hρ k)]
    exact fin (snd_mapEntry hr (hρ m) h1)
  case entryStore t m st x =>
    split at h
    · rename_i A1 h1
      cases h
      have hp : plain (ρ st) = true := by
        unfold aEntryStore at h1
        split at h1
        · split at h1
          · cases hp : plain (ρ st) with
            | true => rfl
            | false => rw [hp] at h1; cases h1
          · cases h1
        · cases h1
      rw [VRel.eq_of_plain _ hp (hρ st)]
      exact Snd.map (snd_entryStore hr (hρ m) (hρ x) h1) fun _ _ _ => rfl
    · cases h
  case range t x =>
    obtain ⟨v, h1, rfl⟩ := hvalA h
    exact fin (snd_range hr (hρ x) h1)
  case next it isS =>
    obtain ⟨v, h1, rfl⟩ := hvalA h
    exact fin (snd_next hr (hρ it) h1)

end
end AE
end Go.Proofs.YtblhndlmgibljaaDoor

/- AE, facts: what the operations on symbols yield, handed in from outside. -/
namespace Go.Proofs.YtblhndlmgibljaaDoor
open Go
namespace AE

mutual
def eqV : Value → Value → Bool
  | .bool a, .bool b => a == b
  | .int k n, .int k' n' => decide (k = k') && decide (n = n')
  | .complex .f64 a b, .complex .f64 a' b' => Nat.beq a a' && Nat.beq b b'
  | .string s, .string t => s.data.toList == t.data.toList
  | .pointer none, .pointer none => true
  | .slice none l c, .slice none l' c' => Nat.beq l l' && Nat.beq c c'
  | .map none, .map none => true
  | .nilFunc, .nilFunc => true
  | .nilIface, .nilIface => true
  | .func (.func f) ⟨a⟩ ⟨b⟩, .func (.func g) ⟨a'⟩ ⟨b'⟩ => Nat.beq f g && (eqVL a a' && eqVL b b')
  | .iface t v, .iface t' v' => Nat.beq t t' && eqV v v'
  | .agg ⟨l⟩, .agg ⟨l'⟩ => eqVL l l'
  | .tuple ⟨l⟩, .tuple ⟨l'⟩ => eqVL l l'
  | _, _ => false
def eqVL : List Value → List Value → Bool
  | [], [] => true
  | v :: r, v' :: r' => eqV v v' && eqVL r r'
  | _, _ => false
end

mutual
theorem eqV_sound : ∀ (a b : Value), eqV a b = true → a = b := by
  intro a b h
  unfold eqV at h
  split at h
  · rw [eq_of_beq h]
  · simp only [Bool.and_eq_true, decide_eq_true_eq] at h; rw [h.1, h.2]
  · simp only [Bool.and_eq_true] at h; rw [Nat.eq_of_beq_eq_true h.1, Nat.eq_of_beq_eq_true h.2]
  · rename_i s t
    have := eq_of_beq h
    obtain ⟨⟨s⟩⟩ := s
    obtain ⟨⟨t⟩⟩ := t
    simp only at this
    rw [this]
  · rfl
  · simp only [Bool.and_eq_true] at h; rw [Nat.eq_of_beq_eq_true h.1, Nat.eq_of_beq_eq_true h.2]
  · rfl
  · rfl
  · rfl
  · simp only [Bool.and_eq_true] at h; rw [Nat.eq_of_beq_eq_true h.1, eqVL_sound _ _ h.2.1, eqVL_sound _ _ h.2.2]
  · rename_i t v t' v'
    simp only [Bool.and_eq_true] at h; rw [Nat.eq_of_beq_eq_true h.1, eqV_sound v v' h.2]
  · rename_i l l'
    rw [eqVL_sound l l' h]
  · rename_i l l'
    rw [eqVL_sound l l' h]
  · cases h
theorem eqVL_sound : ∀ (a b : List Value), eqVL a b = true → a = b
  | [], [], _ => rfl
  | v :: r, v' :: r', h => by
    unfold eqVL at h
    simp only [Bool.and_eq_true] at h
    rw [eqV_sound v v' h.1, eqVL_sound r r' h.2]
  | [], _ :: _, h => by simp [eqVL] at h
  | _ :: _, [], h => by simp [eqVL] at h
end

mutual
def plainS : Value → Bool
  | .complex .f64 _ b => Nat.beq b 0
  | .iface _ v => plainS v
  | .agg ⟨l⟩ => plainSL l
  | .tuple ⟨l⟩ => plainSL l
  | .bool _ | .int .. | .float .. | .string _ | .pointer none | .map none | .chan none | .nilFunc | .nilIface => true
  | .slice none l c => l == 0 && c == 0
  | .func (.func _) ⟨a⟩ ⟨b⟩ => plainSL a && plainSL b
  | _ => false
def plainSL : List Value → Bool
  | [] => true
  | v :: r => plainS v && plainSL r
end

variable [Sig]

mutual
def interp : Value → Value
  | .complex .f64 k b => bif Nat.beq b 0 then Sig.σ k else .complex .f64 k b
  | .iface t v => .iface t (interp v)
  | .agg ⟨l⟩ => .agg ⟨interpL l⟩
  | .tuple ⟨l⟩ => .tuple ⟨interpL l⟩
  | .func (.func f) ⟨a⟩ ⟨b⟩ => .func (.func f) ⟨interpL a⟩ ⟨interpL b⟩
  | v => v
def interpL : List Value → List Value
  | [] => []
  | v :: r => interp v :: interpL r
end

theorem interp_symv (k : Nat) : interp (symv k) = Sig.σ k := by simp [symv, interp]

theorem interpL_length : ∀ l : List Value, (interpL l).length = l.length
  | [] => rfl
  | v :: r => by simp [interpL, interpL_length r]

theorem interpL_map : ∀ l : List Value, interpL l = l.map interp
  | [] => rfl
  | v :: r => by simp [interpL, interpL_map r]

mutual
theorem VRel.of_plainS (φ : Emb) : ∀ v : Value, plainS v = true → VRel φ v (interp v) := by
  intro v h
  unfold plainS at h
  split at h
  · rename_i k b
    have : b = 0 := Nat.eq_of_beq_eq_true h
    subst this
    have := VRel.sym (φ := φ) k
    simpa [interp, symv] using this
  · rename_i t v
    unfold interp
    exact .iface t (VRel.of_plainS φ v h)
  · rename_i l
    unfold interp
    exact .agg _ _ (by simp [interpL_length]) fun i hi => by simpa using VRel.of_plainSL φ l h i (by simpa using hi)
  · rename_i l
    unfold interp
    exact .tuple _ _ (by simp [interpL_length]) fun i hi => by simpa using VRel.of_plainSL φ l h i (by simpa using hi)
  all_goals (first | (cases h; done) | skip)
  · rename_i b; simpa [interp] using VRel.of_plain φ (.bool b) rfl
  · rename_i k n; simpa [interp] using VRel.of_plain φ (.int k n) rfl
  · rename_i k n; simpa [interp] using VRel.of_plain φ (.float k n) rfl
  · rename_i s; simpa [interp] using VRel.of_plain φ (.string s) rfl
  · simpa [interp] using VRel.of_plain φ (.pointer none) rfl
  · simpa [interp] using VRel.of_plain φ (.map none) rfl
  · simpa [interp] using VRel.of_plain φ (.chan none) rfl
  · simpa [interp] using VRel.of_plain φ .nilFunc rfl
  · simpa [interp] using VRel.of_plain φ .nilIface rfl
  · rename_i l c; simpa [interp] using VRel.of_plain φ (.slice none l c) h
  · rename_i f a b
    simp only [Bool.and_eq_true] at h
    unfold interp
    exact .func _ _ _ _ (fun l hl => by cases hl) (by simp [interpL_length]) (by simp [interpL_length]) (fun i hi => by simpa using VRel.of_plainSL φ a h.1 i (by simpa using hi)) (fun i hi => by simpa using VRel.of_plainSL φ b h.2 i (by simpa using hi))
theorem VRel.of_plainSL (φ : Emb) : ∀ l : List Value, plainSL l = true → ∀ i, i < l.length → VRel φ (l.getD i Go.undef) ((interpL l).getD i Go.undef)
  | [], _, i, hi => absurd hi (by simp)
  | v :: r, h, 0, _ => by
      have := VRel.of_plainS φ v (by simp [plainSL] at h; exact h.1)
      simpa [interpL] using this
  | v :: r, h, i + 1, hi => by
      have := VRel.of_plainSL φ r (by simp [plainSL] at h; exact h.2) i (by simpa using hi)
      simpa [interpL] using this
end

theorem VRel.sym_inv {φ : Emb} {k : Nat} {v' : Value} (h : VRel φ (symv k) v') : v' = Sig.σ k := by
  generalize hs : symv k = s at h
  cases h <;> simp [symv, AE.poison] at hs
  subst hs
  rfl

mutual
theorem VRel.eq_of_plainS {φ : Emb} : ∀ (v : Value) {v' : Value}, plainS v = true → VRel φ v v' → v' = interp v := by
  intro v v' hp h
  unfold plainS at hp
  split at hp
  · rename_i k b
    have : b = 0 := Nat.eq_of_beq_eq_true hp
    subst this
    rw [VRel.sym_inv (k := k) h]
    simp [interp]
  · rename_i t v
    cases h with
    | iface t h => unfold interp; rw [VRel.eq_of_plainS v hp h]
  · rename_i l
    cases h with
    | agg cs cs' h1 h2 =>
      obtain ⟨l'⟩ := cs'
      unfold interp
      rw [VRel.eq_of_plainSL l l' hp (by simpa using h1) (fun i hi => by simpa using h2 i (by simpa using hi))]
  · rename_i l
    cases h with
    | tuple cs cs' h1 h2 =>
      obtain ⟨l'⟩ := cs'
      unfold interp
      rw [VRel.eq_of_plainSL l l' hp (by simpa using h1) (fun i hi => by simpa using h2 i (by simpa using hi))]
  all_goals (first | (cases hp; done) | skip)
  all_goals first | (unfold interp; refine VRel.eq_of_plain _ ?_ h; first | exact hp | rfl; done) | skip
  rename_i f a b
  simp only [Bool.and_eq_true] at hp
  cases h with
  | func fs fs' cs cs' hn h1 h2 hf hc =>
    obtain ⟨a'⟩ := fs'
    obtain ⟨b'⟩ := cs'
    unfold interp
    rw [VRel.eq_of_plainSL a a' hp.1 (by simpa using h1) (fun i hi => by simpa using hf i (by simpa using hi)), VRel.eq_of_plainSL b b' hp.2 (by simpa using h2) (fun i hi => by simpa using hc i (by simpa using hi))]
theorem VRel.eq_of_plainSL {φ : Emb} : ∀ (l l' : List Value), plainSL l = true → l.length = l'.length → (∀ i, i < l.length → VRel φ (l.getD i Go.undef) (l'.getD i Go.undef)) → l' = interpL l
  | [], [], _, _, _ => rfl
  | [], _ :: _, _, h, _ => by simp at h
  | _ :: _, [], _, h, _ => by simp at h
  | v :: r, v' :: r', hp, hl, h => by
      have h1 := VRel.eq_of_plainS v (by simp [plainSL] at hp; exact hp.1) (by simpa using h 0 (by simp))
      have h2 := VRel.eq_of_plainSL r r' (by simp [plainSL] at hp; exact hp.2) (by simpa using hl) (fun i hi => by simpa using h (i + 1) (by simpa using hi))
      rw [h1, h2]; rfl
end

inductive FOp where
  | bin (op : BinOp) (t : TypeId) (x y : Value)
  | un (op : UnOp) (x : Value)
  | conv (s d : TypeId) (x : Value)
  | slc (t : TypeId) (x : Value) (lo hi mx : Option Value)
  | ixa (t : TypeId) (x i : Value)
  | ix (t : TypeId) (x i : Value)
  | ld (t : TypeId) (a : Value)
  | fa (t : TypeId) (a : Value) (f : Nat)
  | nilc (x : Value)
  | len (ts : Array TypeId) (ty : TypeId) (x : Value)
  | mx (ts : Array TypeId) (ty : TypeId) (x y : Value)
  | mn (ts : Array TypeId) (ty : TypeId) (x y : Value)
  | tru (x : Value)
  | lk (t : TypeId) (x i : Value) (ok : Bool)

def eqO : Option Value → Option Value → Bool
  | none, none => true
  | some a, some b => eqV a b
  | _, _ => false

omit [Sig] in
theorem eqO_sound {a b : Option Value} (h : eqO a b = true) : a = b := by
  unfold eqO at h
  split at h
  · rfl
  · rw [eqV_sound _ _ h]
  · cases h

def eqF : FOp → FOp → Bool
  | .bin op t x y, .bin op' t' x' y' => decide (op = op') && (Nat.beq t t' && (eqV x x' && eqV y y'))
  | .un op x, .un op' x' => decide (op = op') && eqV x x'
  | .conv s d x, .conv s' d' x' => Nat.beq s s' && (Nat.beq d d' && eqV x x')
  | .slc t x lo hi mx, .slc t' x' lo' hi' mx' => Nat.beq t t' && (eqV x x' && (eqO lo lo' && (eqO hi hi' && eqO mx mx')))
  | .ixa t x i, .ixa t' x' i' => Nat.beq t t' && (eqV x x' && eqV i i')
  | .ix t x i, .ix t' x' i' => Nat.beq t t' && (eqV x x' && eqV i i')
  | .ld t a, .ld t' a' => Nat.beq t t' && eqV a a'
  | .fa t a f, .fa t' a' f' => Nat.beq t t' && (eqV a a' && Nat.beq f f')
  | .nilc x, .nilc x' => eqV x x'
  | .len ts ty x, .len ts' ty' x' => decide (ts = ts') && (Nat.beq ty ty' && eqV x x')
  | .mx ts ty x y, .mx ts' ty' x' y' => decide (ts = ts') && (Nat.beq ty ty' && (eqV x x' && eqV y y'))
  | .mn ts ty x y, .mn ts' ty' x' y' => decide (ts = ts') && (Nat.beq ty ty' && (eqV x x' && eqV y y'))
  | .tru x, .tru x' => eqV x x'
  | .lk t x i ok, .lk t' x' i' ok' => Nat.beq t t' && (eqV x x' && (eqV i i' && decide (ok = ok')))
  | _, _ => false

omit [Sig] in
theorem eqF_sound {a b : FOp} (h : eqF a b = true) : a = b := by
  unfold eqF at h
  split at h <;> try simp only [Bool.and_eq_true, decide_eq_true_eq] at h
  case h_1 => rw [h.1, Nat.eq_of_beq_eq_true h.2.1, eqV_sound _ _ h.2.2.1, eqV_sound _ _ h.2.2.2]
  case h_2 => rw [h.1, eqV_sound _ _ h.2]
  case h_3 => rw [Nat.eq_of_beq_eq_true h.1, Nat.eq_of_beq_eq_true h.2.1, eqV_sound _ _ h.2.2]
  case h_4 => rw [Nat.eq_of_beq_eq_true h.1, eqV_sound _ _ h.2.1, eqO_sound h.2.2.1, eqO_sound h.2.2.2.1, eqO_sound h.2.2.2.2]
  case h_5 => rw [Nat.eq_of_beq_eq_true h.1, eqV_sound _ _ h.2.1, eqV_sound _ _ h.2.2]
  case h_6 => rw [Nat.eq_of_beq_eq_true h.1, eqV_sound _ _ h.2.1, eqV_sound _ _ h.2.2]
  case h_7 => rw [Nat.eq_of_beq_eq_true h.1, eqV_sound _ _ h.2]
  case h_8 => rw [Nat.eq_of_beq_eq_true h.1, eqV_sound _ _ h.2.1, Nat.eq_of_beq_eq_true h.2.2]
  case h_9 => rw [eqV_sound _ _ h]
  case h_10 => rw [h.1, Nat.eq_of_beq_eq_true h.2.1, eqV_sound _ _ h.2.2]
  case h_11 => rw [h.1, Nat.eq_of_beq_eq_true h.2.1, eqV_sound _ _ h.2.2.1, eqV_sound _ _ h.2.2.2]
  case h_12 => rw [h.1, Nat.eq_of_beq_eq_true h.2.1, eqV_sound _ _ h.2.2.1, eqV_sound _ _ h.2.2.2]
  case h_13 => rw [eqV_sound _ _ h]
  case h_14 => rw [Nat.eq_of_beq_eq_true h.1, eqV_sound _ _ h.2.1, eqV_sound _ _ h.2.2.1, h.2.2.2]
  case h_15 => cases h

def fop (ev : Operand → Value) (o : Oper) : Option FOp :=
  match o.op with
  | .binOp op t x y _ => some (.bin op t (ev x) (ev y))
  | .unOp op _ x => some (.un op (ev x))
  | .convert s d x => some (.conv s d (ev x))
  | .slice t x lo hi mx => some (.slc t (ev x) (lo.map ev) (hi.map ev) (mx.map ev))
  | .indexAddr t x i => some (.ixa t (ev x) (ev i))
  | .index t x i => some (.ix t (ev x) (ev i))
  | .load t a => some (.ld t (ev a))
  | .fieldAddr t a f => some (.fa t (ev a) f)
  | .nilCheck x => some (.nilc (ev x))
  | .call c => match c.callee with
    | .builtin .len => match c.args with
      | ⟨[x]⟩ => some (.len c.argTypes o.type (ev x))
      | _ => none
    | .builtin .max => match c.args with
      | ⟨[x, y]⟩ => some (.mx c.argTypes o.type (ev x) (ev y))
      | _ => none
    | .builtin .min => match c.args with
      | ⟨[x, y]⟩ => some (.mn c.argTypes o.type (ev x) (ev y))
      | _ => none
    | _ => none
  | .lookup t x i ok => some (.lk t (ev x) (ev i) ok)
  | _ => none

def semF (xo yo : Operand) : FOp → Sem Next
  | .bin op t x y => do pure (.value (← (do eqGuard op t xo yo x y; binOp op t x y)))
  | .un op x => do pure (.value (← Op.unary op x))
  | .conv s d x => do pure (.value (← convert s d x))
  | .slc t x lo hi mx => do pure (.value (← Instr.sliceAt t x lo hi mx))
  | .ixa t x i => do pure (.value (← Instr.indexAt t x i))
  | .ix t x i => do pure (.value (← Instr.index t x i))
  | .ld t a => do pure (.value (← Instr.loadAt t a))
  | .fa t a f => do pure (.value (← Instr.fieldAt t a f))
  | .nilc x => execOp (fun _ => x) ⟨none, .nilCheck (.const undef), 0, "", #[], none⟩
  | .len ts ty x => do pure (.value (← Builtin.len_ ts ty #[x]))
  | .mx ts ty x y => do pure (.value (← Builtin.max_ ts ty #[x, y]))
  | .mn ts ty x y => do pure (.value (← Builtin.min_ ts ty #[x, y]))
  | .tru x => pure (.value x)
  | .lk t x i ok => do pure (.value (← Instr.lookup t x i ok))

def interpF : FOp → FOp
  | .bin op t x y => .bin op t (interp x) (interp y)
  | .un op x => .un op (interp x)
  | .conv s d x => .conv s d (interp x)
  | .slc t x lo hi mx => .slc t (interp x) (lo.map interp) (hi.map interp) (mx.map interp)
  | .ixa t x i => .ixa t (interp x) (interp i)
  | .ix t x i => .ix t (interp x) (interp i)
  | .ld t a => .ld t (interp a)
  | .fa t a f => .fa t (interp a) f
  | .nilc x => .nilc (interp x)
  | .len ts ty x => .len ts ty (interp x)
  | .mx ts ty x y => .mx ts ty (interp x) (interp y)
  | .mn ts ty x y => .mn ts ty (interp x) (interp y)
  | .tru x => .tru (interp x)
  | .lk t x i ok => .lk t (interp x) (interp i) ok

def plainO : Option Value → Bool
  | none => true
  | some v => plainS v

def plainF : FOp → Bool
  | .bin _ _ x y | .ixa _ x y | .ix _ x y | .mx _ _ x y | .mn _ _ x y | .lk _ x y _ => plainS x && plainS y
  | .un _ x | .tru x | .conv _ _ x | .ld _ x | .fa _ x _ | .nilc x | .len _ _ x => plainS x
  | .slc _ x lo hi mx => plainS x && (plainO lo && (plainO hi && plainO mx))

def pureF : FOp → Bool
  | .bin .. | .un .. | .tru .. | .ixa .. | .fa .. => true
  | _ => false

def ImmW (w : World) : Prop := ∀ i o, Sig.imm i = some o → w.heap[i]? = some o

def FactOk (P : Program) (p : FOp × Value) : Prop :=
  plainF p.1 = true ∧ plainS p.2 = true ∧
  if pureF p.1 then ∀ xo yo w, (semF xo yo (interpF p.1)).run P w = .ok (.value (interp p.2)) w
  else ∀ xo yo w, ImmW w → (semF xo yo (interpF p.1)).run P w = .ok (.value (interp p.2)) w

class Facts (P : Program) where
  ops : List (FOp × Value)

def FactsOk (P : Program) [Facts P] : Prop := ∀ p ∈ Facts.ops P, FactOk P p

def find (f : FOp) : List (FOp × Value) → Option Value
  | [] => none
  | p :: r => bif eqF f p.1 then some p.2 else find f r

omit [Sig] in
theorem find_mem {f : FOp} {v : Value} : ∀ {l : List (FOp × Value)}, find f l = some v → (f, v) ∈ l
  | [], h => by cases h
  | p :: r, h => by
    unfold find at h
    cases he : eqF f p.1 with
    | true =>
      rw [he, cond_true, Option.some.injEq] at h
      have := eqF_sound he
      subst this; subst h
      exact List.mem_cons_self
    | false =>
      rw [he, cond_false] at h
      exact List.mem_cons_of_mem _ (find_mem h)

def factOf (P : Program) [Facts P] (ev : Operand → Value) (o : Oper) : Option Value :=
  match Facts.ops P with
  | [] => none
  | l => match fop ev o with
    | some f => find f l
    | none => none

def truthOf (P : Program) [Facts P] (v : Value) : Option Bool :=
  match Facts.ops P with
  | [] => none
  | l => match find (.tru v) l with
    | some (.bool b) => some b
    | _ => none

def isMark : FOp → Bool
  | .tru (.bool true) => true
  | _ => false
def noMk (P : Program) [Facts P] : Bool :=
  match Facts.ops P with
  | [] => false
  | p :: _ => isMark p.1
def pickOf (P : Program) [Facts P] (ev : Operand → Value) (o : Oper) : Option Value :=
  match Facts.ops P with
  | [] => none
  | _ => match o.op with
    | .pick c x y => match truthOf P (ev c) with
      | some t => some (bif t then ev x else ev y)
      | none => none
    | _ => none
def isAl (t : TypeId) : FOp → Bool
  | .tru (.int .i64 (.ofNat m)) => Nat.beq m t
  | _ => false
def noOp (P : Program) [Facts P] (o : Oper) : Bool := match Facts.ops P with
  | [] => false
  | l => match o.op with
    | .makeMap .. => noMk P
    | .alloc t => l.any fun p => isAl t p.1
    | .box t _ => l.any fun p => isAl t p.1
    | _ => false

def aopF (P : Program) [Lib P] [Facts P] (ev : Operand → Value) (A : AS) (o : Oper) : Option (ANext × AS) :=
  match factOf P ev o with
  | some v => some (.value v, A)
  | none => match pickOf P ev o with
    | some v => some (.value v, A)
    | none => bif noOp P o then none else aop P ev A o

section
variable {P : Program} {φ : Emb} {A A' : AS} {w : World}

theorem fop_interp {ρ ρ' : Operand → Value} {o : Oper} {f : FOp} (hρ : ∀ x, VRel φ (ρ x) (ρ' x)) (h : fop ρ o = some f) (hp : plainF f = true) : fop ρ' o = some (interpF f) := by
  have e : ∀ x, plainS (ρ x) = true → ρ' x = interp (ρ x) := fun x hx => VRel.eq_of_plainS _ hx (hρ x)
  have eo : ∀ x : Option Operand, plainO (x.map ρ) = true → x.map ρ' = (x.map ρ).map interp := fun x hx => by
    cases x with
    | none => rfl
    | some x => simp only [Option.map_some]; rw [e x hx]
  unfold fop at h ⊢
  split at h <;> try (cases h; done)
  all_goals try (simp only [Option.some.injEq] at h; subst h; simp only [plainF, Bool.and_eq_true] at hp)
  · rw [e _ hp.1, e _ hp.2]; rfl
  · rw [e _ hp]; rfl
  · rw [e _ hp]; rfl
  · rw [e _ hp.1, eo _ hp.2.1, eo _ hp.2.2.1, eo _ hp.2.2.2]; rfl
  · rw [e _ hp.1, e _ hp.2]; rfl
  · rw [e _ hp.1, e _ hp.2]; rfl
  · rw [e _ hp]; rfl
  · rw [e _ hp]; rfl
  · rw [e _ hp]; rfl
  · split at h <;> try (cases h; done)
    all_goals (split at h <;> try (cases h; done))
    all_goals (simp only [Option.some.injEq] at h; subst h; simp only [plainF, Bool.and_eq_true] at hp)
    · rw [e _ hp]; rfl
    · rw [e _ hp.1, e _ hp.2]; rfl
    · rw [e _ hp.1, e _ hp.2]; rfl
  · rw [e _ hp.1, e _ hp.2]; rfl

omit [Sig] in
theorem exec_fop {ρ : Operand → Value} {o : Oper} {f : FOp} (h : fop ρ o = some f) : ∃ xo yo, (∀ P w, (execOp ρ o).run P w = (semF xo yo f).run P w) ∧ (pureF f = true → execOp ρ o = semF xo yo f) := by
  obtain ⟨dst, op, type, pos, after, guard⟩ := o
  unfold fop at h
  simp only at h
  split at h <;> try (cases h; done)
  case h_1 op t x y yt => cases h; exact ⟨x, y, fun _ _ => rfl, fun _ => rfl⟩
  case h_10 c =>
    split at h <;> try (cases h; done)
    all_goals (split at h <;> try (cases h; done))
    all_goals (cases h; refine ⟨.const undef, .const undef, fun P w => ?_, fun h => by cases h⟩; unfold execOp resolve)
    · rename_i _ h1 _ _ h2; simp only [h1, h2, List.map_toArray, List.map_cons, List.map_nil]; rfl
    · rename_i _ h1 _ _ _ h2; simp only [h1, h2, List.map_toArray, List.map_cons, List.map_nil]; rfl
    · rename_i _ h1 _ _ _ h2; simp only [h1, h2, List.map_toArray, List.map_cons, List.map_nil]; rfl
  all_goals (cases h; exact ⟨.const undef, .const undef, fun _ _ => rfl, fun _ => rfl⟩)

theorem snd_fact [Facts P] (hF : FactsOk P) (hr : Rel φ A w) {ρ ρ' : Operand → Value} {o : Oper} {v : Value} (hρ : ∀ x, VRel φ (ρ x) (ρ' x)) (h : factOf P ρ o = some v) : Snd (NR (.value v)) P φ A w (execOp ρ' o) A := by
  unfold factOf at h
  split at h
  · cases h
  split at h
  · rename_i f hf
    have hok := hF _ (find_mem h)
    obtain ⟨h1, h2, h3⟩ := hok
    simp only at h1 h2 h3
    obtain ⟨xo, yo, he, _⟩ := exec_fop (fop_interp hρ hf h1)
    have hrun : (semF xo yo (interpF f)).run P w = .ok (.value (interp v)) w := by
      split at h3
      · exact h3 xo yo w
      · exact h3 xo yo w fun i o hi => (hr.imm i o hi).1
    exact ⟨φ, w, _, (he P w).trans hrun, ⟨_, rfl, VRel.of_plainS φ v h2⟩, Step.refl hr⟩
  · cases h

theorem truth_ok [Facts P] (hF : FactsOk P) (w : World) {v v' : Value} {b : Bool} (h : truthOf P v = some b) (hv : VRel φ v v') : v' = .bool b := by
  unfold truthOf at h
  split at h
  · cases h
  split at h
  · rename_i b' hb
    cases h
    obtain ⟨h1, h2, h3⟩ := hF _ (find_mem hb)
    have hp : plainS v = true := h1
    have h4 := h3 (.const undef) (.const undef) w
    rw [VRel.eq_of_plainS v hp hv]
    have h5 : (Result.ok (Next.value (interp v)) w : Result Next) = .ok (.value (interp (.bool b))) w := h4
    simp only [Result.ok.injEq, Next.value.injEq, and_true] at h5
    exact h5
  · cases h

theorem snd_pick [Facts P] (hF : FactsOk P) (hr : Rel φ A w) {ρ ρ' : Operand → Value} {o : Oper} {v : Value} (hρ : ∀ x, VRel φ (ρ x) (ρ' x)) (h : pickOf P ρ o = some v) : Snd (NR (.value v)) P φ A w (execOp ρ' o) A := by
  unfold pickOf at h
  split at h
  · cases h
  split at h
  · rename_i c x y hop
    split at h
    · rename_i t ht
      cases h
      have hc := truth_ok hF w ht (hρ c)
      refine ⟨φ, w, .value (bif t then ρ' x else ρ' y), ?_, ?_, Step.refl hr⟩
      · unfold execOp
        rw [hop]
        simp only [hc]
        cases t <;> rfl
      · cases t
        · exact ⟨_, rfl, hρ y⟩
        · exact ⟨_, rfl, hρ x⟩
    · cases h
  · cases h

theorem snd_aopF [Lib P] [Facts P] (hF : FactsOk P) (hr : Rel φ A w) {ρ ρ' : Operand → Value} {o : Oper} {n : ANext} (hρ : ∀ x, VRel φ (ρ x) (ρ' x)) (h : aopF P ρ A o = some (n, A')) : Snd (NR n) P φ A w (execOp ρ' o) A' := by
  unfold aopF at h
  split at h
  · rename_i v hv
    cases h
    exact snd_fact hF hr hρ hv
  split at h
  · rename_i v hv
    cases h
    exact snd_pick hF hr hρ hv
  · cases hb : noOp P o with
    | true => rw [hb] at h; cases h
    | false => rw [hb, cond_false] at h; exact snd_aop hr hρ h

theorem fact_pure [Facts P] (hF : FactsOk P) {ρ ρ' : Operand → Value} {o : Oper} {v : Value} (hρ : ∀ x, VRel φ (ρ x) (ρ' x)) (h : factOf P ρ o = some v) (hk : ∀ f, fop ρ o = some f → pureF f = true) : ∃ v', (∀ w, (execOp ρ' o).run P w = .ok (.value v') w) ∧ VRel φ v v' := by
  unfold factOf at h
  split at h
  · cases h
  split at h
  · rename_i f hf
    obtain ⟨h1, h2, h3⟩ := hF _ (find_mem h)
    simp only at h1 h2 h3
    obtain ⟨xo, yo, _, he⟩ := exec_fop (fop_interp hρ hf h1)
    rw [if_pos (hk f hf)] at h3
    have hk' : pureF (interpF f) = true := by
      have := hk f hf
      cases f <;> first | rfl | cases this
    exact ⟨_, fun w => by rw [he hk']; exact h3 xo yo w, VRel.of_plainS φ v h2⟩
  · cases h

end
end AE
end Go.Proofs.YtblhndlmgibljaaDoor

/- AE, part 15: slots, and an operation of a region with its call. -/
namespace Go.Proofs.YtblhndlmgibljaaDoor
open Go
namespace AE
variable [Sig]

abbrev Sl := Tr Value
abbrev ACall := FuncId → List Value → AS → Option (Value × AS)

def slot (sl : Sl) (t : Nat) : Value :=
  match sl.get t with
  | some v => v
  | none => poison

def evs (gl : Tr Nat) (sl : Sl) : Operand → Value
  | .tmp t => slot sl t
  | .const v => bif plain v then v else poison
  | .global g => match gl.get g with
    | some b => .pointer (some ⟨b, 0, none⟩)
    | none => symv (gbase + g)
  | .func f => .func (.func f) ⟨[]⟩ ⟨[]⟩

def GRel (gl : Tr Nat) (φ : Emb) : Prop := ∀ g b, gl.get g = some b → ∃ e, φ b = some e ∧ e.blk = g ∧ e.sh = 0

structure SR (N : Nat) (ds : List Deferred) (φ : Emb) (sl : Sl) (a : Act) : Prop where
  size : a.tmps.size = N
  defers : a.defers = ds
  get : ∀ t v, sl.get t = some v → VRel φ v (a.tmps.getD t undef)

theorem SR.mono {N : Nat} {ds : List Deferred} {φ φ' : Emb} {sl : Sl} {a : Act} (h : SR N ds φ sl a) (he : ∀ b e, φ b = some e → φ' b = some e) : SR N ds φ' sl a :=
  ⟨h.size, h.defers, fun t v hv => (h.get t v hv).mono he⟩

omit [Sig] in
theorem GRel.mono {gl : Tr Nat} {φ φ' : Emb} (h : GRel gl φ) (he : ∀ b e, φ b = some e → φ' b = some e) : GRel gl φ' := fun g b hg => by
  obtain ⟨e, h1, h2⟩ := h g b hg
  exact ⟨e, he _ _ h1, h2⟩

theorem slot_rel {φ : Emb} {sl : Sl} {v' : Value} {t : Nat} (h : ∀ v, sl.get t = some v → VRel φ v v') : VRel φ (slot sl t) v' := by
  unfold slot
  cases hg : sl.get t with
  | none => exact .poison _
  | some v => exact h v hg

theorem evs_rel {gl : Tr Nat} {φ : Emb} {sl : Sl} {a : Act} (hg : GRel gl φ) (hs : ∀ t v, sl.get t = some v → VRel φ v (a.tmps.getD t undef)) (x : Operand) : VRel φ (evs gl sl x) (a.eval x) := by
  cases x with
  | tmp t => exact slot_rel (hs t)
  | const v =>
    simp only [evs]
    cases hp : plain v with
    | true => exact VRel.of_plain φ v hp
    | false => exact .poison _
  | global g =>
    simp only [evs]
    cases hb : gl.get g with
    | none =>
      have h := VRel.sym (φ := φ) (gbase + g)
      rw [Sig.glob g] at h
      exact h
    | some b =>
      obtain ⟨e, h1, h2, h3⟩ := hg g b hb
      have := VRel.ptr (o := 0) h1
      rw [h2, h3] at this
      exact this
  | func f => exact .func _ _ _ _ (fun l h => by cases h) rfl rfl (fun i h => absurd h (by simp)) (fun i h => absurd h (by simp))

def aput (N : Nat) (sl : Sl) (dst : Option Tmp) (v : Value) : Option Sl :=
  match dst with
  | none => some sl
  | some d => bif Nat.blt d N then Tr.set v depth sl d else none

theorem SR.put {N : Nat} {ds : List Deferred} {φ : Emb} {sl sl' : Sl} {a : Act} {dst : Option Tmp} {v v' : Value} (h : SR N ds φ sl a) (hv : VRel φ v v') (hp : aput N sl dst v = some sl') : SR N ds φ sl' (a.put dst v') := by
  unfold aput at hp
  cases dst with
  | none => cases hp; exact h
  | some d =>
    simp only at hp
    cases hb : Nat.blt d N with
    | false => rw [hb] at hp; cases hp
    | true =>
      rw [hb, cond_true] at hp
      have hlt : d < N := Nat.blt_eq.mp hb
      refine ⟨by simp [Act.put, h.size], h.defers, fun t u hu => ?_⟩
      rw [Tr.get_set _ _ _ _ _ t hp] at hu
      have hsz := h.size
      by_cases ht : t = d
      · subst ht
        rw [if_pos rfl] at hu
        cases hu
        simp only [Act.put, Array.getD_eq_getD_getElem?]
        rw [Array.getElem?_setIfInBounds_self_of_lt (Nat.lt_of_lt_of_eq hlt hsz.symm)]
        exact hv
      · rw [if_neg ht] at hu
        have := h.get t u hu
        simp only [Act.put, Array.getD_eq_getD_getElem?] at this ⊢
        rw [Array.getElem?_setIfInBounds_ne (Ne.symm ht)]
        exact this

def aWanted (ops : Array Oper) (o : Oper) (sl : Sl) : Option Bool :=
  match o.guard with
  | none => some true
  | some (j, want) => match (ops[j]?).bind (·.dst) with
    | none => some false
    | some t => match sl.get t with
      | some (.bool b) => some (b == want)
      | some (.tuple ⟨[]⟩) => some false
      | _ => none

theorem wanted_spec {φ : Emb} {ops : Array Oper} {o : Oper} {sl : Sl} {a : Act} {r : Bool} (hs : ∀ t v, sl.get t = some v → VRel φ v (a.tmps.getD t undef)) (h : aWanted ops o sl = some r) : Region.wanted o (yielded ops a.tmps) = r := by
  unfold aWanted at h
  unfold Region.wanted
  split at h
  · rename_i hg
    cases h
    rw [hg]
  · rename_i j want hg
    rw [hg]
    simp only
    unfold yielded
    split at h
    · rename_i hd
      cases h
      rw [hd]
      simp
    · rename_i t hd
      rw [hd]
      simp only [Option.bind_some]
      split at h
      · rename_i b hb
        have hv := hs t _ hb
        cases h
        rw [Array.getD_eq_getD_getElem?] at hv
        cases ht : a.tmps[t]? with
        | none => rw [ht] at hv; simp [undef] at hv; cases hv
        | some u =>
          rw [ht] at hv
          simp only [Option.getD_some] at hv
          cases hv
          cases b <;> cases want <;> rfl
      · rename_i hb
        have hv := hs t _ hb
        cases h
        rw [Array.getD_eq_getD_getElem?] at hv
        cases ht : a.tmps[t]? with
        | none => simp
        | some u =>
          rw [ht] at hv
          simp only [Option.getD_some] at hv
          cases hv
          simp
      · cases h

def aWantedF (P : Program) [Facts P] (ops : Array Oper) (o : Oper) (sl : Sl) : Option Bool :=
  match aWanted ops o sl with
  | some b => some b
  | none => match o.guard with
    | none => none
    | some (j, want) => match (ops[j]?).bind (·.dst) with
      | none => none
      | some t => match sl.get t with
        | some v => (truthOf P v).map (· == want)
        | none => none

theorem wantedF_spec {P : Program} [Facts P] (hF : FactsOk P) (w : World) {φ : Emb} {ops : Array Oper} {o : Oper} {sl : Sl} {a : Act} {r : Bool} (hs : ∀ t v, sl.get t = some v → VRel φ v (a.tmps.getD t undef)) (h : aWantedF P ops o sl = some r) : Region.wanted o (yielded ops a.tmps) = r := by
  unfold aWantedF at h
  split at h
  · rename_i b hb
    cases h
    exact wanted_spec hs hb
  · split at h
    · cases h
    · rename_i j want hg
      split at h
      · cases h
      · rename_i t hd
        split at h
        · rename_i v hv
          rw [Option.map_eq_some_iff] at h
          obtain ⟨b, hb, rfl⟩ := h
          have hb' := truth_ok hF w hb (hs t v hv)
          unfold Region.wanted
          rw [hg]
          simp only
          unfold yielded
          rw [hd]
          simp only [Option.bind_some]
          rw [Array.getD_eq_getD_getElem?] at hb'
          cases ht : a.tmps[t]? with
          | none => rw [ht] at hb'; simp [undef] at hb'
          | some u =>
            rw [ht] at hb'
            simp only [Option.getD_some] at hb'
            subst hb'
            cases b <;> cases want <;> rfl
        · cases h

structure ACalls where
  call : ACall
  round : Nat → List Value → AS → Option (Value × AS)

def CPost (φ : Emb) (A : AS) (w : World) (v : Value) (A' : AS) : Ending → World → Prop
  | .returned v', w' => ∃ φ', VRel φ' v v' ∧ Step φ A w φ' A' w'
  | _, _ => False

def Fr (r : Option Nat) : Fence := { Fence.wide with round := r }

omit [Sig] in
theorem callsIn_fr {r : Option Nat} {n : Nat} {P : Program} {f : FuncId} {args : Array Value} {w : World} {R : Ending → World → Prop} (h : Calls P f args w R) : CallsIn (Fr r) n P f args w R := by
  have h' : CallsIn Fence.wide n P f args w R := callsIn_wide.2 h
  exact h'

structure CallOk (P : Program) [Facts P] (gl : Tr Nat) (C : ACalls) : Prop where
  facts : FactsOk P
  call : ∀ (f : FuncId) (args : List Value) (A : AS) (v : Value) (A' : AS) (φ : Emb) (w : World) (args' : Array Value), C.call f args A = some (v, A') → Rel φ A w → GRel gl φ → RL args φ args' →
    Calls P f args' w (CPost φ A w v A')
  round : ∀ (b : Nat) (args : List Value) (A : AS) (v : Value) (A' : AS) (φ : Emb) (w : World) (args' : Array Value) (e : Em) (k : ABlk) (lp : ALoop) (r : Loop), C.round b args A = some (v, A') → Rel φ A w → GRel gl φ → RL args φ args' →
    φ b = some e → A.bl.get b = some k → k.obj = .oth (.loop lp) → w.heap[e.blk]? = some (.loop r) → OthRel φ (.loop lp) (.loop r) → args'.size = r.params.size ∧
    RoundIn Fence.wide 0 P e.blk r.fn ((r.params.zip args').foldl (fun tmps (t, a) => tmps.setIfInBounds t a) r.tmps) r.assign r.body w (CPost φ A w v A')

def yieldOf (ev : Operand → Value) (o : Oper) : Option (Nat × List Value) :=
  match o.op with
  | .call c => match c.callee with
    | .value f => match ev f with
      | .func (.yield b) ⟨[]⟩ ⟨[]⟩ => some (b, c.args.toList.map ev)
      | _ => none
    | _ => none
  | _ => none

def isLoop (A : AS) (b : Nat) : Bool :=
  match A.bl.get b with
  | some k => match k.obj with
    | .oth (.loop _) => true
    | _ => false
  | none => false

def aval (P : Program) [Lib P] [Facts P] (C : ACalls) (gl : Tr Nat) (ops : Array Oper) (o : Oper) (sl : Sl) (A : AS) : Option (Value × AS) :=
  match aWantedF P ops o sl with
  | none => none
  | some false => some (undef, A)
  | some true => match yieldOf (evs gl sl) o with
    | some (b, args) => bif isLoop A b then C.round b args A else none
    | none => match aopF P (evs gl sl) A o with
      | some (.value v, A1) => some (v, A1)
      | some (.skip, A1) => some (undef, A1)
      | some (.enter f args, A1) => C.call f args A1
      | none => none

def astep (P : Program) [Lib P] [Facts P] (C : ACalls) (gl : Tr Nat) (N : Nat) (ops : Array Oper) (o : Oper) (sl : Sl) (A : AS) : Option (Sl × AS) :=
  match aval P C gl ops o sl A with
  | some (v, A1) => match aput N sl o.dst v with
    | some sl1 => some (sl1, A1)
    | none => none
  | none => none

omit [Sig] in
theorem astep_aval {P : Program} [Lib P] [Facts P] {C : ACalls} {gl : Tr Nat} {N : Nat} {ops : Array Oper} {o : Oper} {sl sl' : Sl} {A A' : AS} (h : astep P C gl N ops o sl A = some (sl', A')) :
    ∃ v, aval P C gl ops o sl A = some (v, A') ∧ aput N sl o.dst v = some sl' := by
  unfold astep at h
  split at h
  · rename_i v A1 hv
    split at h
    · rename_i sl1 hp
      cases h
      exact ⟨v, hv, hp⟩
    · cases h
  · cases h

section
variable {P : Program} [Lib P] [Facts P] {C : ACalls} {gl : Tr Nat} {φ : Emb} {A A' : AS} {w : World} {a : Act}

omit [Sig] in
theorem aop_no_defer {ρ : Operand → Value} {o : Oper} {r : ANext × AS} (h : aopF P ρ A o = some r) (c : Call) : o.op ≠ .defer c := by
  intro hc
  unfold aopF at h
  split at h
  · rename_i v hv
    unfold factOf at hv
    split at hv
    · cases hv
    · unfold fop at hv
      rw [hc] at hv
      cases hv
  split at h
  · rename_i v hv
    unfold pickOf at hv
    split at hv
    · cases hv
    · rw [hc] at hv
      cases hv
  · cases hb : noOp P o with
    | true => rw [hb] at h; cases h
    | false =>
      rw [hb, cond_false] at h
      unfold aop at h
      rw [hc] at h
      cases h

omit [Sig] in
omit [Lib P] [Facts P] in
theorem yield_no_defer {ρ : Operand → Value} {o : Oper} {r : Nat × List Value} (h : yieldOf ρ o = some r) (c : Call) : o.op ≠ .defer c := by
  intro hc
  unfold yieldOf at h
  rw [hc] at h
  cases h

omit [Lib P] [Facts P] in
theorem run_yield (hr : Rel φ A w) {ρ ρ' : Operand → Value} {o : Oper} {b : Nat} {args : List Value} (hρ : ∀ x, VRel φ (ρ x) (ρ' x)) (h : yieldOf ρ o = some (b, args)) (hl : isLoop A b = true) :
    ∃ e k lp r args', φ b = some e ∧ A.bl.get b = some k ∧ k.obj = .oth (.loop lp) ∧ w.heap[e.blk]? = some (.loop r) ∧ OthRel φ (.loop lp) (.loop r) ∧ RL args φ args' ∧
      (args'.size = r.params.size → (execOp ρ' o).run P w = .ok (.round e.blk r.fn ((r.params.zip args').foldl (fun tmps (t, a) => tmps.setIfInBounds t a) r.tmps) r.assign r.body) w) := by
  unfold yieldOf at h
  split at h
  · rename_i c hop
    split at h
    · rename_i f hcal
      split at h
      · rename_i b' hf
        simp only [Option.some.injEq, Prod.mk.injEq] at h
        obtain ⟨rfl, rfl⟩ := h
        have hv := hρ f
        rw [hf] at hv
        have hmain : ∃ e, φ b' = some e ∧ ρ' f = .func (.yield e.blk) #[] #[] := by
          generalize ρ' f = u at hv
          cases hv with
          | yld h => exact ⟨_, h, rfl⟩
          | func _ _ _ _ hn => exact absurd rfl (hn _)
        obtain ⟨e, he, hf'⟩ := hmain
        unfold isLoop at hl
        split at hl
        · rename_i k hk
          split at hl
          · rename_i lp hobj
            obtain ⟨k', hk', _, ho⟩ := hr.dom b' e he
            rw [hk] at hk'
            cases hk'
            unfold ORel at ho
            simp only [hobj] at ho
            obtain ⟨_, o', h1, h2⟩ := ho
            obtain ⟨r, rfl, hrest⟩ := id h2
            refine ⟨e, k, lp, r, c.args.map ρ', he, hk, hobj, h1, h2, RL.map fun x _ => hρ x, fun hsz => ?_⟩
            unfold execOp
            rw [hop]
            simp only
            refine run_pre (a := { target := .fn (.yield e.blk) #[], args := #[] ++ c.args.map ρ' }) (by unfold resolve; rw [hcal]; simp only [hf']; rfl) ?_
            simp only [Array.empty_append]
            show (Instr.yield e.blk (c.args.map ρ')).run P w = _
            unfold Instr.yield Instr.getLoop
            refine run_then (a := r) (w1 := w) (by
              refine run_then (a := .loop r) (w1 := w) (run_getObj h1 (fun _ _ _ h => by cases h)) rfl) ?_
            rw [if_neg (fun hne => hne hsz)]
            rfl
          · cases hl
        · cases hl
      · cases h
    · cases h
  · cases h

theorem wp_aval (hcall : CallOk P gl C) (hr : Rel φ A w) (hg : GRel gl φ) {ro : Option Nat} {ops : Array Oper} {o : Oper} {sl : Sl} {v : Value} (hs : ∀ t v, sl.get t = some v → VRel φ v (a.tmps.getD t undef)) (h : aval P C gl ops o sl A = some (v, A'))
    {K : Act → World → Prop} {Q : Exit → Act → World → Prop} (hK : ∀ φ' v' w', VRel φ' v v' → Step φ A w φ' A' w' → K (a.put o.dst v') w') :
    if Region.wanted o (yielded ops a.tmps) then o.wpIn (Fr ro) 0 P a w K Q else (∀ f, o.about P w a.eval = some f → (Fr ro).fn f) ∧ K (a.put o.dst undef) w := by
  unfold aval at h
  split at h
  · cases h
  · rename_i hw
    rw [wantedF_spec hcall.facts w hs hw]
    cases h
    exact ⟨fun _ _ => trivial, hK φ undef w (VRel.undef_refl φ) (Step.refl hr)⟩
  · rename_i hw
    rw [wantedF_spec hcall.facts w hs hw, if_pos rfl]
    refine ⟨fun _ _ => trivial, ?_⟩
    split at h
    · rename_i b args hy
      cases hl : isLoop A b with
      | false => rw [hl] at h; cases h
      | true =>
        rw [hl, cond_true] at h
        obtain ⟨e, k, lp, r, args', he, hk, hobj, hheap, hoth, hargs, hrun⟩ := run_yield (P := P) hr (evs_rel hg hs) hy hl
        obtain ⟨hsz, hround⟩ := hcall.round b args A v A' φ w args' e k lp r h hr hg hargs he hk hobj hheap hoth
        rw [Oper.semAt_eq _ _ _ (yield_no_defer hy), hrun hsz, Oper.uponIn_round]
        refine ⟨fun h => absurd h (by simp [Fr, Fence.wide]), ?_⟩
        have hround' : RoundIn (Fr ro) (0 - 1) P e.blk r.fn ((r.params.zip args').foldl (fun tmps (t, a) => tmps.setIfInBounds t a) r.tmps) r.assign r.body w (CPost φ A w v A') := hround
        refine RoundIn.mono hround' fun en w2 hen => ?_
        cases en with
        | returned v' =>
          obtain ⟨φ2, h1, h2⟩ := hen
          exact hK φ2 v' w2 h1 h2
        | panicked ch => exact hen.elim
        | outgrown => exact hen.elim
    · split at h
      · rename_i v1 A1 ha
        cases h
        obtain ⟨φ1, w1, n, g1, g2, g3⟩ := snd_aopF hcall.facts hr (evs_rel hg hs) ha
        rw [Oper.semAt_eq _ _ _ (aop_no_defer ha), g1]
        obtain ⟨v', rfl, hv⟩ := g2
        exact hK φ1 v' w1 hv g3
      · rename_i A1 ha
        cases h
        obtain ⟨φ1, w1, n, g1, g2, g3⟩ := snd_aopF hcall.facts hr (evs_rel hg hs) ha
        rw [Oper.semAt_eq _ _ _ (aop_no_defer ha), g1]
        cases g2
        exact hK φ1 undef w1 (VRel.undef_refl φ1) g3
      · rename_i f args A1 ha
        obtain ⟨φ1, w1, n, g1, g2, g3⟩ := snd_aopF hcall.facts hr (evs_rel hg hs) ha
        rw [Oper.semAt_eq _ _ _ (aop_no_defer ha), g1]
        obtain ⟨args', rfl, hargs⟩ := g2
        rw [Oper.uponIn_enter]
        refine ⟨fun h => absurd h (by simp [Fr, Fence.wide]), ?_⟩
        refine CallsIn.mono (callsIn_fr (hcall.call f args A1 v A' φ1 w1 args' h g3.rel (hg.mono (g3.ext hr)) hargs)) fun e w2 he => ?_
        cases e with
        | returned v' =>
          obtain ⟨φ2, h1, h2⟩ := he
          exact hK φ2 v' w2 h1 (Step.trans hr g3 h2)
        | panicked ch => exact he.elim
        | outgrown => exact he.elim
      · cases h

/- A REGION IN ITS ORDER -/

def aregion (P : Program) [Lib P] [Facts P] (C : ACalls) (gl : Tr Nat) (N : Nat) (ops : Array Oper) : List Oper → Sl → AS → Option (Sl × AS)
  | [], sl, A => some (sl, A)
  | o :: r, sl, A => match astep P C gl N ops o sl A with
    | some (sl1, A1) => aregion P C gl N ops r sl1 A1
    | none => none

theorem wpList_aregion (hcall : CallOk P gl C) {ro : Option Nat} {N : Nat} {ds : List Deferred} {ops : Array Oper} {Q : Exit → Act → World → Prop} : ∀ (l : List Oper) (sl sl' : Sl) (A A' : AS) (φ : Emb) (w : World) (a : Act), Rel φ A w → GRel gl φ → SR N ds φ sl a → aregion P C gl N ops l sl A = some (sl', A') →
    (∀ φ' a' w', SR N ds φ' sl' a' → Step φ A w φ' A' w' → Q .normal a' w') → wpListIn (Fr ro) 0 P ops Q l a w
  | [], sl, sl', A, A', φ, w, a, hr, hg, hs, h, hQ => by
    cases h
    exact hQ φ a w hs (Step.refl hr)
  | o :: r, sl, sl', A, A', φ, w, a, hr, hg, hs, h, hQ => by
    unfold aregion at h
    split at h
    · rename_i sl1 A1 hst
      obtain ⟨v, hv, hp⟩ := astep_aval hst
      unfold wpListIn
      refine wp_aval hcall hr hg hs.get hv fun φ' v' w' hvv hstep => ?_
      exact wpList_aregion hcall r sl1 sl' A1 A' φ' w' (a.put o.dst v') hstep.rel (hg.mono (hstep.ext hr)) ((hs.mono (hstep.ext hr)).put hvv hp) h fun φ2 a2 w2 h1 h2 => hQ φ2 a2 w2 h1 (Step.trans hr hstep h2)
    · cases h

end
end AE
end Go.Proofs.YtblhndlmgibljaaDoor

/- A law for a region that draws its order of evaluation: each of its operations is shown once, from what the operations that it needs have left; what they leave is stable under a preorder G on worlds. -/
namespace Go.Proofs.YtblhndlmgibljaaDoor
open Go

section
variable {P : Program} {ops : Array Oper}

def dstOf (ops : Array Oper) (j : Nat) : Option Tmp := (ops[j]?).bind (·.dst)

def needs (ops : Array Oper) (m : Nat) (o : Oper) : List Nat := (List.range m).filter fun j => match dstOf ops j with
  | some d => (o.looksAt ops).contains d
  | none => false

def direct (ops : Array Oper) (i j : Nat) : Bool := match ops[i]? with
  | some o => o.after.any fun e => Region.binds .any e && e.on == j
  | none => false

theorem Act.size_put (a : Act) (d : Option Tmp) (v : Value) : (a.put d v).tmps.size = a.tmps.size := by cases d <;> simp [Act.put]
theorem Act.defers_put (a : Act) (d : Option Tmp) (v : Value) : (a.put d v).defers = a.defers := by cases d <;> rfl
theorem Act.get_put (a : Act) (d : Option Tmp) (v : Value) (t : Nat) (ht : t < a.tmps.size) : (a.put d v).tmps.getD t undef = if d = some t then v else a.tmps.getD t undef := by
  cases d with
  | none => simp [Act.put]
  | some d =>
    simp only [Act.put, Option.some.injEq, Array.getD_eq_getD_getElem?, Array.getElem?_setIfInBounds]
    by_cases h : d = t
    · subst h; simp [ht]
    · simp [h]

structure Inv (ops : Array Oper) (m : Nat) (G : World → World → Prop) (Post : Nat → Value → World → Prop) (sepF : Nat → Bool) (a0 : Act) (w0 : World) (listed : Array Bool) (a : Act) (w : World) : Prop where
  size : listed.size = ops.size
  down : ∀ i j, listed.getD i false = true → direct ops i j = true → listed.getD j false = true
  tailoff : ∀ i, m ≤ i → listed.getD i false = false
  defers : a.defers = a0.defers
  tsize : a.tmps.size = a0.tmps.size
  g : G w0 w
  other : ∀ t, (∀ i, i < m → listed.getD i false = true → dstOf ops i ≠ some t) → a.tmps.getD t undef = a0.tmps.getD t undef
  post : ∀ i t, i < m → listed.getD i false = true → dstOf ops i = some t → Post i (a.tmps.getD t undef) w
  sep : ∀ i j t u b o s b' o' s', i < m → j < m → i ≠ j → listed.getD i false = true → listed.getD j false = true → sepF i = true → sepF j = true → dstOf ops i = some t → dstOf ops j = some u →
    a.tmps.getD t undef = .pointer (some ⟨b, o, s⟩) → a.tmps.getD u undef = .pointer (some ⟨b', o', s'⟩) → b ≠ b'

theorem ready_direct {listed : Array Bool} {i : Nat} (h : i ∈ Region.ready .any ops listed) : ∀ k, direct ops i k = true → listed.getD k false = true := by
  intro k hk
  obtain ⟨_, o, ho, hall⟩ := mem_ready.1 h
  simp only [direct, ho] at hk
  obtain ⟨e, he, hb⟩ := Array.any_eq_true'.1 hk
  simp only [Bool.and_eq_true, beq_iff_eq] at hb
  exact hb.2 ▸ hall e he hb.1

def unl (listed : Array Bool) : Nat := listed.toList.count false

theorem count_set_false : ∀ (l : List Bool) (i : Nat), l[i]? = some false → (l.set i true).count false + 1 = l.count false
  | [], i, h => by simp at h
  | b :: r, 0, h => by simp at h; subst h; simp
  | b :: r, i + 1, h => by
    have := count_set_false r i (by simpa using h)
    simp only [List.set_cons_succ, List.count_cons]
    omega

theorem unl_set {listed : Array Bool} {i : Nat} (hi : i < listed.size) (h : listed.getD i true = false) : unl (listed.setIfInBounds i true) + 1 = unl listed := by
  unfold unl
  rw [Array.toList_setIfInBounds]
  refine count_set_false _ _ ?_
  have : listed[i]? = some listed[i] := Array.getElem?_eq_getElem hi
  simp only [Array.getD_eq_getD_getElem?, this, Option.getD_some] at h
  rw [Array.getElem?_toList, this, h]

theorem getD_true_of_lt {listed : Array Bool} {i : Nat} (h : i < listed.size) : listed.getD i true = listed.getD i false := by
  simp [Array.getD_eq_getD_getElem?, h]

end
end Go.Proofs.YtblhndlmgibljaaDoor

/- AE, part 16: a region that draws its order: what the evaluator does with it, and what its chain of states keeps. -/
namespace Go.Proofs.YtblhndlmgibljaaDoor
open Go
namespace AE
variable [Sig]

def aputs (N : Nat) (ops : Array Oper) (V : Nat → Value) : List Nat → Sl → Option Sl
  | [], sl => some sl
  | j :: r, sl => match aput N sl (dstOf ops j) (V j) with
    | some s => aputs N ops V r s
    | none => none

omit [Sig] in
theorem aputs_spec {N : Nat} {ops : Array Oper} {V : Nat → Value} : ∀ (js : List Nat) (sl sl' : Sl), aputs N ops V js sl = some sl' → ∀ t v, sl'.get t = some v →
    (∃ j ∈ js, dstOf ops j = some t ∧ v = V j) ∨ ((∀ j ∈ js, dstOf ops j ≠ some t) ∧ sl.get t = some v)
  | [], sl, sl', h, t, v, hv => by
    cases h
    exact .inr ⟨fun j hj => absurd hj (by simp), hv⟩
  | j :: r, sl, sl', h, t, v, hv => by
    unfold aputs at h
    split at h
    · rename_i s hs
      rcases aputs_spec r s sl' h t v hv with ⟨k, hk, hd, hV⟩ | ⟨hn, hg⟩
      · exact .inl ⟨k, List.mem_cons_of_mem _ hk, hd, hV⟩
      · unfold aput at hs
        cases hd : dstOf ops j with
        | none =>
          rw [hd] at hs
          cases hs
          refine .inr ⟨fun k hk => ?_, hg⟩
          rcases List.mem_cons.1 hk with rfl | hk
          · rw [hd]; simp
          · exact hn k hk
        | some d =>
          rw [hd] at hs
          simp only at hs
          cases hb : Nat.blt d N with
          | false => rw [hb] at hs; cases hs
          | true =>
            rw [hb, cond_true] at hs
            rw [Tr.get_set _ _ _ _ _ t hs] at hg
            by_cases htd : t = d
            · subst htd
              rw [if_pos rfl] at hg
              cases hg
              exact .inl ⟨j, List.mem_cons_self, hd, rfl⟩
            · rw [if_neg htd] at hg
              refine .inr ⟨fun k hk => ?_, hg⟩
              rcases List.mem_cons.1 hk with rfl | hk
              · rw [hd]; simp; exact fun h => htd h.symm
              · exact hn k hk
    · cases h

/- OPERATIONS THAT TOUCH NO MEMORY are taken first -/

def pureKind (o : Oper) : Bool :=
  (match o.guard with | none => true | some _ => false) &&
  match o.op with
  | .move _ | .assign _ | .binOp .. | .unOp .. | .fieldAddr .. | .indexAddr .. => true
  | _ => false

def pureVal (P : Program) [Facts P] (ev : Operand → Value) (o : Oper) : Option Value :=
  match o.op with
  | .move x | .assign x => some (ev x)
  | .binOp op t x y _ => match factOf P ev o with
    | some v => some v
    | none => bif plain (ev x) && plain (ev y) then aPure P (do eqGuard op t x y (ev x) (ev y); binOp op t (ev x) (ev y)) else none
  | .unOp op _ x => match factOf P ev o with
    | some v => some v
    | none => bif plain (ev x) then aPure P (Op.unary op (ev x)) else none
  | .fieldAddr s x f => match factOf P ev o with
    | some v => some v
    | none => aField P s f (ev x)
  | .indexAddr t x i => match factOf P ev o with
    | some v => some v
    | none => bif plain (ev i) then aIndexAddr P t (ev x) (ev i) else none
  | _ => none

theorem pureVal_run {P : Program} [Facts P] (hF : FactsOk P) {φ : Emb} {ρ ρ' : Operand → Value} {o : Oper} {v : Value} (hρ : ∀ x, VRel φ (ρ x) (ρ' x)) (h : pureVal P ρ o = some v) : ∃ v', (∀ w, (execOp ρ' o).run P w = .ok (.value v') w) ∧ VRel φ v v' := by
  have fin : ∀ {s : Sem Value}, aPure P s = some v → ∃ v', (∀ w, (do pure (Next.value (← s)) : Sem Next).run P w = .ok (.value v') w) ∧ VRel φ v v' := by
    intro s hs
    unfold aPure at hs
    split at hs
    · rename_i u hu
      cases hp : plain u with
      | false => rw [hp] at hs; cases hs
      | true =>
        rw [hp, cond_true, Option.some.injEq] at hs
        subst hs
        exact ⟨u, fun w => pureRun_run (by rw [pureRun_bind, hu]; rfl) w, VRel.of_plain φ u hp⟩
    · cases hs
  unfold pureVal at h
  unfold execOp
  split at h
  · rename_i x hop
    cases h
    rw [hop]
    exact ⟨_, fun _ => rfl, hρ x⟩
  · rename_i x hop
    cases h
    rw [hop]
    exact ⟨_, fun _ => rfl, hρ x⟩
  · rename_i op t x y yt hop
    split at h
    · rename_i u hu
      cases h
      have := fact_pure hF hρ hu fun f hf => by
        unfold fop at hf
        rw [hop] at hf
        cases hf
        rfl
      unfold execOp at this
      exact this
    · cases hp : plain (ρ x) with
      | false => rw [hp] at h; cases h
      | true =>
        cases hq : plain (ρ y) with
        | false => rw [hp, hq] at h; cases h
        | true =>
          rw [hp, hq] at h
          rw [hop]
          simp only
          rw [VRel.eq_of_plain _ hp (hρ x), VRel.eq_of_plain _ hq (hρ y)]
          exact fin h
  · rename_i op t x hop
    split at h
    · rename_i u hu
      cases h
      have := fact_pure hF hρ hu fun f hf => by
        unfold fop at hf
        rw [hop] at hf
        cases hf
        rfl
      unfold execOp at this
      exact this
    · cases hp : plain (ρ x) with
      | false => rw [hp] at h; cases h
      | true =>
        rw [hp] at h
        rw [hop]
        simp only
        rw [VRel.eq_of_plain _ hp (hρ x)]
        exact fin h
  · rename_i s x f hop
    split at h
    · rename_i u hu
      cases h
      have := fact_pure hF hρ hu fun f hf => by
        unfold fop at hf
        rw [hop] at hf
        cases hf
        rfl
      unfold execOp at this
      exact this
    · obtain ⟨v', h1, h2⟩ := run_fieldAddr (hρ x) h
      rw [hop]
      exact ⟨v', fun w => by simp only [Sem.run_bind, h1 w, Result.andThen_ok]; rfl, h2⟩
  · rename_i t x i hop
    split at h
    · rename_i u hu
      cases h
      have := fact_pure hF hρ hu fun f hf => by
        unfold fop at hf
        rw [hop] at hf
        cases hf
        rfl
      unfold execOp at this
      exact this
    · cases hp : plain (ρ i) with
      | false => rw [hp] at h; cases h
      | true =>
        rw [hp] at h
        obtain ⟨v', h1, h2⟩ := run_indexAddr (hρ x) h
        rw [hop]
        simp only
        rw [VRel.eq_of_plain _ hp (hρ i)]
        exact ⟨v', fun w => by simp only [Sem.run_bind, h1 w, Result.andThen_ok]; rfl, h2⟩
  · cases h

def takeGo (ops : Array Oper) : List Oper → Nat → Array Bool → List Nat
  | [], _, _ => []
  | o :: r, i, listed => bif pureKind o && ((Region.ready .any ops listed).contains i && Region.free .any ops listed i) then i :: takeGo ops r (i + 1) (listed.setIfInBounds i true) else takeGo ops r (i + 1) listed
def takeL (ops : Array Oper) : List Nat := takeGo ops ops.toList 0 (Array.replicate ops.size false)

def takeOk (ops : Array Oper) : List Nat → Array Bool → Bool
  | [], _ => true
  | i :: r, listed => ((Region.ready .any ops listed).contains i && Region.free .any ops listed i) && ((match ops[i]? with | some o => pureKind o | none => false) && takeOk ops r (listed.setIfInBounds i true))

def preds (o : Oper) (masks : List Nat) (m0 : Nat) : Nat := o.after.toList.foldl (fun acc e => bif Region.binds .any e then Nat.lor acc (Nat.lor (Nat.shiftLeft 1 e.on) (masks.getD e.on 0)) else acc) m0

def masksGo : List Oper → List Nat → List Nat
  | [], ms => ms
  | o :: r, ms => masksGo r (ms ++ [preds o ms 0])
def masksOf (ops : Array Oper) : List Nat := masksGo ops.toList []
def ancB (ms : List Nat) (i j : Nat) : Bool := (ms.getD i 0).testBit j

def AncP (ops : Array Oper) (i j : Nat) : Prop := ∀ listed : Array Bool, (∀ i j, listed.getD i false = true → direct ops i j = true → listed.getD j false = true) → (∀ k, direct ops i k = true → listed.getD k false = true) → listed.getD j false = true

omit [Sig] in
theorem preds_bit {masks : List Nat} {j : Nat} : ∀ (l : List Edge) (m0 : Nat), (l.foldl (fun acc e => bif Region.binds .any e then Nat.lor acc (Nat.lor (Nat.shiftLeft 1 e.on) (masks.getD e.on 0)) else acc) m0).testBit j = true → m0.testBit j = true ∨ ∃ e ∈ l, Region.binds .any e = true ∧ (e.on = j ∨ (masks.getD e.on 0).testBit j = true)
  | [], m0, h => .inl h
  | e :: r, m0, h => by
    simp only [List.foldl_cons] at h
    rcases preds_bit r _ h with h | ⟨e', he', h'⟩
    · cases hb : Region.binds .any e with
      | false => rw [hb] at h; exact .inl h
      | true =>
        rw [hb, cond_true] at h
        have h2 : (m0 ||| ((1 <<< e.on) ||| masks.getD e.on 0)).testBit j = true := h
        rw [Nat.testBit_or, Nat.testBit_or, Nat.one_shiftLeft, Nat.testBit_two_pow] at h2
        simp only [Bool.or_eq_true, decide_eq_true_eq] at h2
        rcases h2 with h2 | h2
        · exact .inl h2
        · exact .inr ⟨e, List.mem_cons_self, hb, h2⟩
    · exact .inr ⟨e', List.mem_cons_of_mem _ he', h'⟩

omit [Sig] in
theorem masksGo_spec : ∀ (l : List Oper) (ms : List Nat), (masksGo l ms).take ms.length = ms ∧ ∀ i o, l[i]? = some o → (masksGo l ms).getD (ms.length + i) 0 = preds o ((masksGo l ms).take (ms.length + i)) 0
  | [], ms => ⟨by simp [masksGo], fun i o h => by simp at h⟩
  | o :: r, ms => by
    obtain ⟨h1, h2⟩ := masksGo_spec r (ms ++ [preds o ms 0])
    have hm : masksGo (o :: r) ms = masksGo r (ms ++ [preds o ms 0]) := rfl
    rw [hm]
    have h3 : (masksGo r (ms ++ [preds o ms 0])).take ms.length = ms := by
      have := congrArg (List.take ms.length) h1
      rw [List.take_take] at this
      simpa using this
    refine ⟨h3, fun i o' hi => ?_⟩
    cases i with
    | zero =>
      simp only [List.getElem?_cons_zero, Option.some.injEq] at hi
      subst hi
      rw [Nat.add_zero, h3]
      have := congrArg (fun l => l[ms.length]?) h1
      simp only [List.getElem?_take, List.length_append, List.length_cons, List.length_nil] at this
      rw [if_pos (by omega)] at this
      rw [List.getD_eq_getElem?_getD, this]
      simp
    | succ i =>
      simp only [List.getElem?_cons_succ] at hi
      have := h2 i o' hi
      simp only [List.length_append, List.length_cons, List.length_nil] at this
      rw [show ms.length + (i + 1) = ms.length + (0 + 1) + i by omega]
      exact this

omit [Sig] in
theorem ancB_sound {ops : Array Oper} : ∀ (i : Nat), i < ops.size → ∀ j, ancB (masksOf ops) i j = true → AncP ops i j := by
  intro i
  induction i using Nat.strongRecOn with
  | _ i ih =>
    intro hi j h listed down hdir
    have ho : ops.toList[i]? = some ops[i] := by rw [Array.getElem?_toList]; exact Array.getElem?_eq_getElem hi
    have hs := (masksGo_spec ops.toList []).2 i _ ho
    simp only [List.length_nil, Nat.zero_add] at hs
    unfold ancB masksOf at h
    rw [hs] at h
    unfold preds at h
    rcases preds_bit _ _ h with h | ⟨e, he, hb, h⟩
    · simp at h
    · have hd : direct ops i e.on = true := by
        unfold direct
        rw [Array.getElem?_eq_getElem hi]
        simp only
        exact Array.any_eq_true'.2 ⟨e, by simpa using he, by simp [hb]⟩
      rcases h with rfl | h
      · exact hdir _ hd
      · rcases Nat.lt_or_ge e.on i with hlt | hge
        · have hg : ((masksGo ops.toList []).take i).getD e.on 0 = (masksOf ops).getD e.on 0 := by
            unfold masksOf
            rw [List.getD_eq_getElem?_getD, List.getElem?_take, if_pos hlt, List.getD_eq_getElem?_getD]
          rw [hg] at h
          exact ih e.on hlt (by omega) j h listed down fun k hk => down e.on k (hdir _ hd) hk
        · rw [List.getD_eq_getElem?_getD, List.getElem?_take, if_neg (by omega)] at h
          simp at h

def freeOkL (ops : Array Oper) (L : List Nat) (m N : Nat) : Bool :=
  decide (m ≤ ops.size) && Region.noSelect ops &&
  ((List.range m).all fun i => (List.range m).all fun j => i == j || dstOf ops i == none || dstOf ops i != dstOf ops j) &&
  ((List.range m).all fun i => match dstOf ops i with | some d => decide (d < N) | none => true) &&
  ((List.range m).all fun i => match ops[i]? with | some o => (needs ops m o).all (direct ops i ·) | none => false) &&
  ((List.range ops.size).all fun i => match ops[i]? with | some o => o.after.all (fun e => !Region.binds .any e || decide (e.on < i)) | none => false) &&
  ((List.range ops.size).all fun i => decide (i < m) || (List.range i).all fun j => (L.contains j && decide (j < m)) || ancB (masksOf ops) i j)

omit [Sig] in
theorem freeOkL_spec {ops : Array Oper} {L : List Nat} {m N : Nat} (h : freeOkL ops L m N = true) : m ≤ ops.size ∧ Region.noSelect ops = true ∧
    (∀ i j, i < m → j < m → i ≠ j → ∀ t, dstOf ops i = some t → dstOf ops j ≠ some t) ∧ (∀ i t, i < m → dstOf ops i = some t → t < N) ∧
    (∀ i o, i < m → ops[i]? = some o → ∀ j ∈ needs ops m o, direct ops i j = true) ∧ (∀ i j, i < ops.size → direct ops i j = true → j < i) ∧
    (∀ i j, i < ops.size → m ≤ i → j < i → (j ∈ L ∧ j < m) ∨ AncP ops i j) := by
  simp only [freeOkL, Bool.and_eq_true, decide_eq_true_eq, List.all_eq_true, List.mem_range] at h
  obtain ⟨⟨⟨⟨⟨⟨h1, h2⟩, h3⟩, h4⟩, h5⟩, h6⟩, h7⟩ := h
  refine ⟨h1, h2, ?_, ?_, ?_, ?_, ?_⟩
  · intro i j hi hj hne t ht ht'
    have := h3 i hi j hj
    simp [hne, ht, ht'] at this
  · intro i t hi ht
    have := h4 i hi
    simpa [ht] using this
  · intro i o hi ho j hj
    have := h5 i hi
    simp only [ho, List.all_eq_true] at this
    exact this j hj
  · intro i j hi hd
    have := h6 i hi
    unfold direct at hd
    have ho : ops[i]? = some ops[i] := Array.getElem?_eq_getElem hi
    simp only [ho] at this hd
    obtain ⟨e, he, hb⟩ := Array.any_eq_true'.1 hd
    simp only [Bool.and_eq_true, beq_iff_eq] at hb
    have h' := Array.all_eq_true_iff_forall_mem.1 this e he
    simp only [hb.1, Bool.not_true, Bool.false_or, decide_eq_true_eq] at h'
    exact hb.2 ▸ h'
  · intro i j hi hm hj
    have := h7 i hi
    simp only [Bool.or_eq_true, decide_eq_true_eq, List.all_eq_true, List.mem_range, Bool.and_eq_true] at this
    have := this.resolve_left (by omega) j hj
    rcases this with h | h
    · exact .inl (by simpa using h)
    · exact .inr (ancB_sound i hi j h)

def mGuessGo (m0 : Nat) : List Oper → Nat → List Nat → Nat → Nat
  | [], _, _, m => m
  | o :: r, i, masks, m => let p := preds o masks (Nat.land m0 (Nat.shiftLeft 1 i - 1)); mGuessGo m0 r (i + 1) (masks ++ [p]) (bif Nat.beq p (Nat.shiftLeft 1 i - 1) then m else i + 1)
def maskOf (L : List Nat) : Nat := L.foldl (fun a i => Nat.lor a (Nat.shiftLeft 1 i)) 0

def planOf (ops : Array Oper) (N : Nat) (rnd : Bool) : Option (List Nat × Nat) :=
  let L0 := bif rnd then [] else takeL ops
  let m := mGuessGo (maskOf L0) ops.toList 0 [] 0
  let L := L0.filter fun i => Nat.blt i m
  bif freeOkL ops L m N && takeOk ops L (Array.replicate ops.size false) then some (L, m) else none

def adrawF (P : Program) [Lib P] [Facts P] (C : ACalls) (gl : Tr Nat) (N : Nat) (ops : Array Oper) (L : List Nat) (m : Nat) (slP : Sl) : List Oper → Nat → List Value → AS → Option (List Value × AS)
  | [], _, vs, A => some (vs, A)
  | o :: r, i, vs, A => match aputs N ops (fun j => vs.getD j poison) (needs ops m o) slP with
    | some sl => bif L.contains i then
        match pureVal P (evs gl sl) o with
        | some v => adrawF P C gl N ops L m slP r (i + 1) (vs ++ [v]) A
        | none => none
      else match aval P C gl ops o sl { A with low := A.n } with
        | some (v, A1) => bif Nat.ble A.n A1.low then adrawF P C gl N ops L m slP r (i + 1) (vs ++ [v]) { A1 with low := A.low } else none
        | none => none
    | none => none

def adrawTo (P : Program) [Lib P] [Facts P] (C : ACalls) (gl : Tr Nat) (N : Nat) (rnd : Bool) (ops : Array Oper) (sl : Sl) (A : AS) : Option (Sl × AS × List Oper) :=
  match planOf ops N rnd with
  | some (L, m) => match aputs N ops (fun _ => poison) (List.range m) sl with
    | some slP => match adrawF P C gl N ops L m slP (ops.toList.take m) 0 [] A with
      | some (vs, A1) => bif Nat.ble A1.n dead then
          match aputs N ops (fun j => vs.getD j poison) (List.range m) slP with
          | some sl1 => some (sl1, A1, ops.toList.drop m)
          | none => none
        else none
      | none => none
    | none => none
  | none => none

def adraw (P : Program) [Lib P] [Facts P] (C : ACalls) (gl : Tr Nat) (N : Nat) (rnd : Bool) (ops : Array Oper) (sl : Sl) (A : AS) : Option (Sl × AS) :=
  match adrawTo P C gl N rnd ops sl A with
  | some (sl1, A1, r) => aregion P C gl N ops r sl1 A1
  | none => none

def Link (P : Program) [Lib P] [Facts P] (C : ACalls) (gl : Tr Nat) (N : Nat) (ops : Array Oper) (L : List Nat) (m : Nat) (slP : Sl) (i : Nat) (o : Oper) (vsi : List Value) (v : Value) (A A' : AS) : Prop :=
  ∃ sl, aputs N ops (fun j => vsi.getD j poison) (needs ops m o) slP = some sl ∧
    ((i ∈ L ∧ pureVal P (evs gl sl) o = some v ∧ A' = A) ∨ (i ∉ L ∧ ∃ A1, aval P C gl ops o sl { A with low := A.n } = some (v, A1) ∧ A.n ≤ A1.low ∧ A' = { A1 with low := A.low }))

section
variable {P : Program} [Lib P] [Facts P] {C : ACalls} {gl : Tr Nat} {N : Nat} {ops : Array Oper} {L : List Nat} {m : Nat} {slP : Sl}

omit [Sig] in
theorem chain_of : ∀ (l : List Oper) (i0 : Nat) (vs vs' : List Value) (A A' : AS), vs.length = i0 → adrawF P C gl N ops L m slP l i0 vs A = some (vs', A') →
    ∃ (B : Nat → AS), B 0 = A ∧ B l.length = A' ∧ vs'.length = vs.length + l.length ∧ vs'.take vs.length = vs ∧
      ∀ i o, l[i]? = some o → Link P C gl N ops L m slP (i0 + i) o (vs'.take (vs.length + i)) (vs'.getD (vs.length + i) poison) (B i) (B (i + 1))
  | [], i0, vs, vs', A, A', _, h => by
    cases h
    exact ⟨fun _ => A, rfl, rfl, by simp, by simp, fun i o hi => by simp at hi⟩
  | o :: r, i0, vs, vs', A, A', hi0, h => by
    unfold adrawF at h
    split at h
    · rename_i sl hsl
      have go : ∀ (v : Value) (A2 : AS), ((i0 ∈ L ∧ pureVal P (evs gl sl) o = some v ∧ A2 = A) ∨ (i0 ∉ L ∧ ∃ A1, aval P C gl ops o sl { A with low := A.n } = some (v, A1) ∧ A.n ≤ A1.low ∧ A2 = { A1 with low := A.low })) →
          adrawF P C gl N ops L m slP r (i0 + 1) (vs ++ [v]) A2 = some (vs', A') →
          ∃ (B : Nat → AS), B 0 = A ∧ B (o :: r).length = A' ∧ vs'.length = vs.length + (o :: r).length ∧ vs'.take vs.length = vs ∧
            ∀ i o', (o :: r)[i]? = some o' → Link P C gl N ops L m slP (i0 + i) o' (vs'.take (vs.length + i)) (vs'.getD (vs.length + i) poison) (B i) (B (i + 1)) := by
        intro v A2 hlink h
        obtain ⟨B, h0, h1, h2, h3, h4⟩ := chain_of r (i0 + 1) (vs ++ [v]) vs' _ A' (by simp [hi0]) h
        have hlen : (vs ++ [v]).length = vs.length + 1 := by simp
        rw [hlen] at h2 h3
        have htake : vs'.take vs.length = vs := by
          have := congrArg (List.take vs.length) h3
          rw [List.take_take, Nat.min_eq_left (by omega)] at this
          simpa using this
        refine ⟨fun i => match i with | 0 => A | i + 1 => B i, rfl, ?_, by simp; omega, htake, ?_⟩
        · simpa using h1
        · intro i o' hi
          match i with
          | 0 =>
            simp only [List.getElem?_cons_zero, Option.some.injEq] at hi
            subst hi
            simp only [Nat.add_zero]
            rw [htake]
            have hget : vs'.getD vs.length poison = v := by
              have := congrArg (fun l => l[vs.length]?) h3
              simp at this
              rw [List.getD_eq_getElem?_getD, this]; rfl
            rw [hget]
            refine ⟨sl, hsl, ?_⟩
            show (_ ∧ _ ∧ B 0 = A) ∨ _
            rw [h0]
            exact hlink
          | i + 1 =>
            have := h4 i o' (by simpa using hi)
            rw [hlen] at this
            rw [show vs.length + (i + 1) = vs.length + 1 + i by omega, show i0 + (i + 1) = i0 + 1 + i by omega]
            exact this
      cases hc : L.contains i0 with
      | true =>
        rw [hc, cond_true] at h
        split at h
        · rename_i v hv
          exact go v A (.inl ⟨by simpa using hc, hv, rfl⟩) h
        · cases h
      | false =>
        rw [hc, cond_false] at h
        split at h
        · rename_i v A1 hv
          cases hb : Nat.ble A.n A1.low with
          | false => rw [hb] at h; cases h
          | true =>
            rw [hb, cond_true] at h
            exact go v _ (.inr ⟨by simpa using hc, A1, hv, Nat.ble_eq.mp hb, rfl⟩) h
        · cases h
    · cases h

theorem Rel.lower {φ : Emb} {A : AS} {w : World} (h : Rel φ A w) (x : Nat) : Rel φ { A with low := x } w := ⟨⟨h.wf.lt, h.wf.famlt, h.wf.mem, h.wf.rofam⟩, h.dom, h.apart, h.along, h.imm⟩

theorem aval_exists {φ : Emb} {A A' : AS} {w : World} (hcall : CallOk P gl C) (hr : Rel φ A w) (hg : GRel gl φ) {o : Oper} {sl : Sl} {v : Value} (hs : ∀ t v, sl.get t = some v → ∃ v', VRel φ v v') (h : aval P C gl ops o sl A = some (v, A')) :
    ∃ φ' v' w', VRel φ' v v' ∧ Step φ A w φ' A' w' := by
  have hs' : ∀ x : Operand, ∃ v', VRel φ (evs gl sl x) v' := by
    intro x
    cases x with
    | tmp t =>
      show ∃ v', VRel φ (slot sl t) v'
      unfold slot
      cases hgt : sl.get t with
      | none => exact ⟨undef, .poison _⟩
      | some v => exact hs t v hgt
    | const v => exact ⟨_, evs_rel (sl := .nil) (a := ⟨#[], []⟩) hg (fun t v h => by cases h) (.const v)⟩
    | global g => exact ⟨_, evs_rel (sl := .nil) (a := ⟨#[], []⟩) hg (fun t v h => by cases h) (.global g)⟩
    | func f => exact ⟨_, evs_rel (sl := .nil) (a := ⟨#[], []⟩) hg (fun t v h => by cases h) (.func f)⟩
  obtain ⟨ρ', hρ⟩ := Classical.axiomOfChoice hs'
  unfold aval at h
  split at h
  · cases h
  · cases h
    exact ⟨φ, undef, w, VRel.undef_refl φ, Step.refl hr⟩
  · split at h
    · rename_i b args hy
      cases hl : isLoop A b with
      | false => rw [hl] at h; cases h
      | true =>
        rw [hl, cond_true] at h
        obtain ⟨e, k, lp, r, args', he, hk, hobj, hheap, hoth, hargs, hrun⟩ := run_yield (P := P) hr hρ hy hl
        obtain ⟨hsz, hround⟩ := hcall.round b args A v A' φ w args' e k lp r h hr hg hargs he hk hobj hheap hoth
        obtain ⟨en, w2, hen, _⟩ := hround.2 default [] (room_wide _)
        cases en with
        | returned v' =>
          obtain ⟨φ2, h1, h2⟩ := hen
          exact ⟨φ2, v', w2, h1, h2⟩
        | panicked ch => exact hen.elim
        | outgrown => exact hen.elim
    · split at h
      · rename_i v1 A1 ha
        cases h
        obtain ⟨φ1, w1, n, g1, g2, g3⟩ := snd_aopF hcall.facts hr hρ ha
        obtain ⟨v', _, hv⟩ := g2
        exact ⟨φ1, v', w1, hv, g3⟩
      · rename_i A1 ha
        cases h
        obtain ⟨φ1, w1, n, g1, g2, g3⟩ := snd_aopF hcall.facts hr hρ ha
        exact ⟨φ1, undef, w1, VRel.undef_refl φ1, g3⟩
      · rename_i f args A1 ha
        obtain ⟨φ1, w1, n, g1, g2, g3⟩ := snd_aopF hcall.facts hr hρ ha
        obtain ⟨args', _, hargs⟩ := g2
        obtain ⟨e, w2, fr, he, _⟩ := hcall.call f args A1 v A' φ1 w1 args' h g3.rel (hg.mono (g3.ext hr)) hargs []
        cases e with
        | returned v' =>
          obtain ⟨φ2, h1, h2⟩ := he
          exact ⟨φ2, v', w2, h1, Step.trans hr g3 h2⟩
        | panicked ch => exact he.elim
        | outgrown => exact he.elim
      · cases h

structure Fx (φ0 : Emb) (B : Nat → AS) (vs : List Value) (m : Nat) : Prop where
  nle : ∀ i, i < m → (B i).n ≤ (B (i + 1)).n
  same : ∀ i b, i < m → b < (B i).n → (B (i + 1)).bl.get b = (B i).bl.get b
  lowe : ∀ i, i < m → (B (i + 1)).low = (B i).low
  ex : ∀ i, i ≤ m → ∃ φ w, Rel φ (B i) w ∧ (∀ b, b < (B 0).n → φ b = φ0 b) ∧ (∀ b, (B 0).n ≤ b → b < (B i).n → φ b ≠ none) ∧ ∀ j, j < i → ∃ v', VRel φ (vs.getD j poison) v'

theorem fx_of {φ0 : Emb} {A : AS} {w0 : World} {B : Nat → AS} {vs : List Value} {sl0 : Sl} (hcall : CallOk P gl C) (hr : Rel φ0 A w0) (hg : GRel gl φ0) (hB : B 0 = A) (hmo : m ≤ ops.size)
    (hs : ∀ t v, sl0.get t = some v → ∃ v', VRel φ0 v v') (hP : aputs N ops (fun _ => poison) (List.range m) sl0 = some slP)
    (hneed : ∀ i o, i < m → ops[i]? = some o → ∀ j ∈ needs ops m o, j < i)
    (hl : ∀ i o, i < m → ops[i]? = some o → Link P C gl N ops L m slP i o (vs.take i) (vs.getD i poison) (B i) (B (i + 1))) : Fx φ0 B vs m := by
  have step : ∀ i, i < m → (∃ φ w, Rel φ (B i) w ∧ (∀ b, b < (B 0).n → φ b = φ0 b) ∧ (∀ b, (B 0).n ≤ b → b < (B i).n → φ b ≠ none) ∧ (B 0).n ≤ (B i).n ∧ ∀ j, j < i → ∃ v', VRel φ (vs.getD j poison) v') →
      ((B i).n ≤ (B (i + 1)).n ∧ (∀ b, b < (B i).n → (B (i + 1)).bl.get b = (B i).bl.get b) ∧ (B (i + 1)).low = (B i).low) ∧
      (∃ φ w, Rel φ (B (i + 1)) w ∧ (∀ b, b < (B 0).n → φ b = φ0 b) ∧ (∀ b, (B 0).n ≤ b → b < (B (i + 1)).n → φ b ≠ none) ∧ (B 0).n ≤ (B (i + 1)).n ∧ ∀ j, j < i + 1 → ∃ v', VRel φ (vs.getD j poison) v') := by
    rintro i hi ⟨φ, w, h1, h2, h3, h4, h5⟩
    have ho : ops[i]? = some (ops[i]'(by omega)) := Array.getElem?_eq_getElem _
    obtain ⟨sl, hsl, hlk⟩ := hl i _ hi ho
    have hext : ∀ b e, φ0 b = some e → φ b = some e := fun b e hb => by
      rw [h2 b (by rw [hB]; exact hr.lt hb)]; exact hb
    have hslots : ∀ t v, sl.get t = some v → ∃ v', VRel φ v v' := by
      intro t v htv
      rcases aputs_spec _ _ _ hsl t v htv with ⟨j, hj, hd, rfl⟩ | ⟨_, hg1⟩
      · have hji := hneed i _ hi ho j hj
        obtain ⟨v', hv'⟩ := h5 j hji
        refine ⟨v', ?_⟩
        have : (vs.take i).getD j poison = vs.getD j poison := by
          simp only [List.getD_eq_getElem?_getD, List.getElem?_take, if_pos hji]
        rw [this]
        exact hv'
      · rcases aputs_spec _ _ _ hP t v hg1 with ⟨j, hj, hd, rfl⟩ | ⟨_, hg2⟩
        · exact ⟨undef, .poison _⟩
        · obtain ⟨v', hv'⟩ := hs t v hg2
          exact ⟨v', hv'.mono hext⟩
    rcases hlk with ⟨_, hpv, hBB⟩ | ⟨_, A1, hv, hlow, hB1⟩
    · rw [hBB]
      refine ⟨⟨Nat.le_refl _, fun _ _ => rfl, rfl⟩, φ, w, h1, h2, h3, h4, fun j hj => ?_⟩
      rcases Nat.lt_or_ge j i with hlt | hge
      · exact h5 j hlt
      · have : j = i := by omega
        subst this
        have hs' : ∀ x : Operand, ∃ v', VRel φ (evs gl sl x) v' := by
          intro x
          cases x with
          | tmp t =>
            show ∃ v', VRel φ (slot sl t) v'
            unfold slot
            cases hgt : sl.get t with
            | none => exact ⟨undef, .poison _⟩
            | some v => exact hslots t v hgt
          | const v => exact ⟨_, evs_rel (sl := .nil) (a := ⟨#[], []⟩) (hg.mono hext) (fun t v h => by cases h) (.const v)⟩
          | global g => exact ⟨_, evs_rel (sl := .nil) (a := ⟨#[], []⟩) (hg.mono hext) (fun t v h => by cases h) (.global g)⟩
          | func f => exact ⟨_, evs_rel (sl := .nil) (a := ⟨#[], []⟩) (hg.mono hext) (fun t v h => by cases h) (.func f)⟩
        obtain ⟨ρ', hρ⟩ := Classical.axiomOfChoice hs'
        obtain ⟨v', _, hv'⟩ := pureVal_run hcall.facts hρ hpv
        exact ⟨v', hv'⟩
    obtain ⟨φ', v', w', g1, g2⟩ := aval_exists hcall (h1.lower (B i).n) (hg.mono hext) hslots hv
    have hn : (B i).n ≤ A1.n := g2.n_le
    rw [hB1]
    refine ⟨⟨hn, fun b hb => g2.same b hb (by show b < A1.low; omega), rfl⟩, φ', w', g2.rel.lower _, fun b hb => ?_, fun b hb hb' => ?_, by simp only; omega, fun j hj => ?_⟩
    · rw [g2.dom b (by show b < (B i).n; omega), h2 b hb]
    · rcases Nat.lt_or_ge b (B i).n with hlt | hge
      · rw [g2.dom b hlt]; exact h3 b hb hlt
      · exact g2.newm b hge hb'
    · rcases Nat.lt_or_ge j i with hlt | hge
      · obtain ⟨u, hu⟩ := h5 j hlt
        exact ⟨u, hu.mono (g2.ext (h1.lower _))⟩
      · have : j = i := by omega
        subst this
        exact ⟨v', g1⟩
  have all : ∀ i, i ≤ m → (∃ φ w, Rel φ (B i) w ∧ (∀ b, b < (B 0).n → φ b = φ0 b) ∧ (∀ b, (B 0).n ≤ b → b < (B i).n → φ b ≠ none) ∧ (B 0).n ≤ (B i).n ∧ ∀ j, j < i → ∃ v', VRel φ (vs.getD j poison) v') := by
    intro i
    induction i with
    | zero => exact fun _ => ⟨φ0, w0, by rw [hB]; exact hr, fun _ _ => rfl, fun b h1 h2 => by omega, Nat.le_refl _, fun j hj => by omega⟩
    | succ i ih => exact fun hi => (step i (by omega) (ih (by omega))).2
  refine ⟨fun i hi => (step i hi (all i (by omega))).1.1, fun i b hi hb => (step i hi (all i (by omega))).1.2.1 b hb, fun i hi => (step i hi (all i (by omega))).1.2.2, fun i hi => ?_⟩
  obtain ⟨φ, w, h1, h2, h3, _, h5⟩ := all i hi
  exact ⟨φ, w, h1, h2, h3, h5⟩

theorem Fx.nle' {φ0 : Emb} {B : Nat → AS} {vs : List Value} (h : Fx φ0 B vs m) : ∀ {i j : Nat}, i ≤ j → j ≤ m → (B i).n ≤ (B j).n := by
  intro i j hij
  induction hij with
  | refl => exact fun _ => Nat.le_refl _
  | step hk ih => exact fun hm => Nat.le_trans (ih (by omega)) (h.nle _ (by omega))

theorem Fx.same' {φ0 : Emb} {B : Nat → AS} {vs : List Value} (h : Fx φ0 B vs m) : ∀ {i j : Nat}, i ≤ j → j ≤ m → ∀ b, b < (B i).n → (B j).bl.get b = (B i).bl.get b := by
  intro i j hij
  induction hij with
  | refl => exact fun _ _ _ => rfl
  | step hk ih => exact fun hm b hb => by rw [h.same _ b (by omega) (Nat.lt_of_lt_of_le hb (h.nle' hk (by omega))), ih (by omega) b hb]

theorem Fx.lowe' {φ0 : Emb} {B : Nat → AS} {vs : List Value} (h : Fx φ0 B vs m) : ∀ {j : Nat}, j ≤ m → (B j).low = (B 0).low := by
  intro j
  induction j with
  | zero => exact fun _ => rfl
  | succ j ih => exact fun hm => by rw [h.lowe j (by omega), ih (by omega)]

def own (B : Nat → AS) (j b : Nat) : Prop := (B j).n ≤ b ∧ b < (B (j + 1)).n

theorem Fx.own_ne {φ0 : Emb} {B : Nat → AS} {vs : List Value} (h : Fx φ0 B vs m) {i j b : Nat} (hi : i < m) (hj : j < m) (h1 : own B i b) (h2 : own B j b) : i = j := by
  unfold own at h1 h2
  rcases Nat.lt_trichotomy i j with hlt | heq | hgt
  · have := h.nle' (i := i + 1) (j := j) (by omega) (by omega); omega
  · exact heq
  · have := h.nle' (i := j + 1) (j := i) (by omega) (by omega); omega

theorem Fx.own_ex {φ0 : Emb} {B : Nat → AS} {vs : List Value} (_h : Fx φ0 B vs m) {b : Nat} : ∀ {k : Nat}, k ≤ m → (B 0).n ≤ b → b < (B k).n → ∃ j, j < k ∧ own B j b
  | 0, _, h1, h2 => by omega
  | k + 1, hk, h1, h2 => by
    rcases Nat.lt_or_ge b (B k).n with hlt | hge
    · obtain ⟨j, hj, ho⟩ := Fx.own_ex _h (k := k) (by omega) h1 hlt
      exact ⟨j, by omega, ho⟩
    · exact ⟨k, by omega, hge, h2⟩

/- A RELATION CUT DOWN TO LESS -/

def restrict (φ : Emb) (n : Nat) : Emb := fun b => if b < n then φ b else none

theorem VRel.restrict {φ ψ : Emb} {n : Nat} {v v' : Value} (hd : ∀ b e, φ b = some e → b ≠ dead) (hψ : ∀ b e, ψ b = some e → b < n) (h : VRel φ v v') : ∀ u, VRel ψ v u → VRel (AE.restrict φ n) v v' := by
  have hres : ∀ {b e}, φ b = some e → b < n → AE.restrict φ n b = some e := fun h1 h2 => by unfold AE.restrict; rw [if_pos h2]; exact h1
  induction h with
  | poison v' => exact fun _ _ => .poison v'
  | sym k => exact fun _ _ => .sym k
  | bool b => exact fun _ _ => .bool b
  | int k i => exact fun _ _ => .int k i
  | float k b => exact fun _ _ => .float k b
  | string s => exact fun _ _ => .string s
  | pnil => exact fun _ _ => .pnil
  | ptr h =>
      intro u hu
      cases hu with
      | ptr h2 => exact .ptr (hres h (hψ _ _ h2))
  | slnil l c => exact fun _ _ => .slnil l c
  | slz a' h => exact fun _ _ => .slz a' h
  | slx n' c h =>
      intro u hu
      cases hu with
      | slx _ _ h2 => exact .slx n' c (hres h (hψ _ _ h2))
      | slg _ _ c' h2 _ _ _ => exact .slx n' c (hres h (hψ _ _ h2))
      | slz a' h2 => exact absurd rfl (hd _ _ h)
  | slg n' c c' h hs hc hl =>
      intro u hu
      cases hu with
      | slx _ _ h2 => exact .slg n' c c' (hres h (hψ _ _ h2)) hs hc hl
      | slg _ _ c' h2 _ _ _ => exact .slg n' c _ (hres h (hψ _ _ h2)) hs hc hl
      | slz a' h2 => exact absurd rfl (hd _ _ h)
  | mapnil => exact fun _ _ => .mapnil
  | map h =>
      intro u hu
      cases hu with
      | map h2 => exact .map (hres h (hψ _ _ h2))
  | chan => exact fun _ _ => .chan
  | func fs fs' cs cs' hn h1 h2 hf hc ih1 ih2 =>
      intro u hu
      cases hu with
      | func _ _ _ _ _ _ _ g1 g2 => exact .func fs fs' cs cs' hn h1 h2 (fun i hi => ih1 i hi _ (g1 i hi)) (fun i hi => ih2 i hi _ (g2 i hi))
      | yld h2 => exact absurd rfl (hn _)
  | yld h =>
      intro u hu
      cases hu with
      | yld h2 => exact .yld (hres h (hψ _ _ h2))
      | func _ _ _ _ hn => exact absurd rfl (hn _)
  | nilFunc => exact fun _ _ => .nilFunc
  | nilIface => exact fun _ _ => .nilIface
  | iface t h ih =>
      intro u hu
      cases hu with
      | iface _ g => exact .iface t (ih _ g)
  | agg cs cs' h1 h ih =>
      intro u hu
      cases hu with
      | agg _ _ _ g => exact .agg cs cs' h1 fun i hi => ih i hi _ (g i hi)
  | tuple cs cs' h1 h ih =>
      intro u hu
      cases hu with
      | tuple _ _ _ g => exact .tuple cs cs' h1 fun i hi => ih i hi _ (g i hi)

theorem ORel.restrict {φ ψ : Emb} {n : Nat} {w w' : World} {e e' : Em} {k : ABlk} (hd : ∀ b e, φ b = some e → b ≠ dead) (hψ : ∀ b e, ψ b = some e → b < n) (h : ORel φ w e k) (h' : ORel ψ w' e' k) : ORel (AE.restrict φ n) w e k := by
  unfold ORel at *
  cases hk : k.obj with
  | cells c =>
    simp only [hk] at h h' ⊢
    obtain ⟨c', fr', h1, h2, h3, h4, h5⟩ := h
    obtain ⟨d', fr2, g1, g2, g3, g4, g5⟩ := h'
    exact ⟨c', fr', h1, h2, h3, fun j hj => (h4 j hj).restrict hd hψ _ (g4 j hj), h5⟩
  | map es cl =>
    simp only [hk] at h h' ⊢
    obtain ⟨es', h1, h2, h3⟩ := h
    obtain ⟨fs', g1, g2, g3⟩ := h'
    refine ⟨es', h1, h2, fun j a b ha hb => ?_⟩
    obtain ⟨q1, q2, q3, q4⟩ := h3 j a b ha hb
    have hj : j < es.length := (List.getElem?_eq_some_iff.1 ha).1
    obtain ⟨_, _, r3, _⟩ := g3 j a (fs'[j]'(by omega)) ha (Array.getElem?_eq_getElem _)
    exact ⟨q1, q2, q3.restrict hd hψ _ r3, q4⟩
  | oth x =>
    simp only [hk] at h h' ⊢
    obtain ⟨h0, o1, h1, h2⟩ := h
    obtain ⟨_, o2, g1, g2⟩ := h'
    refine ⟨h0, o1, h1, ?_⟩
    cases x with
    | siter s p => exact h2
    | deferred => exact h2
    | gone => exact h2
    | loop l =>
      obtain ⟨r, q0, q1, q2, q3, q4, q5, q6, ⟨e7, q7, q8⟩, q9⟩ := h2
      obtain ⟨r', p0, p1, p2, p3, p4, p5, p6, ⟨e8, p7, p8⟩, p9⟩ := g2
      refine ⟨r, q0, q1, q2, q3, q4, q5, q6, ⟨e7, ?_, q8⟩, fun t v hv => (q9 t v hv).restrict hd hψ _ (p9 t v hv)⟩
      unfold AE.restrict
      rw [if_pos (hψ _ _ p7)]
      exact q7

end
end AE
end Go.Proofs.YtblhndlmgibljaaDoor

/- AE, part 17: a region that draws its order: whatever the order, the evaluator's result. -/
namespace Go.Proofs.YtblhndlmgibljaaDoor
open Go
namespace AE
variable [Sig]

structure DInv (gl : Tr Nat) (N : Nat) (ds : List Deferred) (ops : Array Oper) (m : Nat) (B : Nat → AS) (vs : List Value) (φ0 : Emb) (w0 : World) (a0 : Act) (φ : Emb) (listed : Array Bool) (a : Act) (w : World) : Prop where
  size : listed.size = ops.size
  down : ∀ i j, listed.getD i false = true → direct ops i j = true → listed.getD j false = true
  tailoff : ∀ i, m ≤ i → listed.getD i false = false
  defers : a.defers = ds
  tsize : a.tmps.size = N
  rel : Rel φ (B m) w
  old : ∀ b, b < (B 0).n → φ b = φ0 b
  mapped : ∀ b e, (B 0).n ≤ b → φ b = some e → ∃ j, j < m ∧ listed.getD j false = true ∧ own B j b
  total : ∀ j b, j < m → listed.getD j false = true → own B j b → φ b ≠ none
  new : ∀ b e, (B 0).n ≤ b → φ b = some e → w0.heap.size ≤ e.blk
  cross : ∀ j b e b' e', j < m → own B j b → ¬ own B j b' → φ b = some e → φ b' = some e' → e.blk ≠ e'.blk
  keep : ∀ i, i < w0.heap.size → (∀ b e k, φ0 b = some e → e.blk = i → (B 0).bl.get b = some k → k.ro = true) → w.heap[i]? = w0.heap[i]?
  hsize : w0.heap.size ≤ w.heap.size
  os : w.os = w0.os
  tape : w.tape = w0.tape
  output : w.output = w0.output
  drawn : dr0 w0 ≤ dr0 w
  other : ∀ t, (∀ i, i < m → listed.getD i false = true → dstOf ops i ≠ some t) → a.tmps.getD t undef = a0.tmps.getD t undef
  val : ∀ i t, i < m → listed.getD i false = true → dstOf ops i = some t → VRel (restrict φ (B (i + 1)).n) (vs.getD i poison) (a.tmps.getD t undef)

omit [Sig] in
theorem restrict_some {φ : Emb} {n b : Nat} {e : Em} (h : restrict φ n b = some e) : b < n ∧ φ b = some e := by
  unfold restrict at h
  by_cases hb : b < n
  · rw [if_pos hb] at h; exact ⟨hb, h⟩
  · rw [if_neg hb] at h; cases h

omit [Sig] in
theorem restrict_mono {φ : Emb} {n n' : Nat} (h : n ≤ n') : ∀ b e, restrict φ n b = some e → restrict φ n' b = some e := fun b e hb => by
  obtain ⟨h1, h2⟩ := restrict_some hb
  unfold restrict
  rw [if_pos (by omega)]; exact h2

section
variable {P : Program} [Lib P] [Facts P] {C : ACalls} {gl : Tr Nat} {N : Nat} {ds : List Deferred} {ops : Array Oper} {m : Nat} {slP sl0 : Sl} {B : Nat → AS} {vs : List Value} {φ0 φ : Emb} {w0 w : World} {a0 a : Act} {listed : Array Bool}

theorem DInv.done (hfx : Fx φ0 B vs m) (hr0 : Rel φ0 (B 0) w0) (hs0 : SR N ds φ0 sl0 a0) (hI : DInv gl N ds ops m B vs φ0 w0 a0 φ listed a w) (hall : ∀ i, i < m → listed.getD i false = true)
    (hP : aputs N ops (fun _ => poison) (List.range m) sl0 = some slP) {sl1 : Sl} (h1 : aputs N ops (fun j => vs.getD j poison) (List.range m) slP = some sl1) :
    SR N ds φ sl1 a ∧ Step φ0 (B 0) w0 φ (B m) w := by
  have hext : ∀ b e, φ0 b = some e → φ b = some e := fun b e hb => by rw [hI.old b (hr0.lt hb)]; exact hb
  refine ⟨⟨hI.tsize, hI.defers, fun t v hv => ?_⟩, ?_⟩
  · rcases aputs_spec _ _ _ h1 t v hv with ⟨j, hj, hd, rfl⟩ | ⟨hn, hg⟩
    · have hjm := List.mem_range.1 hj
      exact (hI.val j t hjm (hall j hjm) hd).mono fun b e hb => (restrict_some hb).2
    · rcases aputs_spec _ _ _ hP t v hg with ⟨j, hj, hd, rfl⟩ | ⟨_, hg2⟩
      · exact .poison _
      · rw [hI.other t fun i hi _ => hn i (List.mem_range.2 hi)]
        exact (hs0.get t v hg2).mono hext
  · refine { rel := hI.rel, dom := hI.old, newm := fun b hb hb' => ?_, new := fun b e hb he => .inl (hI.new b e hb he), n_le := hfx.nle' (Nat.zero_le _) (Nat.le_refl _), low := by rw [hfx.lowe' (Nat.le_refl _)]; exact Nat.le_refl _,
             same := fun b hb _ => hfx.same' (Nat.zero_le _) (Nat.le_refl _) b hb, ro := fun b k hk _ => ?_, keep := hI.keep, hsize := hI.hsize, os := hI.os, tape := hI.tape, output := hI.output, drawn := hI.drawn }
    · obtain ⟨j, hj, ho⟩ := hfx.own_ex (Nat.le_refl _) hb hb'
      exact hI.total j b hj (hall j hj) ho
    · rw [hfx.same' (Nat.zero_le _) (Nat.le_refl _) b (hr0.wf.lt b k hk)]; exact hk

theorem DInv.here (hfx : Fx φ0 B vs m) (hr0 : Rel φ0 (B 0) w0) (hdead : (B m).n ≤ dead) (hI : DInv gl N ds ops m B vs φ0 w0 a0 φ listed a w) {i : Nat} (hi : i < m) : Rel (restrict φ (B i).n) (B i) w := by
  obtain ⟨ψ, w', g1, g2, g3, _⟩ := hfx.ex i (by omega)
  have hd : ∀ b e, φ b = some e → b ≠ dead := fun b e hb hh => by
    have := hI.rel.lt hb
    omega
  have hget : ∀ b, b < (B i).n → (B m).bl.get b = (B i).bl.get b := fun b hb => hfx.same' (by omega) (Nat.le_refl _) b hb
  refine ⟨g1.wf, fun b e hb => ?_, fun b e k b' e' k' hb hb' hk hk' hne => ?_, fun b e k b' e' k' hb hb' hk hk' hf hblk => ?_, fun i o hi => ⟨(hI.rel.imm i o hi).1, fun b e hb => (hI.rel.imm i o hi).2 b e (restrict_some hb).2⟩⟩
  · obtain ⟨hlt, hφ⟩ := restrict_some hb
    obtain ⟨k, hk, h1, h2⟩ := hI.rel.dom b e hφ
    rw [hget b hlt] at hk
    refine ⟨k, hk, h1, ?_⟩
    have hψ : ψ b ≠ none := by
      rcases Nat.lt_or_ge b (B 0).n with h0 | h0
      · rw [g2 b h0, ← hI.old b h0, hφ]; simp
      · exact g3 b h0 hlt
    obtain ⟨e', he'⟩ := Option.ne_none_iff_exists'.1 hψ
    obtain ⟨k', hk', _, h3⟩ := g1.dom b e' he'
    rw [hk] at hk'
    cases hk'
    exact h2.restrict hd (fun b e hb => g1.lt hb) h3
  · obtain ⟨hlt, hφ⟩ := restrict_some hb
    obtain ⟨hlt', hφ'⟩ := restrict_some hb'
    exact hI.rel.apart b e k b' e' k' hφ hφ' ((hget b hlt).trans hk) ((hget b' hlt').trans hk') hne
  · obtain ⟨hlt, hφ⟩ := restrict_some hb
    obtain ⟨hlt', hφ'⟩ := restrict_some hb'
    exact hI.rel.along b e k b' e' k' hφ hφ' ((hget b hlt).trans hk) ((hget b' hlt').trans hk') hf hblk

theorem DInv.step (hfx : Fx φ0 B vs m) (hr0 : Rel φ0 (B 0) w0) (hI : DInv gl N ds ops m B vs φ0 w0 a0 φ listed a w) {i : Nat} {o : Oper} (hi : i < m) (hm : m ≤ ops.size) (ho : ops[i]? = some o) (hun : listed.getD i false = false)
    (hdn : ∀ k, direct ops i k = true → listed.getD k false = true) (hdst : ∀ i j, i < m → j < m → i ≠ j → ∀ t, dstOf ops i = some t → dstOf ops j ≠ some t) (hlt : ∀ i t, i < m → dstOf ops i = some t → t < N)
    {A1 : AS} (hlow : (B i).n ≤ A1.low) (hB1 : B (i + 1) = { A1 with low := (B i).low }) {φ' : Emb} {v' : Value} {w' : World} (hv : VRel φ' (vs.getD i poison) v') (hst : Step (restrict φ (B i).n) { B i with low := (B i).n } w φ' A1 w') :
    ∃ φ2, DInv gl N ds ops m B vs φ0 w0 a0 φ2 (listed.setIfInBounds i true) (a.put o.dst v') w' := by
  have hn1 : (B (i + 1)).n = A1.n := by rw [hB1]
  have hbl1 : (B (i + 1)).bl = A1.bl := by rw [hB1]
  have hdi : dstOf ops i = o.dst := by simp [dstOf, ho]
  have hset : ∀ j, (listed.setIfInBounds i true).getD j false = true ↔ j = i ∨ listed.getD j false = true := by
    intro j
    by_cases hj : j = i
    · subst hj
      have := hI.size
      simp [Array.getD_eq_getD_getElem?, show j < listed.size by omega]
    · rw [getD_set_ne false (Ne.symm hj)]
      simp [hj]
  let φ2 : Emb := fun b => if b < (B i).n then φ b else if b < (B (i + 1)).n then φ' b else φ b
  have hlow2 : ∀ b, b < (B i).n → φ2 b = φ b := fun b hb => if_pos hb
  have hmid : ∀ b, own B i b → φ2 b = φ' b := fun b hb => by
    show (if _ then _ else if _ then _ else _) = _
    rw [if_neg (by unfold own at hb; omega), if_pos hb.2]
  have hhigh : ∀ b, (B (i + 1)).n ≤ b → φ2 b = φ b := fun b hb => by
    have := hfx.nle i hi
    show (if _ then _ else if _ then _ else _) = _
    rw [if_neg (by omega), if_neg (by omega)]
  have hcase : ∀ b, b < (B i).n ∨ own B i b ∨ (B (i + 1)).n ≤ b := fun b => by unfold own; omega
  have hφ'low : ∀ b, b < (B i).n → φ' b = φ b := fun b hb => by
    rw [hst.dom b hb]; unfold restrict; rw [if_pos hb]
  have hφ'lt : ∀ b e, φ' b = some e → b < (B (i + 1)).n := fun b e hb => by rw [hn1]; exact hst.rel.lt hb
  have hφ'2 : ∀ b e, φ' b = some e → φ2 b = some e := fun b e hb => by
    have := hφ'lt b e hb
    rcases hcase b with h | h | h
    · rw [hlow2 b h, ← hφ'low b h]; exact hb
    · rw [hmid b h]; exact hb
    · omega
  have hφnone : ∀ b, own B i b → φ b = none := fun b hb => by
    cases h : φ b with
    | none => rfl
    | some e =>
      exfalso
      have h0 : (B 0).n ≤ b := Nat.le_trans (hfx.nle' (Nat.zero_le i) (by omega)) hb.1
      obtain ⟨j, hj, hlj, hoj⟩ := hI.mapped b e h0 h
      have := hfx.own_ne hi hj hb hoj
      subst this
      rw [hun] at hlj
      cases hlj
  have hφ2 : ∀ b e, φ b = some e → φ2 b = some e := fun b e hb => by
    rcases hcase b with h | h | h
    · rw [hlow2 b h]; exact hb
    · rw [hφnone b h] at hb; cases hb
    · rw [hhigh b h]; exact hb
  have hnewblk : ∀ b e, own B i b → φ' b = some e → w.heap.size ≤ e.blk := fun b e hb he => by
    rcases hst.new b e hb.1 he with h | ⟨b0, e0, k0, q1, _, q3, _, _⟩
    · exact h
    · exfalso
      have := (restrict_some q1).1
      omega
  have h0i : (B 0).n ≤ (B i).n := hfx.nle' (Nat.zero_le i) (by omega)
  have hgetm : ∀ b, b < (B (i + 1)).n → (B m).bl.get b = A1.bl.get b := fun b hb => by rw [hfx.same' (by omega) (Nat.le_refl _) b hb, hbl1]
  have holdlt : ∀ b e, φ b = some e → e.blk < w.heap.size := fun b e hb => by
    obtain ⟨k, _, _, h2⟩ := hI.rel.dom b e hb
    exact h2.lt
  have hsrc : ∀ b e, φ2 b = some e → (b < (B (i + 1)).n ∧ φ' b = some e) ∨ ((B (i + 1)).n ≤ b ∧ φ b = some e) := fun b e hb => by
    have := hfx.nle i hi
    rcases hcase b with h | h | h
    · rw [hlow2 b h, ← hφ'low b h] at hb; exact .inl ⟨by omega, hb⟩
    · rw [hmid b h] at hb; exact .inl ⟨h.2, hb⟩
    · rw [hhigh b h] at hb; exact .inr ⟨h, hb⟩
  have hsplit : ∀ b e, φ2 b = some e → (own B i b ∧ φ' b = some e ∧ w.heap.size ≤ e.blk) ∨ (¬ own B i b ∧ φ b = some e ∧ e.blk < w.heap.size) := fun b e hb => by
    rcases hcase b with h | h | h
    · rw [hlow2 b h] at hb; exact .inr ⟨by unfold own; omega, hb, holdlt b e hb⟩
    · rw [hmid b h] at hb; exact .inl ⟨h, hb, hnewblk b e h hb⟩
    · rw [hhigh b h] at hb; exact .inr ⟨by unfold own; omega, hb, holdlt b e hb⟩
  have hkeepblk : ∀ b e, (B (i + 1)).n ≤ b → φ b = some e → w'.heap[e.blk]? = w.heap[e.blk]? := fun b e hb he => by
    have h0 : (B 0).n ≤ b := by have := hfx.nle i hi; omega
    obtain ⟨j, hj, hlj, hoj⟩ := hI.mapped b e h0 he
    refine hst.keep e.blk (holdlt b e he) fun b0 e0 k0 hb0 he0 _ => ?_
    exfalso
    obtain ⟨hb0lt, hb0φ⟩ := restrict_some hb0
    refine hI.cross j b e b0 e0 hj hoj (fun hh => ?_) he hb0φ he0.symm
    have hij : i + 1 ≤ j := by
      rcases Nat.lt_or_ge i j with h | h
      · exact h
      · exfalso
        have := hfx.nle' (i := j + 1) (j := i + 1) (by omega) (by omega)
        unfold own at hoj
        omega
    have := hfx.nle' (i := i) (j := j) (by omega) (by omega)
    unfold own at hh
    omega
  refine ⟨φ2, by simpa using hI.size, ?_, ?_, by rw [Act.defers_put]; exact hI.defers, by rw [Act.size_put]; exact hI.tsize, ⟨hI.rel.wf, ?_, ?_, ?_, fun i o hi => ⟨(hst.rel.imm i o hi).1, fun b e hb => by
      rcases hsrc b e hb with ⟨_, h⟩ | ⟨_, h⟩
      · exact (hst.rel.imm i o hi).2 b e h
      · exact (hI.rel.imm i o hi).2 b e h⟩⟩, ?_, ?_, ?_, ?_, ?_, ?_, Nat.le_trans hI.hsize hst.hsize, hst.os.trans hI.os, hst.tape.trans hI.tape, hst.output.trans hI.output, Nat.le_trans hI.drawn hst.drawn, ?_, ?_⟩
  · intro j k hj hd
    rw [hset] at hj ⊢
    rcases hj with rfl | hj
    · exact .inr (hdn k hd)
    · exact .inr (hI.down j k hj hd)
  · intro j hj
    rw [getD_set_ne false (by omega)]
    exact hI.tailoff j hj
  · -- dom
    intro b e hb
    rcases hsrc b e hb with ⟨hb1, hb'⟩ | ⟨hb1, hb'⟩
    · obtain ⟨k, hk, h1, h2⟩ := hst.rel.dom b e hb'
      exact ⟨k, (hgetm b hb1).trans hk, h1, h2.mono hφ'2 rfl⟩
    · obtain ⟨k, hk, h1, h2⟩ := hI.rel.dom b e hb'
      exact ⟨k, hk, h1, h2.mono hφ2 (hkeepblk b e hb1 hb')⟩
  · -- apart
    intro b e k b' e' k' hb hb' hk hk' hne
    rcases hsplit b e hb with ⟨o1, p1, q1⟩ | ⟨o1, p1, q1⟩ <;> rcases hsplit b' e' hb' with ⟨o2, p2, q2⟩ | ⟨o2, p2, q2⟩
    · exact hst.rel.apart b e k b' e' k' p1 p2 ((hgetm b o1.2).symm.trans hk) ((hgetm b' o2.2).symm.trans hk') hne
    · omega
    · omega
    · exact hI.rel.apart b e k b' e' k' p1 p2 hk hk' hne
  · intro b e k b' e' k' hb hb' hk hk' hf hblk
    rcases hsplit b e hb with ⟨o1, p1, q1⟩ | ⟨o1, p1, q1⟩ <;> rcases hsplit b' e' hb' with ⟨o2, p2, q2⟩ | ⟨o2, p2, q2⟩
    · exact hst.rel.along b e k b' e' k' p1 p2 ((hgetm b o1.2).symm.trans hk) ((hgetm b' o2.2).symm.trans hk') hf hblk
    · omega
    · omega
    · exact hI.rel.along b e k b' e' k' p1 p2 hk hk' hf hblk
  · intro b hb
    rw [hlow2 b (by omega)]
    exact hI.old b hb
  · intro b e h0 hb
    rcases hsplit b e hb with ⟨o1, p1, _⟩ | ⟨o1, p1, _⟩
    · exact ⟨i, hi, (hset i).2 (.inl rfl), o1⟩
    · obtain ⟨j, hj, hlj, hoj⟩ := hI.mapped b e h0 p1
      exact ⟨j, hj, (hset j).2 (.inr hlj), hoj⟩
  · intro j b hj hl hoj
    rcases (hset j).1 hl with rfl | hl
    · rw [hmid b hoj]
      exact hst.newm b hoj.1 (by rw [← hn1]; exact hoj.2)
    · obtain ⟨e, he⟩ := Option.ne_none_iff_exists'.1 (hI.total j b hj hl hoj)
      rw [hφ2 b e he]; simp
  · intro b e h0 hb
    rcases hsplit b e hb with ⟨o1, p1, q1⟩ | ⟨o1, p1, _⟩
    · exact Nat.le_trans hI.hsize q1
    · exact hI.new b e h0 p1
  · -- cross
    intro j b e b' e' hj hoj hnj hb hb'
    rcases hsplit b e hb with ⟨o1, p1, q1⟩ | ⟨o1, p1, q1⟩ <;> rcases hsplit b' e' hb' with ⟨o2, p2, q2⟩ | ⟨o2, p2, q2⟩
    · exfalso
      have := hfx.own_ne hj hi hoj o1
      subst this
      exact hnj o2
    · omega
    · omega
    · exact hI.cross j b e b' e' hj hoj hnj p1 p2
  · -- keep
    intro k hk hall
    rw [hst.keep k (Nat.lt_of_lt_of_le hk hI.hsize) ?_, hI.keep k hk hall]
    intro b e kk hb he hkk
    obtain ⟨hlt1, hφb⟩ := restrict_some hb
    rcases Nat.lt_or_ge b (B 0).n with h0 | h0
    · refine hall b e kk ?_ he ?_
      · rw [← hI.old b h0]; exact hφb
      · rw [← hfx.same' (Nat.zero_le i) (by omega) b h0]; exact hkk
    · have := hI.new b e h0 hφb
      omega
  · -- the other slots
    intro t h
    have hti : o.dst ≠ some t := fun hh => h i hi ((hset i).2 (.inl rfl)) (hdi.trans hh)
    have : (a.put o.dst v').tmps.getD t undef = a.tmps.getD t undef := by
      rcases Nat.lt_or_ge t a.tmps.size with htN | htN
      · rw [Act.get_put _ _ _ _ htN, if_neg hti]
      · simp [Array.getD_eq_getD_getElem?, Array.getElem?_eq_none htN, Array.getElem?_eq_none (show (a.put o.dst v').tmps.size ≤ t by rw [Act.size_put]; exact htN)]
    rw [this]
    exact hI.other t fun j hj hl => h j hj ((hset j).2 (.inr hl))
  · intro j t hj hl hd
    by_cases hji : j = i
    · subst hji
      have htN : t < N := hlt j t hj hd
      have : (a.put o.dst v').tmps.getD t undef = v' := by
        rw [Act.get_put _ _ _ _ (by rw [hI.tsize]; exact htN), if_pos (hdi.symm.trans hd)]
      rw [this]
      refine hv.mono fun b e hb => ?_
      unfold restrict
      rw [if_pos (hφ'lt b e hb)]
      exact hφ'2 b e hb
    · have hlj := ((hset j).1 hl).resolve_left hji
      have htN : t < N := hlt j t hj hd
      have : (a.put o.dst v').tmps.getD t undef = a.tmps.getD t undef := by
        rw [Act.get_put _ _ _ _ (by rw [hI.tsize]; exact htN), if_neg]
        intro hh
        exact hdst i j hi hj (Ne.symm hji) t (hdi.trans hh) hd
      rw [this]
      refine (hI.val j t hj hlj hd).mono fun b e hb => ?_
      obtain ⟨h1, h2⟩ := restrict_some hb
      unfold restrict
      rw [if_pos h1]
      exact hφ2 b e h2

end
end AE
end Go.Proofs.YtblhndlmgibljaaDoor

/- AE, part 18: code and calls. -/
namespace Go.Proofs.YtblhndlmgibljaaDoor
open Go
namespace AE
variable [Sig]

section
variable {P : Program} {ops : Array Oper}

omit [Sig] in
theorem tail_phaseI {ro : Option Nat} {Q : Exit → Act → World → Prop} {m : Nat} (hback : ∀ i j, i < ops.size → direct ops i j = true → j < i) (hanc : ∀ i j, i < ops.size → m ≤ j → j < i → AncP ops i j) :
    ∀ (fuel k : Nat) (listed : Array Bool) (a : Act) (w : World), m ≤ k → listed.size = ops.size → (∀ i, listed.getD i false = decide (i < k ∧ i < ops.size)) →
      unl listed ≤ fuel → wpListIn (Fr ro) 0 P ops Q (ops.toList.drop k) a w → wpAnyIn (Fr ro) 0 P .any ops Q fuel listed a w := by
  intro fuel
  induction fuel with
  | zero =>
    intro k listed a w hmk hs hl hf h
    have hk : ops.size ≤ k := by
      rcases Nat.lt_or_ge k ops.size with hk | hk
      · exfalso
        have h1 := hl k
        simp only [Nat.lt_irrefl, false_and, decide_false] at h1
        have := unl_set (i := k) (listed := listed) (by omega) (by rw [getD_true_of_lt (by omega)]; exact h1)
        omega
      · exact hk
    have hr : Region.ready .any ops listed = [] := by
      apply List.eq_nil_iff_forall_not_mem.2
      intro i hi
      obtain ⟨h0, o, ho, _⟩ := mem_ready.1 hi
      have hio : i < ops.size := (Array.getElem?_eq_some_iff.1 ho).1
      rw [getD_true_of_lt (by omega), hl i] at h0
      simp [hio] at h0
      omega
    rw [List.drop_of_length_le (by simpa using hk)] at h
    exact ⟨hr, h⟩
  | succ fuel ih =>
    intro k listed a w hmk hs hl hf h
    rcases Nat.lt_or_ge k ops.size with hk | hk
    · have hkf : listed.getD k false = false := by rw [hl k]; simp
      have ho : ops[k]? = some ops[k] := Array.getElem?_eq_getElem hk
      have hready : k ∈ Region.ready .any ops listed := by
        refine mem_ready.2 ⟨by rw [getD_true_of_lt (by omega)]; exact hkf, ops[k], ho, fun e he hb => ?_⟩
        have : direct ops k e.on = true := by
          simp only [direct, ho]
          exact Array.any_eq_true'.2 ⟨e, he, by simp [hb]⟩
        have := hback k e.on hk this
        rw [hl e.on]
        simp; omega
      refine ⟨fun h0 => absurd (h0 ▸ hready) (by simp), fun i hi => ?_⟩
      have hik : i = k := by
        obtain ⟨h0, o, ho', _⟩ := mem_ready.1 hi
        have hio : i < ops.size := (Array.getElem?_eq_some_iff.1 ho').1
        rw [getD_true_of_lt (by omega), hl i] at h0
        simp only [hio, and_true, decide_eq_false_iff_not, Nat.not_lt] at h0
        rcases Nat.lt_or_eq_of_le h0 with hki | hki
        · exfalso
          have down : ∀ i j, listed.getD i false = true → direct ops i j = true → listed.getD j false = true := by
            intro i j h1 h2
            rw [hl i] at h1
            simp only [decide_eq_true_eq] at h1
            have := hback i j h1.2 h2
            rw [hl j]
            simp; omega
          have := hanc i k hio (by omega) hki listed down (ready_direct hi)
          rw [hkf] at this
          cases this
        · exact hki.symm
      subst hik
      have hdrop : ops.toList.drop i = ops[i] :: ops.toList.drop (i + 1) := by
        rw [List.drop_eq_getElem_cons (by simpa using hk)]
        simp
      rw [hdrop] at h
      have hnext : ∀ a' w', wpListIn (Fr ro) 0 P ops Q (ops.toList.drop (i + 1)) a' w' → wpAnyIn (Fr ro) 0 P .any ops Q fuel (listed.setIfInBounds i true) a' w' := by
        intro a' w' h'
        refine ih (i + 1) _ a' w' (by omega) (by simpa using hs) ?_ ?_ h'
        · intro j
          by_cases hj : j = i
          · subst hj
            simp [Array.getD_eq_getD_getElem?, hs, hk]
          · rw [getD_set_ne false (Ne.symm hj), hl j]
            congr 1
            simp only [eq_iff_iff]
            omega
        · have := unl_set (i := i) (listed := listed) (by omega) (by rw [getD_true_of_lt (by omega)]; exact hkf)
          omega
      unfold wpOpIn
      simp only [ho]
      unfold wpListIn at h
      split at h
      · rename_i hw
        rw [if_pos hw]
        exact Oper.wpIn_mono hnext h
      · rename_i hw
        rw [if_neg hw]
        exact ⟨h.1, hnext _ _ h.2⟩
    · refine ⟨fun _ => ?_, fun i hi => ?_⟩
      · rw [List.drop_of_length_le (by simpa using hk)] at h
        exact h
      · exfalso
        obtain ⟨h0, o, ho, _⟩ := mem_ready.1 hi
        have hio : i < ops.size := (Array.getElem?_eq_some_iff.1 ho).1
        rw [getD_true_of_lt (by omega), hl i] at h0
        simp [hio] at h0
        omega

end

section
variable {P : Program} [Lib P] [Facts P] {C : ACalls} {gl : Tr Nat} {N : Nat} {ds : List Deferred} {ro : Option Nat} {ops : Array Oper} {m : Nat} {slP sl0 sl1 : Sl} {L : List Nat} {B : Nat → AS} {vs : List Value} {φ0 : Emb} {w0 : World} {a0 : Act}

theorem free_run {Q : Exit → Act → World → Prop} (hok : freeOkL ops L m N = true) (hcall : CallOk P gl C) (hfx : Fx φ0 B vs m) (hr0 : Rel φ0 (B 0) w0) (hg0 : GRel gl φ0) (hs0 : SR N ds φ0 sl0 a0) (hdead : (B m).n ≤ dead)
    (hP : aputs N ops (fun _ => poison) (List.range m) sl0 = some slP) (h1 : aputs N ops (fun j => vs.getD j poison) (List.range m) slP = some sl1)
    (hl : ∀ i o, i < m → ops[i]? = some o → Link P C gl N ops L m slP i o (vs.take i) (vs.getD i poison) (B i) (B (i + 1)))
    (htail : ∀ φ a w, SR N ds φ sl1 a → Step φ0 (B 0) w0 φ (B m) w → wpListIn (Fr ro) 0 P ops Q (ops.toList.drop m) a w) :
    ∀ (fuel : Nat) (listed : Array Bool) (a : Act) (w : World) (φ : Emb), DInv gl N ds ops m B vs φ0 w0 a0 φ listed a w → (∀ j ∈ L, j < m → listed.getD j false = true) → unl listed ≤ fuel → wpAnyIn (Fr ro) 0 P .any ops Q fuel listed a w := by
  obtain ⟨hm, hsel, hdst, hlt, hneed, hback, hanc⟩ := freeOkL_spec hok
  have tail : ∀ (fuel : Nat) (listed : Array Bool) (a : Act) (w : World) (φ : Emb), DInv gl N ds ops m B vs φ0 w0 a0 φ listed a w → unl listed ≤ fuel → (∀ i, i < m → listed.getD i false = true) → wpAnyIn (Fr ro) 0 P .any ops Q fuel listed a w := by
    intro fuel listed a w φ hI hf hdone
    refine tail_phaseI hback (fun i j hi hj hji => (hanc i j hi (by omega) hji).resolve_left (by omega)) fuel m listed a w (Nat.le_refl _) hI.size (fun i => ?_) hf ?_
    · by_cases hi : i < m
      · rw [hdone i hi]; simp; omega
      · rw [hI.tailoff i (by omega)]; simp; omega
    · obtain ⟨q1, q2⟩ := hI.done hfx hr0 hs0 hdone hP h1
      exact htail φ a w q1 q2
  intro fuel
  induction fuel with
  | zero =>
    intro listed a w φ hI hLl hf
    refine tail 0 listed a w φ hI hf fun i hi => ?_
    cases h : listed.getD i false with
    | true => rfl
    | false =>
      exfalso
      have := unl_set (i := i) (listed := listed) (by have := hI.size; omega) (by rw [getD_true_of_lt (by have := hI.size; omega)]; exact h)
      omega
  | succ fuel ih =>
    intro listed a w φ hI hLl hf
    by_cases hdone : ∀ i, i < m → listed.getD i false = true
    · exact tail (fuel + 1) listed a w φ hI hf hdone
    · obtain ⟨i0, hi0⟩ := Classical.not_forall.1 hdone
      obtain ⟨hi0m, hi0f⟩ := Classical.not_imp.1 hi0
      have hi0f : listed.getD i0 false = false := by simpa using hi0f
      have hready : Region.ready .any ops listed ≠ [] := by
        have key : ∀ n i, i < n → i < m → listed.getD i false = false → ∃ k, k ∈ Region.ready .any ops listed := by
          intro n
          induction n with
          | zero => intro i hi; omega
          | succ n ihn =>
            intro i hi him hif
            by_cases hp : ∀ k, direct ops i k = true → listed.getD k false = true
            · refine ⟨i, mem_ready.2 ⟨by rw [getD_true_of_lt (by have := hI.size; omega)]; exact hif, ops[i]'(by omega), Array.getElem?_eq_getElem _, fun e he hb => hp _ ?_⟩⟩
              have ho : ops[i]? = some (ops[i]'(by omega)) := Array.getElem?_eq_getElem _
              simp only [direct, ho]
              exact Array.any_eq_true'.2 ⟨e, he, by simp [hb]⟩
            · obtain ⟨k, hk⟩ := Classical.not_forall.1 hp
              obtain ⟨hd, hkf⟩ := Classical.not_imp.1 hk
              have := hback i k (by omega) hd
              exact ihn k (by omega) (by omega) (by simpa using hkf)
        obtain ⟨k, hk⟩ := key (i0 + 1) i0 (by omega) hi0m hi0f
        intro h
        rw [h] at hk
        cases hk
      refine ⟨fun h0 => absurd h0 hready, fun i hi => ?_⟩
      obtain ⟨hun, o, ho, _⟩ := mem_ready.1 hi
      have hio : i < ops.size := (Array.getElem?_eq_some_iff.1 ho).1
      have hlf : listed.getD i false = false := by rw [← getD_true_of_lt (by have := hI.size; omega)]; exact hun
      have him : i < m := by
        rcases Nat.lt_or_ge i m with h | h
        · exact h
        · exfalso
          rcases hanc i i0 hio h (by omega) with ⟨hiL, _⟩ | ha
          · have := hLl i0 hiL hi0m
            rw [hi0f] at this
            cases this
          · have := ha listed hI.down (ready_direct hi)
            rw [hi0f] at this
            cases this
      obtain ⟨sl, hsl, hlk⟩ := hl i o him ho
      have hlk' : ∃ A1, aval P C gl ops o sl { B i with low := (B i).n } = some (vs.getD i poison, A1) ∧ (B i).n ≤ A1.low ∧ B (i + 1) = { A1 with low := (B i).low } := by
        rcases hlk with ⟨hiL, _⟩ | ⟨_, h⟩
        · have := hLl i hiL him
          rw [hlf] at this
          cases this
        · exact h
      obtain ⟨A1, hv, hlow, hB1⟩ := hlk'
      have hhere := hI.here hfx hr0 hdead him
      have hext : ∀ b e, φ0 b = some e → restrict φ (B i).n b = some e := fun b e hb => by
        have hb0 := hr0.lt hb
        have := hfx.nle' (Nat.zero_le i) (by omega)
        unfold restrict
        rw [if_pos (by omega), hI.old b hb0]
        exact hb
      have hslots : ∀ t v, sl.get t = some v → VRel (restrict φ (B i).n) v (a.tmps.getD t undef) := by
        intro t v htv
        rcases aputs_spec _ _ _ hsl t v htv with ⟨j, hj, hd, rfl⟩ | ⟨hnn, hg1⟩
        · have hdj := hneed i o him ho j hj
          have hji := hback i j hio hdj
          have hlj := ready_direct hi j hdj
          have hval := hI.val j t (by omega) hlj hd
          have e1 : (vs.take i).getD j poison = vs.getD j poison := by
            simp only [List.getD_eq_getElem?_getD, List.getElem?_take, if_pos hji]
          rw [e1]
          exact hval.mono (restrict_mono (hfx.nle' (by omega) (by omega)))
        · rcases aputs_spec _ _ _ hP t v hg1 with ⟨j, hj, hd, rfl⟩ | ⟨hnm, hg2⟩
          · exact .poison _
          · rw [hI.other t fun j hj _ => hnm j (List.mem_range.2 hj)]
            exact (hs0.get t v hg2).mono hext
      unfold wpOpIn
      simp only [ho]
      refine wp_aval hcall (hhere.lower (B i).n) (hg0.mono hext) hslots hv fun φ' v' w' hvv hstep => ?_
      obtain ⟨φ2, hI2⟩ := hI.step hfx hr0 him hm ho hlf (ready_direct hi) hdst hlt hlow hB1 hvv hstep
      exact ih _ _ _ φ2 hI2 (fun j hj hjm => by
        by_cases hji : j = i
        · subst hji
          have := hI.size
          simp [Array.getD_eq_getD_getElem?, show j < listed.size by omega]
        · rw [getD_set_ne false (Ne.symm hji)]
          exact hLl j hj hjm) (by
        have := unl_set (i := i) (listed := listed) (by have := hI.size; omega) hun
        omega)

end

section
variable {P : Program} [Lib P] [Facts P] {C : ACalls} {gl : Tr Nat} {N : Nat} {ds : List Deferred} {ro : Option Nat} {ops : Array Oper} {m : Nat} {slP sl0 : Sl} {L : List Nat} {B : Nat → AS} {vs : List Value} {φ0 : Emb} {w0 : World} {a0 : Act}

omit [Lib P] [Facts P] in
theorem DInv.stepPure {φ : Emb} {listed : Array Bool} {a : Act} {w : World} (hI : DInv gl N ds ops m B vs φ0 w0 a0 φ listed a w) {i : Nat} {o : Oper} (hi : i < m) (hm : m ≤ ops.size) (ho : ops[i]? = some o) (hun : listed.getD i false = false)
    (hdn : ∀ k, direct ops i k = true → listed.getD k false = true) (hdst : ∀ i j, i < m → j < m → i ≠ j → ∀ t, dstOf ops i = some t → dstOf ops j ≠ some t) (hlt : ∀ i t, i < m → dstOf ops i = some t → t < N)
    (hB1 : B (i + 1) = B i) {v' : Value} (hv : VRel (restrict φ (B i).n) (vs.getD i poison) v') : DInv gl N ds ops m B vs φ0 w0 a0 φ (listed.setIfInBounds i true) (a.put o.dst v') w := by
  have hdi : dstOf ops i = o.dst := by simp [dstOf, ho]
  have hset : ∀ j, (listed.setIfInBounds i true).getD j false = true ↔ j = i ∨ listed.getD j false = true := by
    intro j
    by_cases hj : j = i
    · subst hj
      have := hI.size
      simp [Array.getD_eq_getD_getElem?, show j < listed.size by omega]
    · rw [getD_set_ne false (Ne.symm hj)]
      simp [hj]
  refine ⟨by simpa using hI.size, ?_, ?_, by rw [Act.defers_put]; exact hI.defers, by rw [Act.size_put]; exact hI.tsize, hI.rel, hI.old, ?_, ?_, hI.new, hI.cross, hI.keep, hI.hsize, hI.os, hI.tape, hI.output, hI.drawn, ?_, ?_⟩
  · intro j k hj hd
    rw [hset] at hj ⊢
    rcases hj with rfl | hj
    · exact .inr (hdn k hd)
    · exact .inr (hI.down j k hj hd)
  · intro j hj
    rw [getD_set_ne false (by omega)]
    exact hI.tailoff j hj
  · intro b e h0 hb
    obtain ⟨j, hj, hlj, hoj⟩ := hI.mapped b e h0 hb
    exact ⟨j, hj, (hset j).2 (.inr hlj), hoj⟩
  · intro j b hj hl hoj
    rcases (hset j).1 hl with rfl | hl
    · exfalso
      unfold own at hoj
      rw [hB1] at hoj
      omega
    · exact hI.total j b hj hl hoj
  · intro t h
    have hti : o.dst ≠ some t := fun hh => h i hi ((hset i).2 (.inl rfl)) (hdi.trans hh)
    have : (a.put o.dst v').tmps.getD t undef = a.tmps.getD t undef := by
      rcases Nat.lt_or_ge t a.tmps.size with htN | htN
      · rw [Act.get_put _ _ _ _ htN, if_neg hti]
      · simp [Array.getD_eq_getD_getElem?, Array.getElem?_eq_none htN, Array.getElem?_eq_none (show (a.put o.dst v').tmps.size ≤ t by rw [Act.size_put]; exact htN)]
    rw [this]
    exact hI.other t fun j hj hl => h j hj ((hset j).2 (.inr hl))
  · intro j t hj hl hd
    by_cases hji : j = i
    · subst hji
      have htN : t < N := hlt j t hj hd
      have : (a.put o.dst v').tmps.getD t undef = v' := by
        rw [Act.get_put _ _ _ _ (by rw [hI.tsize]; exact htN), if_pos (hdi.symm.trans hd)]
      rw [this, hB1]
      exact hv
    · have hlj := ((hset j).1 hl).resolve_left hji
      have htN : t < N := hlt j t hj hd
      have : (a.put o.dst v').tmps.getD t undef = a.tmps.getD t undef := by
        rw [Act.get_put _ _ _ _ (by rw [hI.tsize]; exact htN), if_neg]
        intro hh
        exact hdst i j hi hj (Ne.symm hji) t (hdi.trans hh) hd
      rw [this]
      exact hI.val j t hj hlj hd

theorem take_run {Q : Exit → Act → World → Prop} (hok : freeOkL ops L m N = true) (hF : FactsOk P) (hfx : Fx φ0 B vs m) (hr0 : Rel φ0 (B 0) w0) (hg0 : GRel gl φ0) (hs0 : SR N ds φ0 sl0 a0)
    (hP : aputs N ops (fun _ => poison) (List.range m) sl0 = some slP) (hQp : ∀ c a w, ¬ Q (.panic c) a w)
    (hl : ∀ i o, i < m → ops[i]? = some o → Link P C gl N ops L m slP i o (vs.take i) (vs.getD i poison) (B i) (B (i + 1)))
    (hfin : ∀ (fuel : Nat) (listed : Array Bool) (a : Act), DInv gl N ds ops m B vs φ0 w0 a0 φ0 listed a w0 → (∀ j ∈ L, j < m → listed.getD j false = true) → unl listed ≤ fuel → wpAnyIn (Fr ro) 0 P .any ops Q fuel listed a w0) :
    ∀ (r : List Nat) (fuel : Nat) (listed : Array Bool) (a : Act), (r ≠ [] → ro = none) → takeOk ops r listed = true → (∀ i ∈ r, i ∈ L ∧ i < m) → (∀ j ∈ L, j < m → listed.getD j false = true ∨ j ∈ r) → DInv gl N ds ops m B vs φ0 w0 a0 φ0 listed a w0 →
      unl listed ≤ fuel → wpAnyIn (Fr ro) 0 P .any ops Q fuel listed a w0 := by
  obtain ⟨hm, hsel, hdst, hlt, hneed, hback, hanc⟩ := freeOkL_spec hok
  intro r
  induction r with
  | nil =>
    intro fuel listed a _ _ _ hL hI hf
    exact hfin fuel listed a hI (fun j hj hjm => (hL j hj hjm).resolve_right (by simp)) hf
  | cons i r ih =>
    intro fuel listed a hro hto hr hL hI hf
    have hron : ro = none := hro (by simp)
    obtain ⟨hiL, him⟩ := hr i List.mem_cons_self
    simp only [takeOk, Bool.and_eq_true] at hto
    obtain ⟨⟨hready, hfree⟩, hpk, hto⟩ := hto
    have hi : i ∈ Region.ready .any ops listed := by simpa using hready
    obtain ⟨hun, o, ho, _⟩ := mem_ready.1 hi
    have hio : i < ops.size := (Array.getElem?_eq_some_iff.1 ho).1
    have hlf : listed.getD i false = false := by rw [← getD_true_of_lt (by have := hI.size; omega)]; exact hun
    rw [ho] at hpk
    simp only at hpk
    have hunl := unl_set (i := i) (listed := listed) (by have := hI.size; omega) hun
    cases fuel with
    | zero => omega
    | succ fuel =>
      obtain ⟨sl, hsl, hlk⟩ := hl i o him ho
      have hlk' : pureVal P (evs gl sl) o = some (vs.getD i poison) ∧ B (i + 1) = B i := by
        rcases hlk with ⟨_, h⟩ | ⟨hn, _⟩
        · exact h
        · exact absurd hiL hn
      obtain ⟨hpv, hB1⟩ := hlk'
      have hext : ∀ b e, φ0 b = some e → restrict φ0 (B i).n b = some e := fun b e hb => by
        have hb0 := hr0.lt hb
        have := hfx.nle' (Nat.zero_le i) (by omega)
        unfold restrict
        rw [if_pos (by omega)]
        exact hb
      have hslots : ∀ t v, sl.get t = some v → VRel (restrict φ0 (B i).n) v (a.tmps.getD t undef) := by
        intro t v htv
        rcases aputs_spec _ _ _ hsl t v htv with ⟨j, hj, hd, rfl⟩ | ⟨hnn, hg1⟩
        · have hdj := hneed i o him ho j hj
          have hji := hback i j hio hdj
          have hlj := ready_direct hi j hdj
          have hval := hI.val j t (by omega) hlj hd
          have e1 : (vs.take i).getD j poison = vs.getD j poison := by
            simp only [List.getD_eq_getElem?_getD, List.getElem?_take, if_pos hji]
          rw [e1]
          exact hval.mono (restrict_mono (hfx.nle' (by omega) (by omega)))
        · rcases aputs_spec _ _ _ hP t v hg1 with ⟨j, hj, hd, rfl⟩ | ⟨hnm, hg2⟩
          · exact .poison _
          · rw [hI.other t fun j hj _ => hnm j (List.mem_range.2 hj)]
            exact (hs0.get t v hg2).mono hext
      obtain ⟨v', hrun, hv⟩ := pureVal_run hF (evs_rel (hg0.mono hext) hslots) hpv
      have hwant : Region.wanted o (yielded ops a.tmps) = true := by
        unfold pureKind at hpk
        unfold Region.wanted
        cases hg : o.guard with
        | none => rfl
        | some g => rw [hg] at hpk; simp at hpk
      have habout : ∀ w, o.about P w a.eval = none := by
        intro w
        unfold Oper.about
        unfold pureKind at hpk
        cases hop : o.op <;> simp only [hop, Bool.and_false, Bool.false_eq_true] at hpk ⊢
      have hyf : YieldsFenced P ops o v' a := ⟨.inl ⟨hwant, hrun⟩, habout⟩
      refine wpAnyIn_take (F := Fr ro) (by rw [hron]; rfl) ho hsel hfree hready (fun c a w h => absurd h (hQp c _ w)) hyf ?_
      refine ih fuel _ _ (fun _ => hron) hto (fun k hk => hr k (List.mem_cons_of_mem _ hk)) (fun j hj hjm => ?_) (hI.stepPure him hm ho hlf (ready_direct hi) hdst hlt hB1 hv) (by omega)
      by_cases hji : j = i
      · subst hji
        refine .inl ?_
        have := hI.size
        simp [Array.getD_eq_getD_getElem?, show j < listed.size by omega]
      · rw [getD_set_ne false (Ne.symm hji)]
        rcases hL j hj hjm with h | h
        · exact .inl h
        · rcases List.mem_cons.1 h with rfl | h
          · exact absurd rfl hji
          · exact .inr h

end

omit [Sig] in
theorem planOf_spec {ops : Array Oper} {N : Nat} {rnd : Bool} {L : List Nat} {m : Nat} (h : planOf ops N rnd = some (L, m)) :
    freeOkL ops L m N = true ∧ takeOk ops L (Array.replicate ops.size false) = true ∧ (∀ i ∈ L, i < m) ∧ (rnd = true → L = []) := by
  unfold planOf at h
  simp only at h
  generalize hm : mGuessGo (maskOf (bif rnd then [] else takeL ops)) ops.toList 0 [] 0 = m' at h
  generalize hL : (bif rnd then [] else takeL ops).filter (fun i => Nat.blt i m') = L' at h
  cases hb : (freeOkL ops L' m' N && takeOk ops L' (Array.replicate ops.size false)) with
  | false => rw [hb] at h; cases h
  | true =>
    rw [hb] at h
    cases h
    simp only [Bool.and_eq_true] at hb
    refine ⟨hb.1, hb.2, fun i hi => ?_, fun hr => ?_⟩
    · rw [← hL] at hi
      exact Nat.blt_eq.mp (List.mem_filter.1 hi).2
    · rw [← hL, hr]; rfl

section
variable {P : Program} [Lib P] [Facts P] {C : ACalls} {gl : Tr Nat} {N : Nat}

theorem wp_adrawTo (hmix : P.follows .mixedOrders = true) (hcall : CallOk P gl C) {ro : Option Nat} {ds : List Deferred} {Q : Exit → Act → World → Prop} {id : Nat} {ops : Array Oper} {sl sl' : Sl} {A A' : AS} {r : List Oper} {φ : Emb} {w : World} {a : Act} (hr : Rel φ A w) (hg : GRel gl φ) (hs : SR N ds φ sl a) {rnd : Bool} (hro : rnd = false → ro = none) (hQp : ∀ c a w, ¬ Q (.panic c) a w)
    (h : adrawTo P C gl N rnd ops sl A = some (sl', A', r)) (hQ : ∀ φ' a' w', SR N ds φ' sl' a' → Step φ A w φ' A' w' → wpListIn (Fr ro) 0 P ops Q r a' w') : (Code.region id ops true).wpIn (Fr ro) 0 P Q a w := by
  unfold adrawTo at h
  split at h
  · rename_i L m hmo
    obtain ⟨hok, htok, hLm, hLr⟩ := planOf_spec hmo
    have hmle : m ≤ ops.size := (freeOkL_spec hok).1
    split at h
    · rename_i slP hP
      split at h
      · rename_i vs A1 hF
        cases hb : Nat.ble A1.n dead with
        | false => rw [hb] at h; cases h
        | true =>
          rw [hb, cond_true] at h
          split at h
          · rename_i sl1 h1
            cases h
            obtain ⟨B, b0, b1, b2, b3, b4⟩ := chain_of _ 0 [] _ _ _ rfl hF
            have hlen : (ops.toList.take m).length = m := by simp; omega
            rw [hlen] at b1
            subst b0
            have hl : ∀ i o, i < m → ops[i]? = some o → Link P C gl N ops L m slP i o (vs.take i) (vs.getD i poison) (B i) (B (i + 1)) := by
              intro i o hi ho
              have := b4 i o (by rw [List.getElem?_take, if_pos hi]; simpa using ho)
              simpa using this
            have hr0 : Rel φ (B 0) { w with drawn := w.drawn + 1 } := (Step.drawnTo hr (w.drawn + 1)).rel
            obtain ⟨_, _, _, _, hneed, hback, _⟩ := freeOkL_spec hok
            have hfx : Fx φ B vs m := fx_of hcall hr0 hg rfl hmle (fun t v hv => ⟨_, hs.get t v hv⟩) hP (fun i o hi ho j hj => hback i j (by omega) (hneed i o hi ho j hj)) hl
            refine wpIn_region_any hmix ?_
            refine take_run hok hcall.facts hfx hr0 hg hs hP hQp hl (fun fuel listed a2 hI2 hLl hf2 => free_run hok hcall hfx hr0 hg hs (by rw [b1]; exact Nat.ble_eq.mp hb) hP h1 hl (fun φ1 a1 w1 q1 q2 => ?_) fuel listed a2 _ φ hI2 hLl hf2) L ops.size _ a ?_ htok (fun i hi => ⟨hi, hLm i hi⟩) (fun j hj _ => .inr hj) ?_ ?_
            · rw [b1] at q2
              exact hQ φ1 a1 w1 q1 (Step.trans hr (Step.drawnTo hr (w.drawn + 1)) q2)
            · intro hne
              refine hro ?_
              cases hr2 : rnd with
              | false => rfl
              | true => exact absurd (hLr hr2) hne
            · have hf : ∀ i, (Array.replicate ops.size false).getD i false = false := fun i => by
                rw [Array.getD_eq_getD_getElem?, Array.getElem?_replicate]
                split <;> rfl
              have hlt0 : ∀ b e, φ b = some e → ¬ (B 0).n ≤ b := fun b e hb => by have := hr0.lt hb; omega
              refine ⟨by simp, fun i j hi => absurd hi (by rw [hf]; simp), fun i _ => hf i, hs.defers, hs.size, ?_, fun _ _ => rfl, fun b e h0 hb => absurd h0 (hlt0 b e hb), fun j b _ hl => absurd hl (by rw [hf]; simp),
                fun b e h0 hb => absurd h0 (hlt0 b e hb), fun j b e b' e' hj ho _ hb => ?_, fun _ _ _ => rfl, Nat.le_refl _, rfl, rfl, rfl, Nat.le_refl _, fun _ _ => rfl, fun i t _ hl => absurd hl (by rw [hf]; simp)⟩
              · obtain ⟨ψ, w', g1, _⟩ := hfx.ex m (Nat.le_refl _)
                refine ⟨g1.wf, fun b e hb => ?_, fun b e k b' e' k' hb hb' hk hk' hne => ?_, fun b e k b' e' k' hb hb' hk hk' hf hblk => ?_, hr0.imm⟩
                · obtain ⟨k, hk, q1, q2⟩ := hr0.dom b e hb
                  exact ⟨k, by rw [hfx.same' (Nat.zero_le m) (Nat.le_refl _) b (hr0.lt hb)]; exact hk, q1, q2⟩
                · rw [hfx.same' (Nat.zero_le m) (Nat.le_refl _) b (hr0.lt hb)] at hk
                  rw [hfx.same' (Nat.zero_le m) (Nat.le_refl _) b' (hr0.lt hb')] at hk'
                  exact hr0.apart b e k b' e' k' hb hb' hk hk' hne
                · rw [hfx.same' (Nat.zero_le m) (Nat.le_refl _) b (hr0.lt hb)] at hk
                  rw [hfx.same' (Nat.zero_le m) (Nat.le_refl _) b' (hr0.lt hb')] at hk'
                  exact hr0.along b e k b' e' k' hb hb' hk hk' hf hblk
              · exfalso
                have := hfx.nle' (Nat.zero_le j) (by omega)
                exact hlt0 b e hb (Nat.le_trans this ho.1)
            · unfold unl
              exact Nat.le_trans List.count_le_length (by simp)
          · cases h
      · cases h
    · cases h
  · cases h

theorem wp_adraw (hmix : P.follows .mixedOrders = true) (hcall : CallOk P gl C) {ro : Option Nat} {ds : List Deferred} {Q : Exit → Act → World → Prop} {id : Nat} {ops : Array Oper} {sl sl' : Sl} {A A' : AS} {φ : Emb} {w : World} {a : Act} (hr : Rel φ A w) (hg : GRel gl φ) (hs : SR N ds φ sl a) {rnd : Bool} (hro : rnd = false → ro = none) (hQp : ∀ c a w, ¬ Q (.panic c) a w)
    (h : adraw P C gl N rnd ops sl A = some (sl', A')) (hQ : ∀ φ' a' w', SR N ds φ' sl' a' → Step φ A w φ' A' w' → Q .normal a' w') : (Code.region id ops true).wpIn (Fr ro) 0 P Q a w := by
  unfold adraw at h
  split at h
  · rename_i sl1 A1 r h1
    refine wp_adrawTo hmix hcall hr hg hs hro hQp h1 fun φ1 a1 w1 q1 q2 => ?_
    refine wpList_aregion hcall _ _ _ _ _ _ _ _ q2.rel (hg.mono (q2.ext hr)) q1 h fun φ2 a2 w2 r1 r2 => ?_
    exact hQ φ2 a2 w2 r1 (Step.trans hr q2 r2)
  · cases h

end
end AE
end Go.Proofs.YtblhndlmgibljaaDoor

/- AE: a region that draws its order, by all its orders: what touches no memory is taken first, and every order of the rest comes to the same state. -/
namespace Go.Proofs.YtblhndlmgibljaaDoor
open Go
namespace AE

/- EQUALITY OF STATES -/

mutual
def eqA : Value → Value → Bool
  | .bool a, .bool b => a == b
  | .int k n, .int k' n' => decide (k = k') && decide (n = n')
  | .complex k a b, .complex k' a' b' => decide (k = k') && (Nat.beq a a' && Nat.beq b b')
  | .string s, .string t => s.data.toList == t.data.toList
  | .pointer none, .pointer none => true
  | .pointer (some ⟨b, o, none⟩), .pointer (some ⟨b', o', none⟩) => Nat.beq b b' && Nat.beq o o'
  | .slice none l c, .slice none l' c' => Nat.beq l l' && Nat.beq c c'
  | .slice (some ⟨b, o, none⟩) l c, .slice (some ⟨b', o', none⟩) l' c' => (Nat.beq b b' && Nat.beq o o') && (Nat.beq l l' && Nat.beq c c')
  | .map none, .map none => true
  | .map (some a), .map (some b) => Nat.beq a b
  | .nilFunc, .nilFunc => true
  | .nilIface, .nilIface => true
  | .func (.func f) ⟨a⟩ ⟨b⟩, .func (.func g) ⟨a'⟩ ⟨b'⟩ => Nat.beq f g && (eqAL a a' && eqAL b b')
  | .func (.yield f) ⟨a⟩ ⟨b⟩, .func (.yield g) ⟨a'⟩ ⟨b'⟩ => Nat.beq f g && (eqAL a a' && eqAL b b')
  | .iface t v, .iface t' v' => Nat.beq t t' && eqA v v'
  | .agg ⟨l⟩, .agg ⟨l'⟩ => eqAL l l'
  | .tuple ⟨l⟩, .tuple ⟨l'⟩ => eqAL l l'
  | _, _ => false
def eqAL : List Value → List Value → Bool
  | [], [] => true
  | v :: r, v' :: r' => eqA v v' && eqAL r r'
  | _, _ => false
end

mutual
theorem eqA_sound : ∀ (a b : Value), eqA a b = true → a = b := by
  intro a b h
  unfold eqA at h
  split at h <;> try (simp only [Bool.and_eq_true, decide_eq_true_eq] at h)
  · rw [eq_of_beq h]
  · rw [h.1, h.2]
  · rw [h.1, Nat.eq_of_beq_eq_true h.2.1, Nat.eq_of_beq_eq_true h.2.2]
  · rename_i s t
    have := eq_of_beq h
    obtain ⟨⟨s⟩⟩ := s
    obtain ⟨⟨t⟩⟩ := t
    simp only at this
    rw [this]
  · rfl
  · rw [Nat.eq_of_beq_eq_true h.1, Nat.eq_of_beq_eq_true h.2]
  · rw [Nat.eq_of_beq_eq_true h.1, Nat.eq_of_beq_eq_true h.2]
  · rw [Nat.eq_of_beq_eq_true h.1.1, Nat.eq_of_beq_eq_true h.1.2, Nat.eq_of_beq_eq_true h.2.1, Nat.eq_of_beq_eq_true h.2.2]
  · rfl
  · rw [Nat.eq_of_beq_eq_true h]
  · rfl
  · rfl
  · rw [Nat.eq_of_beq_eq_true h.1, eqAL_sound _ _ h.2.1, eqAL_sound _ _ h.2.2]
  · rw [Nat.eq_of_beq_eq_true h.1, eqAL_sound _ _ h.2.1, eqAL_sound _ _ h.2.2]
  · rename_i t v t' v'
    rw [Nat.eq_of_beq_eq_true h.1, eqA_sound v v' h.2]
  · rw [eqAL_sound _ _ h]
  · rw [eqAL_sound _ _ h]
  · cases h
theorem eqAL_sound : ∀ (a b : List Value), eqAL a b = true → a = b
  | [], [], _ => rfl
  | v :: r, v' :: r', h => by
    unfold eqAL at h
    simp only [Bool.and_eq_true] at h
    rw [eqA_sound v v' h.1, eqAL_sound r r' h.2]
  | [], _ :: _, h => by simp [eqAL] at h
  | _ :: _, [], h => by simp [eqAL] at h
end

def eqTrO {α : Type} (f : α → α → Bool) : Option α → Option α → Bool
  | none, none => true
  | some a, some b => f a b
  | _, _ => false

def eqTr {α : Type} (f : α → α → Bool) : Tr α → Tr α → Bool
  | .nil, .nil => true
  | .node v l r, .node v' l' r' => eqTrO f v v' && (eqTr f l l' && eqTr f r r')
  | _, _ => false

theorem eqTr_sound {α : Type} {f : α → α → Bool} (hf : ∀ a b, f a b = true → a = b) : ∀ (a b : Tr α), eqTr f a b = true → a = b
  | .nil, .nil, _ => rfl
  | .nil, .node _ _ _, h => by cases h
  | .node _ _ _, .nil, h => by cases h
  | .node v l r, .node v' l' r', h => by
    unfold eqTr at h
    simp only [Bool.and_eq_true] at h
    rw [eqTr_sound hf l l' h.2.1, eqTr_sound hf r r' h.2.2]
    have h1 := h.1
    cases v with
    | none => cases v' with
      | none => rfl
      | some b => cases h1
    | some a => cases v' with
      | none => cases h1
      | some b => rw [hf a b h1]

def eqEnt (a b : Ent) : Bool := eqA a.key b.key && (eqA a.val b.val && Nat.beq a.born b.born)
def eqEnts : List Ent → List Ent → Bool
  | [], [] => true
  | a :: r, b :: r' => eqEnt a b && eqEnts r r'
  | _, _ => false

theorem eqEnts_sound : ∀ (a b : List Ent), eqEnts a b = true → a = b
  | [], [], _ => rfl
  | [], _ :: _, h => by cases h
  | _ :: _, [], h => by cases h
  | ⟨k, v, n⟩ :: r, ⟨k', v', n'⟩ :: r', h => by
    unfold eqEnts eqEnt at h
    simp only [Bool.and_eq_true] at h
    rw [eqA_sound _ _ h.1.1, eqA_sound _ _ h.1.2.1, Nat.eq_of_beq_eq_true h.1.2.2, eqEnts_sound r r' h.2]

def eqObj : AObj → AObj → Bool
  | .cells c, .cells c' => eqAL c c'
  | .map es cl, .map es' cl' => eqEnts es es' && Nat.beq cl cl'
  | .oth (.siter s p), .oth (.siter s' p') => s.data.toList == s'.data.toList && Nat.beq p p'
  | .oth .deferred, .oth .deferred => true
  | .oth .gone, .oth .gone => true
  | _, _ => false

theorem eqObj_sound {a b : AObj} (h : eqObj a b = true) : a = b := by
  unfold eqObj at h
  split at h <;> try (simp only [Bool.and_eq_true] at h)
  · rw [eqAL_sound _ _ h]
  · rw [eqEnts_sound _ _ h.1, Nat.eq_of_beq_eq_true h.2]
  · rename_i s p s' p'
    have := eq_of_beq h.1
    obtain ⟨⟨s⟩⟩ := s
    obtain ⟨⟨s'⟩⟩ := s'
    simp only at this
    rw [this, Nat.eq_of_beq_eq_true h.2]
  · rfl
  · rfl
  · cases h

def eqBlk (a b : ABlk) : Bool := eqObj a.obj b.obj && ((Nat.beq a.fam b.fam && Nat.beq a.pos b.pos) && ((Nat.beq a.stride b.stride && Nat.beq a.ty b.ty) && a.ro == b.ro))

theorem eqBlk_sound {a b : ABlk} (h : eqBlk a b = true) : a = b := by
  obtain ⟨o, f, p, s, r, t⟩ := a
  obtain ⟨o', f', p', s', r', t'⟩ := b
  unfold eqBlk at h
  simp only [Bool.and_eq_true] at h
  obtain ⟨h1, ⟨h2, h3⟩, ⟨h4, h5⟩, h6⟩ := h
  rw [eqObj_sound h1, Nat.eq_of_beq_eq_true h2, Nat.eq_of_beq_eq_true h3, Nat.eq_of_beq_eq_true h4, Nat.eq_of_beq_eq_true h5, eq_of_beq h6]

def eqNats : List Nat → List Nat → Bool
  | [], [] => true
  | a :: r, b :: r' => Nat.beq a b && eqNats r r'
  | _, _ => false

theorem eqNats_sound : ∀ (a b : List Nat), eqNats a b = true → a = b
  | [], [], _ => rfl
  | [], _ :: _, h => by cases h
  | _ :: _, [], h => by cases h
  | a :: r, b :: r', h => by
    unfold eqNats at h
    simp only [Bool.and_eq_true] at h
    rw [Nat.eq_of_beq_eq_true h.1, eqNats_sound r r' h.2]

def eqSt (x y : Sl × AS) : Bool := eqTr eqA x.1 y.1 && ((eqTr eqBlk x.2.bl y.2.bl && eqTr eqNats x.2.mem y.2.mem) && (Nat.beq x.2.n y.2.n && Nat.beq x.2.low y.2.low))

theorem eqSt_sound {x y : Sl × AS} (h : eqSt x y = true) : x = y := by
  obtain ⟨sl, bl, n, mem, low⟩ := x
  obtain ⟨sl', bl', n', mem', low'⟩ := y
  unfold eqSt at h
  simp only [Bool.and_eq_true] at h
  obtain ⟨h1, ⟨h2, h3⟩, h4, h5⟩ := h
  rw [eqTr_sound eqA_sound _ _ h1, eqTr_sound (fun _ _ => eqBlk_sound) _ _ h2, eqTr_sound eqNats_sound _ _ h3, Nat.eq_of_beq_eq_true h4, Nat.eq_of_beq_eq_true h5]

/- ALL ORDERS -/

def aAny (P : Program) [Lib P] [Facts P] (C : ACalls) (gl : Tr Nat) (N : Nat) (ops : Array Oper) : Nat → Array Bool → Sl → AS → Option (Sl × AS)
  | 0, listed, sl, A => match Region.ready .any ops listed with
    | [] => some (sl, A)
    | _ :: _ => none
  | f + 1, listed, sl, A =>
    let go := fun i => match ops[i]? with
      | some o => match astep P C gl N ops o sl A with
        | some (sl1, A1) => aAny P C gl N ops f (listed.setIfInBounds i true) sl1 A1
        | none => none
      | none => none
    match Region.ready .any ops listed with
    | [] => some (sl, A)
    | i :: r => match go i with
      | some x => match r.all (fun j => match go j with | some y => eqSt x y | none => false) with
        | true => some x
        | false => none
      | none => none

def atake (P : Program) [Facts P] (gl : Tr Nat) (N : Nat) (ops : Array Oper) : List Nat → Sl → Option Sl
  | [], sl => some sl
  | i :: r, sl => match ops[i]? with
    | some o => match pureVal P (evs gl sl) o with
      | some v => match aput N sl o.dst v with
        | some sl1 => atake P gl N ops r sl1
        | none => none
      | none => none
    | none => none

def takeListed : List Nat → Array Bool → Array Bool
  | [], l => l
  | i :: r, l => takeListed r (l.setIfInBounds i true)

def adrawAll (P : Program) [Lib P] [Facts P] (C : ACalls) (gl : Tr Nat) (N : Nat) (rnd : Bool) (ops : Array Oper) (sl : Sl) (A : AS) : Option (Sl × AS) :=
  let L := bif rnd then [] else takeL ops
  bif Nat.ble ops.size (L.length + 64) && (Region.noSelect ops && (takeOk ops L (Array.replicate ops.size false) && Nat.ble L.length ops.size)) then
    match atake P gl N ops L sl with
    | some sl1 => aAny P C gl N ops (ops.size - L.length) (takeListed L (Array.replicate ops.size false)) sl1 A
    | none => none
  else none

variable [Sig]
section
variable {P : Program} [Lib P] [Facts P] {C : ACalls} {gl : Tr Nat} {N : Nat} {ds : List Deferred} {ro : Option Nat} {ops : Array Oper} {Q : Exit → Act → World → Prop}

theorem wp_aAny (hcall : CallOk P gl C) : ∀ (f : Nat) (listed : Array Bool) (sl sl' : Sl) (A A' : AS) (φ : Emb) (w : World) (a : Act), Rel φ A w → GRel gl φ → SR N ds φ sl a → aAny P C gl N ops f listed sl A = some (sl', A') →
    (∀ φ' a' w', SR N ds φ' sl' a' → Step φ A w φ' A' w' → Q .normal a' w') → wpAnyIn (Fr ro) 0 P .any ops Q f listed a w
  | 0, listed, sl, sl', A, A', φ, w, a, hr, hg, hs, h, hQ => by
    unfold aAny at h
    split at h
    · rename_i hrd
      cases h
      exact wpAnyIn_done hrd (hQ φ a w hs (Step.refl hr)) 0
    · cases h
  | f + 1, listed, sl, sl', A, A', φ, w, a, hr, hg, hs, h, hQ => by
    unfold aAny at h
    simp only at h
    split at h
    · rename_i hrd
      cases h
      exact wpAnyIn_done hrd (hQ φ a w hs (Step.refl hr)) _
    · rename_i i r hrd
      have hall : ∀ j ∈ i :: r, (match ops[j]? with
          | some o => match astep P C gl N ops o sl A with
            | some (sl1, A1) => aAny P C gl N ops f (listed.setIfInBounds j true) sl1 A1
            | none => none
          | none => none) = some (sl', A') := by
        split at h
        · rename_i x hx
          split at h
          · rename_i hb
            cases h
            intro j hj
            rcases List.mem_cons.1 hj with rfl | hj
            · exact hx
            · have hb' := List.all_eq_true.1 hb j hj
              revert hb'
              generalize (match ops[j]? with
                | some o => match astep P C gl N ops o sl A with
                  | some (sl1, A1) => aAny P C gl N ops f (listed.setIfInBounds j true) sl1 A1
                  | none => none
                | none => none) = z
              intro hb'
              cases z with
              | none => cases hb'
              | some y => rw [eqSt_sound hb']
          · cases h
        · cases h
      refine wpAnyIn_all hrd (by simp) fun j hj => ?_
      have hj' := hall j hj
      split at hj'
      · rename_i o ho
        split at hj'
        · rename_i sl1 A1 hst
          obtain ⟨v, hv, hp⟩ := astep_aval hst
          unfold wpOpIn
          rw [ho]
          refine wp_aval hcall hr hg hs.get hv fun φ' v' w' hvv hstep => ?_
          exact wp_aAny hcall f _ sl1 sl' A1 A' φ' w' (a.put o.dst v') hstep.rel (hg.mono (hstep.ext hr)) ((hs.mono (hstep.ext hr)).put hvv hp) hj' fun φ2 a2 w2 h1 h2 => hQ φ2 a2 w2 h1 (Step.trans hr hstep h2)
        · cases hj'
      · cases hj'

omit [Lib P] in
theorem wp_atake (hF : FactsOk P) (hsel : Region.noSelect ops = true) (hron : ro = none) (hQp : ∀ c a w, ¬ Q (.panic c) a w) {φ : Emb} {w : World} (hg : GRel gl φ) : ∀ (L : List Nat) (fuel : Nat) (listed : Array Bool) (sl sl' : Sl) (a : Act), SR N ds φ sl a → takeOk ops L listed = true → atake P gl N ops L sl = some sl' →
    (∀ a', SR N ds φ sl' a' → wpAnyIn (Fr ro) 0 P .any ops Q fuel (takeListed L listed) a' w) → wpAnyIn (Fr ro) 0 P .any ops Q (fuel + L.length) listed a w
  | [], fuel, listed, sl, sl', a, hs, _, h, hQ => by
    cases h
    exact hQ a hs
  | i :: r, fuel, listed, sl, sl', a, hs, hto, h, hQ => by
    simp only [takeOk, Bool.and_eq_true] at hto
    obtain ⟨⟨hready, hfree⟩, hpk, hto⟩ := hto
    unfold atake at h
    split at h
    · rename_i o ho
      rw [ho] at hpk
      simp only at hpk
      split at h
      · rename_i v hpv
        split at h
        · rename_i sl1 hput
          obtain ⟨v', hrun, hv⟩ := pureVal_run hF (evs_rel hg hs.get) hpv
          have hwant : Region.wanted o (yielded ops a.tmps) = true := by
            unfold pureKind at hpk
            unfold Region.wanted
            cases hg : o.guard with
            | none => rfl
            | some g => rw [hg] at hpk; simp at hpk
          have habout : ∀ w, o.about P w a.eval = none := by
            intro w
            unfold Oper.about
            unfold pureKind at hpk
            cases hop : o.op <;> simp only [hop, Bool.and_false, Bool.false_eq_true] at hpk ⊢
          have hyf : YieldsFenced P ops o v' a := ⟨.inl ⟨hwant, hrun⟩, habout⟩
          show wpAnyIn (Fr ro) 0 P .any ops Q (fuel + r.length + 1) listed a w
          refine wpAnyIn_take (F := Fr ro) (by rw [hron]; rfl) ho hsel hfree hready (fun c a w h => absurd h (hQp c _ w)) hyf ?_
          exact wp_atake hF hsel hron hQp hg r fuel _ sl1 sl' (a.put o.dst v') (hs.put hv hput) hto h hQ
        · cases h
      · cases h
    · cases h

theorem wp_adrawAll (hmix : P.follows .mixedOrders = true) (hcall : CallOk P gl C) {id : Nat} {sl sl' : Sl} {A A' : AS} {φ : Emb} {w : World} {a : Act} (hr : Rel φ A w) (hg : GRel gl φ) (hs : SR N ds φ sl a) {rnd : Bool} (hro : rnd = false → ro = none) (hQp : ∀ c a w, ¬ Q (.panic c) a w)
    (h : adrawAll P C gl N rnd ops sl A = some (sl', A')) (hQ : ∀ φ' a' w', SR N ds φ' sl' a' → Step φ A w φ' A' w' → Q .normal a' w') : (Code.region id ops true).wpIn (Fr ro) 0 P Q a w := by
  unfold adrawAll at h
  simp only at h
  cases hb : (Nat.ble ops.size ((bif rnd then [] else takeL ops).length + 64) && (Region.noSelect ops && (takeOk ops (bif rnd then [] else takeL ops) (Array.replicate ops.size false) && Nat.ble (bif rnd then [] else takeL ops).length ops.size))) with
  | false => rw [hb] at h; cases h
  | true =>
    rw [hb, cond_true] at h
    simp only [Bool.and_eq_true] at hb
    obtain ⟨_, hsel, htok, hle⟩ := hb
    have hle' := Nat.ble_eq.mp hle
    split at h
    · rename_i sl1 ht
      have hst := Step.drawnTo hr (w.drawn + 1) (Nat.le_succ _)
      refine wpIn_region_any hmix ?_
      have hfin : ∀ a', SR N ds φ sl1 a' → wpAnyIn (Fr ro) 0 P .any ops Q (ops.size - (bif rnd then [] else takeL ops).length) (takeListed (bif rnd then [] else takeL ops) (Array.replicate ops.size false)) a' { w with drawn := w.drawn + 1 } :=
        fun a' hs' => wp_aAny hcall _ _ sl1 sl' A A' φ _ a' hst.rel hg hs' h fun φ2 a2 w2 h1 h2 => hQ φ2 a2 w2 h1 (Step.trans hr hst h2)
      cases hrn : rnd with
      | true =>
        rw [hrn] at ht hfin
        simp only [cond_true, List.length_nil, Nat.sub_zero] at ht hfin
        cases ht
        exact hfin a hs
      | false =>
        rw [hrn] at ht hfin htok hle'
        simp only [cond_false] at ht hfin htok hle'
        have := wp_atake hcall.facts hsel (hro hrn) hQp hg (takeL ops) (ops.size - (takeL ops).length) _ sl sl1 a hs htok ht hfin
        rwa [Nat.sub_add_cancel hle'] at this
    · cases h
end
end AE
end Go.Proofs.YtblhndlmgibljaaDoor

/- AE, part 19: objects that are no cells, rewritten; the marks of a frame; code. -/
namespace Go.Proofs.YtblhndlmgibljaaDoor
open Go
namespace AE
variable [Sig]

/- OBJECTS THAT ARE NO CELLS -/

def AS.setOth (A : AS) (b : Nat) (x : AOth) : Option AS :=
  match A.bl.get b with
  | some k => match k.obj, A.mem.get k.fam with
    | .oth _, some [m] => bif Nat.beq m b && !k.ro then
        match Tr.set { k with obj := .oth x } depth A.bl b with
        | some t => some { A with bl := t, low := Nat.min A.low b }
        | none => none
      else none
    | _, _ => none
  | none => none

def AS.getLoop (A : AS) (b : Nat) : Option ALoop :=
  match A.bl.get b with
  | some k => match k.obj with
    | .oth (.loop lp) => some lp
    | _ => none
  | none => none

section
variable {P : Program} {φ : Emb} {A A' : AS} {w : World}

theorem step_setOth (hr : Rel φ A w) {b : Nat} {x : AOth} {e : Em} {o' : Obj} (he : φ b = some e) (h : A.setOth b x = some A') (ho : OthRel φ x o') : Step φ A w φ A' { w with heap := w.heap.setIfInBounds e.blk o' } := by
  unfold AS.setOth at h
  split at h
  · rename_i k hk
    split at h
    · rename_i x0 m hobj hmem
      cases hc : (Nat.beq m b && !k.ro) with
      | false => rw [hc] at h; cases h
      | true =>
        rw [hc, cond_true] at h
        simp only [Bool.and_eq_true, Bool.not_eq_true'] at hc
        have hmb : m = b := Nat.eq_of_beq_eq_true hc.1
        subst hmb
        have hro := hc.2
        split at h
        · rename_i t ht
          cases h
          have hget := fun j => Tr.get_set _ _ _ _ _ j ht
          obtain ⟨k0, hk0, hst, hor⟩ := hr.dom m e he
          rw [hk] at hk0
          cases hk0
          have hlt := hor.lt
          have halone : ∀ j kj, A.bl.get j = some kj → kj.fam = k.fam → j = m := by
            intro j kj hj hf
            obtain ⟨l, q1, q2⟩ := hr.wf.mem j kj hj
            rw [hf, hmem] at q1
            cases q1
            simpa using q2
          have hne : ∀ j ej, j ≠ m → φ j = some ej → ej.blk ≠ e.blk := by
            intro j ej hj hφ
            obtain ⟨kj, hkj, _, _⟩ := hr.dom j ej hφ
            exact hr.apart j ej kj m e k hφ he hkj hk fun hf => hj (halone j kj hkj hf)
          have hwo : ∀ i, i ≠ e.blk → (w.heap.setIfInBounds e.blk o')[i]? = w.heap[i]? := fun i hi => by
            rw [Array.getElem?_setIfInBounds_ne (Ne.symm hi)]
          have hnew : ∀ j kj', t.get j = some kj' → ∃ kj, A.bl.get j = some kj ∧ kj'.fam = kj.fam ∧ kj'.pos = kj.pos ∧ kj'.ro = kj.ro := by
            intro j kj' hj
            rw [hget] at hj
            by_cases hjm : j = m
            · rw [if_pos hjm] at hj
              cases hj
              subst hjm
              exact ⟨k, hk, rfl, rfl, rfl⟩
            · rw [if_neg hjm] at hj
              exact ⟨kj', hj, rfl, rfl, rfl⟩
          refine { rel := ⟨⟨?_, ?_, ?_, ?_⟩, ?_, ?_, ?_, fun i o hi => ⟨by rw [hwo i (Ne.symm ((hr.imm i o hi).2 _ _ he))]; exact (hr.imm i o hi).1, (hr.imm i o hi).2⟩⟩, dom := fun _ _ => rfl, newm := fun b h1 h2 => absurd h2 (by show ¬ b < A.n; omega), new := fun b e h1 h2 => absurd (hr.lt h2) (by omega), n_le := Nat.le_refl _, low := Nat.min_le_left _ _, same := ?_, ro := ?_, keep := ?_, hsize := by simp, os := rfl, tape := rfl, output := rfl, drawn := Nat.le_refl _ }
          · intro j kj' hj
            obtain ⟨kj, q1, _⟩ := hnew j kj' hj
            exact hr.wf.lt j kj q1
          · intro j kj' hj
            obtain ⟨kj, q1, q2, _⟩ := hnew j kj' hj
            rw [q2]; exact hr.wf.famlt j kj q1
          · intro j kj' hj
            obtain ⟨kj, q1, q2, _⟩ := hnew j kj' hj
            rw [q2]; exact hr.wf.mem j kj q1
          · intro j kj1 j' kj1' hj hj' hf
            obtain ⟨kj, q1, q2, _, q3⟩ := hnew j kj1 hj
            obtain ⟨kj', q1', q2', _, q3'⟩ := hnew j' kj1' hj'
            rw [q3, q3']
            exact hr.wf.rofam j kj j' kj' q1 q1' (by rw [← q2, ← q2']; exact hf)
          · intro j ej hj
            by_cases hjm : j = m
            · subst hjm
              rw [he] at hj
              cases hj
              refine ⟨{ k with obj := .oth x }, by rw [hget, if_pos rfl], hst, ?_⟩
              unfold ORel at hor
              simp only [hobj] at hor
              simp only [ORel]
              exact ⟨hor.1, o', by rw [Array.getElem?_setIfInBounds_self_of_lt hlt], ho⟩
            · obtain ⟨kj, hkj, hsj, hoj⟩ := hr.dom j ej hj
              exact ⟨kj, by rw [hget, if_neg hjm]; exact hkj, hsj, hoj.mono (fun _ _ h => h) (hwo _ (hne j ej hjm hj))⟩
          · intro j ej kj1 j' ej' kj1' q1 q2 hj hj' hnf
            obtain ⟨kj, r1, r2, _⟩ := hnew j kj1 hj
            obtain ⟨kj', r1', r2', _⟩ := hnew j' kj1' hj'
            exact hr.apart j ej kj j' ej' kj' q1 q2 r1 r1' (by rw [← r2, ← r2']; exact hnf)
          · intro j ej kj1 j' ej' kj1' q1 q2 hj hj' hf hb
            obtain ⟨kj, r1, r2, r3, _⟩ := hnew j kj1 hj
            obtain ⟨kj', r1', r2', r3', _⟩ := hnew j' kj1' hj'
            rw [r3, r3']
            exact hr.along j ej kj j' ej' kj' q1 q2 r1 r1' (by rw [← r2, ← r2']; exact hf) hb
          · intro j hj hjl
            show t.get j = _
            rw [hget, if_neg]
            intro hjm
            subst hjm
            exact absurd (Nat.lt_of_lt_of_le hjl (Nat.min_le_right A.low j)) (Nat.lt_irrefl j)
          · intro j kj hkj hrj
            show t.get j = _
            rw [hget, if_neg]
            · exact hkj
            · intro hjm
              subst hjm
              rw [hk] at hkj
              cases hkj
              rw [hro] at hrj
              cases hrj
          · intro i hi hall
            refine hwo i fun hie => ?_
            have := hall m e k he hie.symm hk
            rw [hro] at this
            cases this
        · cases h
    · cases h
  · cases h

theorem rel_getLoop (hr : Rel φ A w) {b : Nat} {lp : ALoop} {e : Em} (h : A.getLoop b = some lp) (he : φ b = some e) : ∃ r, w.heap[e.blk]? = some (.loop r) ∧ OthRel φ (.loop lp) (.loop r) ∧ (Instr.getLoop e.blk).run P w = .ok r w ∧
    ∀ r', (setObj e.blk (.loop r')).run P w = .ok () { w with heap := w.heap.setIfInBounds e.blk (.loop r') } := by
  unfold AS.getLoop at h
  split at h
  · rename_i k hk
    split at h
    · rename_i lp' hobj
      cases h
      obtain ⟨k', hk', _, ho⟩ := hr.dom b e he
      rw [hk] at hk'
      cases hk'
      unfold ORel at ho
      simp only [hobj] at ho
      obtain ⟨_, o', h1, h2⟩ := ho
      obtain ⟨r, rfl, _⟩ := id h2
      refine ⟨r, h1, h2, ?_, fun r' => ?_⟩
      · unfold Instr.getLoop
        exact run_then (a := .loop r) (w1 := w) (run_getObj h1 (fun _ _ _ h => by cases h)) rfl
      · simp only [setObj, Sem.run, h1]
    · cases h
  · cases h

/- MARKS -/

inductive MRel (φ : Emb) : List Nat → List Deferred → Prop where
  | nil : MRel φ [] []
  | cons {b : Nat} {e : Em} {ms : List Nat} {ds : List Deferred} (h : φ b = some e) (hm : MRel φ ms ds) : MRel φ (b :: ms) ({ target := .collected e.blk, args := #[] } :: ds)

omit [Sig] in
theorem MRel.mono {φ φ' : Emb} {ms : List Nat} {ds : List Deferred} (hφ : ∀ b e, φ b = some e → φ' b = some e) (h : MRel φ ms ds) : MRel φ' ms ds := by
  induction h with
  | nil => exact .nil
  | cons h _ ih => exact .cons (hφ _ _ h) ih

def aleave (A : AS) : List Nat → Option AS
  | [] => some A
  | b :: r => match A.bl.get b with
    | some k => match k.obj with
      | .oth .deferred => match A.setOth b .gone with
        | some A1 => aleave A1 r
        | none => none
      | _ => none
    | none => none

theorem leaves_aleave {fn : Func} {tmps : Array Value} {R : Ending → World → Prop} : ∀ (ms : List Nat) (ds : List Deferred) (A A' : AS) (w : World), Rel φ A w → MRel φ ms ds → aleave A ms = some A' →
    (∀ w', Step φ A w φ A' w' → LeavesInM (Fr none) 0 P fn tmps R [] .returning w') → LeavesInM (Fr none) 0 P fn tmps R ds .returning w
  | [], ds, A, A', w, hr, hm, h, hQ => by
    cases hm
    cases h
    exact hQ w (Step.refl hr)
  | b :: ms, ds, A, A', w, hr, hm, h, hQ => by
    cases hm with
    | cons he hm =>
      rename_i e ds
      unfold aleave at h
      split at h
      · rename_i k hk
        split at h
        · rename_i hobj
          split at h
          · rename_i A1 hs
            obtain ⟨k', hk', _, ho⟩ := hr.dom b e he
            rw [hk] at hk'
            cases hk'
            unfold ORel at ho
            simp only [hobj] at ho
            obtain ⟨_, o', h1, h2⟩ := ho
            cases h2
            have hst := step_setOth (o' := .deferred none) hr he hs rfl
            refine ⟨by simp, .inl ⟨e.blk, _, rfl, ?_, leaves_aleave ms ds A1 A' _ hst.rel (hm.mono (hst.ext hr)) h fun w' hw => hQ w' (Step.trans hr hst hw)⟩⟩
            unfold Instr.takeDeferred
            refine run_then (a := .deferred (some [])) (w1 := w) (run_getObj h1 (fun _ _ _ h => by cases h)) ?_
            exact run_then (a := ()) (by simp only [setObj, Sem.run, h1]) rfl
          · cases h
        · cases h
      · cases h

/- CODE -/

inductive AX where
  | normal
  | exit (id : Nat)
  | goto (l : Nat)
  | ret

def AX.exit' : AX → Exit
  | .normal => .normal
  | .exit id => .exit id
  | .goto l => .goto l
  | .ret => .ret

structure ASt where
  sl : Sl
  ms : List Nat
  A : AS

def XPost (φ : Emb) (A : AS) (w : World) (N : Nat) (x : AX) (s : ASt) (e : Exit) (a' : Act) (w' : World) : Prop :=
  e = x.exit' ∧ ∃ φ' ds, MRel φ' s.ms ds ∧ SR N ds φ' s.sl a' ∧ Step φ A w φ' s.A w'

theorem XPost.trans {φ φ1 : Emb} {A A1 : AS} {w w1 : World} {N : Nat} {x : AX} {s : ASt} {e : Exit} {a2 : Act} {w2 : World} (hr : Rel φ A w) (h1 : Step φ A w φ1 A1 w1) (h2 : XPost φ1 A1 w1 N x s e a2 w2) : XPost φ A w N x s e a2 w2 := by
  obtain ⟨h, φ2, ds, q0, q1, q2⟩ := h2
  exact ⟨h, φ2, ds, q0, q1, Step.trans hr h1 q2⟩

end

def aloop (f : ASt → Option (AX × ASt)) : Nat → ASt → Option (AX × ASt)
  | 0, _ => none
  | n + 1, s => match f s with
    | some (x, s1) => match x with
      | .normal => aloop f n s1
      | .exit id => some (.exit id, s1)
      | .goto l => some (.goto l, s1)
      | .ret => some (.ret, s1)
    | none => none

def jumpX : Option Code → Option AX
  | none => some .normal
  | some .ret => some .ret
  | some (.exit id) => some (.exit id)
  | some (.goto l) => some (.goto l)
  | _ => none

def isBusy : LoopState → Bool
  | .busy => true
  | _ => false

def arange (P : Program) [Lib P] [Facts P] (C : ACalls) (gl : Tr Nat) (N : Nat) (g : Operand) (ps : Array Tmp) (as_ body : Code) (s : ASt) : Option (AX × ASt) :=
  match evs gl s.sl g with
  | .func (.func f) ⟨first⟩ ⟨capt⟩ => bif enters P f then
      match s.A.push (.oth .deferred) 0 0 with
      | some (d, A1) => match A1.push (.oth (.loop { state := .ready, pending := none, sl := s.sl, N, params := ps.toList, assign := as_, body, dfr := d })) 0 0 with
        | some (l, A2) => match C.call f (first ++ [.func (.yield l) ⟨[]⟩ ⟨[]⟩] ++ capt) A2 with
          | some (_, A3) => match A3.getLoop l with
            | some lp => bif isBusy lp.state then none else
              match A3.setOth l (.loop { lp with state := .exhausted }), jumpX lp.pending with
              | some A4, some x => some (x, { sl := s.sl, ms := d :: s.ms, A := A4 })
              | _, _ => none
            | none => none
          | none => none
        | none => none
      | none => none
    else none
  | _ => none

def acode (P : Program) [Lib P] [Facts P] (C : ACalls) (gl : Tr Nat) (N : Nat) (rnd : Bool) (fuel : Nat) : Code → ASt → Option (AX × ASt)
  | .skip, s => some (.normal, s)
  | .label _, s => some (.normal, s)
  | .exit id, s => some (.exit id, s)
  | .goto l, s => some (.goto l, s)
  | .ret, s => some (.ret, s)
  | .region _ ops d, s => match (bif d then (match adraw P C gl N rnd ops s.sl s.A with | some r => some r | none => adrawAll P C gl N rnd ops s.sl s.A) else aregion P C gl N ops ops.toList s.sl s.A) with
    | some (sl1, A1) => some (.normal, { sl := sl1, ms := s.ms, A := A1 })
    | none => none
  | .seq x y, s => match acode P C gl N rnd fuel x s with
    | some (x, s1) => match x with
      | .normal => acode P C gl N rnd fuel y s1
      | .exit id => some (.exit id, s1)
      | .goto l => some (.goto l, s1)
      | .ret => some (.ret, s1)
    | none => none
  | .cond c x y, s => match evs gl s.sl c with
    | .bool t => bif t then acode P C gl N rnd fuel x s else acode P C gl N rnd fuel y s
    | v => match truthOf P v with
      | some t => bif t then acode P C gl N rnd fuel x s else acode P C gl N rnd fuel y s
      | none => none
  | .block id x, s => match acode P C gl N rnd fuel x s with
    | some (x, s1) => match x with
      | .normal => some (.normal, s1)
      | .exit id' => bif Nat.beq id' id then some (.normal, s1) else some (.exit id', s1)
      | .goto l => some (.goto l, s1)
      | .ret => some (.ret, s1)
    | none => none
  | .loop x, s => aloop (acode P C gl N rnd fuel x) fuel s
  | .scope _, _ => none
  | .rangeFunc g ps as_ body, s => bif rnd then none else arange P C gl N g ps as_ body s
  | .refuse _, _ => none

def CodeOk (P : Program) (gl : Tr Nat) (N : Nat) (ro : Option Nat) (c : Code) (f : ASt → Option (AX × ASt)) : Prop :=
  ∀ (s : ASt) (x : AX) (s' : ASt) (φ : Emb) (w : World) (a : Act) (ds : List Deferred), f s = some (x, s') → Rel φ s.A w → GRel gl φ → MRel φ s.ms ds → SR N ds φ s.sl a → c.wpIn (Fr ro) 0 P (XPost φ s.A w N x s') a w

section
variable {P : Program} {gl : Tr Nat} {N : Nat} {ro : Option Nat}

theorem wp_aloop {c : Code} {f : ASt → Option (AX × ASt)} (hf : CodeOk P gl N ro c f) : ∀ (n : Nat) (s : ASt) (x : AX) (s' : ASt) (φ : Emb) (w : World) (a : Act) (ds : List Deferred), aloop f n s = some (x, s') → Rel φ s.A w → GRel gl φ → MRel φ s.ms ds → SR N ds φ s.sl a →
    ∀ (Q : Exit → Act → World → Prop), (∀ e a' w', XPost φ s.A w N x s' e a' w' → Q e a' w') → Code.roundsIn (Fr ro) 0 P c Q n a w
  | 0, s, x, s', φ, w, a, ds, h, hr, hg, hm, hs, Q, hQ => by cases h
  | n + 1, s, x, s', φ, w, a, ds, h, hr, hg, hm, hs, Q, hQ => by
    unfold aloop at h
    show c.wpIn (Fr ro) 0 P (Exit.then (Code.roundsIn (Fr ro) 0 P c Q n) Q) a w
    split at h
    · rename_i x1 s1 h1
      refine wpIn_mono (hf s x1 s1 φ w a ds h1 hr hg hm hs) fun e a1 w1 hx => ?_
      cases x1 with
      | normal =>
        obtain ⟨rfl, φ1, ds1, q0, q1, q2⟩ := hx
        exact wp_aloop hf n s1 x s' φ1 w1 a1 ds1 h q2.rel (hg.mono (q2.ext hr)) q0 q1 Q fun e a' w' hp => hQ e a' w' (XPost.trans hr q2 hp)
      | exit xid => cases h; obtain ⟨rfl, _⟩ := id hx; exact hQ _ _ _ hx
      | goto l => cases h; obtain ⟨rfl, _⟩ := id hx; exact hQ _ _ _ hx
      | ret => cases h; obtain ⟨rfl, _⟩ := id hx; exact hQ _ _ _ hx
    · cases h

end
end AE
end Go.Proofs.YtblhndlmgibljaaDoor

/- AE, part 20: a range over a function, rounds, calls. -/
namespace Go.Proofs.YtblhndlmgibljaaDoor
open Go
namespace AE
variable [Sig]

section
variable {P : Program} [Lib P] [Facts P] {C : ACalls} {gl : Tr Nat} {N : Nat}

omit [Sig] in
omit [Lib P] [Facts P] in
theorem wp_jump {F : Fence} {n : Nat} {Q : Exit → Act → World → Prop} {a : Act} {w : World} {c : Code} {x : AX} (h : jumpX (some c) = some x) (hQ : Q x.exit' a w) : c.wpIn F n P Q a w := by
  cases c <;> simp only [jumpX, Option.some.injEq] at h <;> first | (cases h; done) | skip
  case ret => cases h; exact wpIn_ret hQ
  case exit id => cases h; exact wpIn_exit hQ
  case goto l => cases h; exact wpIn_goto hQ

theorem wp_arange (hcall : CallOk P gl C) {g : Operand} {ps : Array Tmp} {as_ body : Code} {s : ASt} {x : AX} {s' : ASt} {φ : Emb} {w : World} {a : Act} {ds : List Deferred} (h : arange P C gl N g ps as_ body s = some (x, s'))
    (hr : Rel φ s.A w) (hg : GRel gl φ) (hm : MRel φ s.ms ds) (hs : SR N ds φ s.sl a) : (Code.rangeFunc g ps as_ body).wpIn (Fr none) 0 P (XPost φ s.A w N x s') a w := by
  unfold arange at h
  split at h
  · rename_i f first capt hev
    cases hen : enters P f with
    | false => rw [hen] at h; cases h
    | true =>
      rw [hen, cond_true] at h
      split at h
      · rename_i d A1 hp1
        split at h
        · rename_i l A2 hp2
          split at h
          · rename_i v A3 hc
            split at h
            · rename_i lp hlp
              cases hb : isBusy lp.state with
              | true => rw [hb] at h; cases h
              | false =>
                rw [hb, cond_false] at h
                split at h
                · rename_i A4 x' hso hj
                  cases h
                  have hgv := evs_rel hg hs.get g
                  rw [hev] at hgv
                  have hfun : ∃ fs' cs', a.eval g = .func (.func f) fs' cs' ∧ RL first φ fs' ∧ RL capt φ cs' := by
                    generalize a.eval g = u at hgv
                    cases hgv with
                    | func _ fs' _ cs' hn h1 h2 h3 h4 => exact ⟨fs', cs', rfl, RL.of h1 h3, RL.of h2 h4⟩
                  obtain ⟨fs', cs', hev', hfs, hcs⟩ := hfun
                  have st1 := step_push (o' := .deferred (some [])) (e := ⟨w.heap.size, 0, 0, 0⟩) hr hp1 rfl rfl (by
                    unfold ORel
                    exact ⟨rfl, .deferred (some []), by simp, rfl⟩)
                  have hd := (hr.wf.push hp1).2.1
                  refine wpIn_rangeFunc fun fn _ => ?_
                  let r0 : Loop := { state := .ready, pending := none, fn := fn, tmps := a.tmps, params := ps, assign := as_, body := body, defers := w.heap.size }
                  have st2 := step_push (o' := .loop r0) (e := ⟨w.heap.size + 1, 0, 0, 0⟩) st1.rel hp2 (by simp) rfl (by
                    unfold ORel
                    refine ⟨rfl, .loop r0, by
                      show ((w.heap.push (Obj.deferred (some []))).push (Obj.loop r0))[w.heap.size + 1]? = _
                      rw [Array.getElem?_push, if_pos (by simp)], r0, rfl, rfl, rfl, hs.size, rfl, rfl, rfl, ⟨⟨w.heap.size, 0, 0, 0⟩, ?_, rfl⟩, fun t v hv => ?_⟩
                    · have hlt := (st1.rel.wf.push hp2).2.1
                      have hn1 := (hr.wf.push hp1).2.2.1
                      show upd _ _ _ d = _
                      unfold upd
                      rw [if_neg (by omega), if_pos rfl]
                    · refine (hs.get t v hv).mono fun b e hb => ?_
                      have hlt := (st1.rel.wf.push hp2).2.1
                      have hn1 := (hr.wf.push hp1).2.2.1
                      have := hr.lt hb
                      unfold upd
                      rw [if_neg (by omega), if_neg (by omega)]
                      exact hb)
                  have st12 := Step.trans hr st1 st2
                  have hx12 := st12.ext hr
                  have hl12 : upd (upd φ d ⟨w.heap.size, 0, 0, 0⟩) l ⟨w.heap.size + 1, 0, 0, 0⟩ l = some ⟨w.heap.size + 1, 0, 0, 0⟩ := by unfold upd; rw [if_pos rfl]
                  have hd12 : upd (upd φ d ⟨w.heap.size, 0, 0, 0⟩) l ⟨w.heap.size + 1, 0, 0, 0⟩ d = some ⟨w.heap.size, 0, 0, 0⟩ := by
                    have hlt := (st1.rel.wf.push hp2).2.1
                    have hn1 := (hr.wf.push hp1).2.2.1
                    unfold upd
                    rw [if_neg (by omega), if_pos rfl]
                  have hyv : VRel (upd (upd φ d ⟨w.heap.size, 0, 0, 0⟩) l ⟨w.heap.size + 1, 0, 0, 0⟩) (.func (.yield l) ⟨[]⟩ ⟨[]⟩) (.func (.yield (w.heap.size + 1)) #[] #[]) := .yld hl12
                  have hmono1 : ∀ {ls : List Value} {az : Array Value}, RL ls φ az → RL ls (upd (upd φ d ⟨w.heap.size, 0, 0, 0⟩) l ⟨w.heap.size + 1, 0, 0, 0⟩) az := fun h => ⟨h.1, fun j hj => (h.2 j hj).mono hx12⟩
                  have h1 : RL [.func (.yield l) ⟨[]⟩ ⟨[]⟩] (upd (upd φ d ⟨w.heap.size, 0, 0, 0⟩) l ⟨w.heap.size + 1, 0, 0, 0⟩) #[.func (.yield (w.heap.size + 1)) #[] #[]] := ⟨rfl, fun j hj => by
                    have : j = 0 := by simpa using hj
                    subst this
                    exact hyv⟩
                  have hargs := ((hmono1 hfs).append h1).append (hmono1 hcs)
                  refine ⟨w.heap.size + 1, [{ target := .collected w.heap.size, args := #[] }], { w with heap := (w.heap.push (.deferred (some []))).push (.loop r0) }, { target := .fn (.func f) cs', args := fs' ++ #[.func (.yield (w.heap.size + 1)) #[] #[]] }, { w with heap := (w.heap.push (.deferred (some []))).push (.loop r0) }, f, fs' ++ #[.func (.yield (w.heap.size + 1)) #[] #[]] ++ cs', { w with heap := (w.heap.push (.deferred (some []))).push (.loop r0) }, ?_, ?_, fun _ _ => trivial, ?_, fun h => absurd h (by simp [Fr, Fence.wide]),
                    CallsIn.mono (callsIn_fr (hcall.call f _ A2 v A3 _ _ _ hc st12.rel (hg.mono hx12) hargs)) fun e w3 he => ?_⟩
                  · unfold Instr.enterLoop
                    simp only [Fr]
                    have hnew0 : (newObj (.deferred (some []))).run P w = .ok w.heap.size { w with heap := w.heap.push (.deferred (some [])) } := rfl
                    have hnew : (newObj (.loop r0)).run P { w with heap := w.heap.push (.deferred (some [])) } = .ok (w.heap.size + 1) { w with heap := (w.heap.push (.deferred (some []))).push (.loop r0) } := by
                      simp only [newObj, Sem.run, Array.size_push]
                    refine run_then hnew0 ?_
                    refine run_pre (a := (w.heap.size, [({ target := .collected w.heap.size, args := #[] } : Deferred)])) rfl ?_
                    exact run_then (k := fun x => pure (x, [({ target := .collected w.heap.size, args := #[] } : Deferred)])) hnew rfl
                  · unfold resolve
                    simp only [rangeCall, hev', List.map_toArray, List.map_cons, List.map_nil]
                    rfl
                  · exact pureRun_run (enters_run hen _) _
                  · cases e with
                    | returned v' =>
                      obtain ⟨φ3, _, st3⟩ := he
                      have hl3 := st3.ext st12.rel _ _ hl12
                      obtain ⟨r, q1, q2, q3, q4⟩ := rel_getLoop (P := P) st3.rel hlp hl3
                      obtain ⟨r', hr', hstate, hpend, hrest⟩ := id q2
                      cases hr'
                      have st4 := step_setOth (o' := .loop { r with state := .exhausted }) st3.rel hl3 hso (by
                        obtain ⟨u1, u2, u3, u4, u5, u6⟩ := hrest
                        exact ⟨{ r with state := .exhausted }, rfl, rfl, hpend, u1, u2, u3, u4, u5, u6⟩)
                      have stAll := Step.trans hr st12 (Step.trans st12.rel st3 st4)
                      have hmAll : MRel φ3 (d :: s.ms) ({ target := .collected w.heap.size, args := #[] } :: ds) := .cons (st3.ext st12.rel _ _ hd12) (hm.mono fun b e hb => st3.ext st12.rel _ _ (hx12 b e hb))
                      have hsr : SR N ({ target := .collected w.heap.size, args := #[] } :: ds) φ3 s.sl { a with defers := [{ target := .collected w.heap.size, args := #[] }] ++ a.defers } :=
                        ⟨hs.size, by simp [hs.defers], fun t v hv => (hs.get t v hv).mono fun b e hb => st3.ext st12.rel _ _ (hx12 b e hb)⟩
                      refine ⟨lp.pending, { w3 with heap := w3.heap.setIfInBounds (w.heap.size + 1) (.loop { r with state := .exhausted }) }, ?_, ?_⟩
                      · unfold Instr.endLoop
                        refine run_then q3 ?_
                        have hnb : (r.state == LoopState.busy) = false := by
                          rw [hstate]
                          cases hst : lp.state <;> rw [hst] at hb <;> first | rfl | cases hb
                        rw [hnb]
                        simp only [Bool.false_eq_true, if_false]
                        refine run_then (a := ()) (q4 _) ?_
                        rw [hpend]
                        rfl
                      · have post : XPost φ s.A w N x ⟨s.sl, d :: s.ms, A4⟩ x.exit' { a with defers := [{ target := .collected w.heap.size, args := #[] }] ++ a.defers } { w3 with heap := w3.heap.setIfInBounds (w.heap.size + 1) (.loop { r with state := .exhausted }) } :=
                          ⟨rfl, φ3, _, hmAll, hsr, stAll⟩
                        cases hpc : lp.pending with
                        | none =>
                          rw [hpc] at hj
                          cases hj
                          exact post
                        | some c =>
                          rw [hpc] at hj
                          exact wp_jump hj post
                    | panicked ch => exact he.elim
                    | outgrown => exact he.elim
                · cases h
            · cases h
          · cases h
        · cases h
      · cases h
  · cases h

end

section
variable {P : Program} [Lib P] [Facts P] {C : ACalls} {gl : Tr Nat} {N : Nat}

theorem wp_acode (hmix : P.follows .mixedOrders = true) (hcall : CallOk P gl C) (rnd : Bool) {ro : Option Nat} (hro : rnd = false → ro = none) (fuel : Nat) : ∀ c : Code, CodeOk P gl N ro c (acode P C gl N rnd fuel c)
  | .skip, s, x, s', φ, w, a, ds, h, hr, hg, hm, hs => by cases h; exact wpIn_skip ⟨rfl, φ, ds, hm, hs, Step.refl hr⟩
  | .label _, s, x, s', φ, w, a, ds, h, hr, hg, hm, hs => by cases h; exact wpIn_label ⟨rfl, φ, ds, hm, hs, Step.refl hr⟩
  | .exit id, s, x, s', φ, w, a, ds, h, hr, hg, hm, hs => by cases h; exact wpIn_exit ⟨rfl, φ, ds, hm, hs, Step.refl hr⟩
  | .goto l, s, x, s', φ, w, a, ds, h, hr, hg, hm, hs => by cases h; exact wpIn_goto ⟨rfl, φ, ds, hm, hs, Step.refl hr⟩
  | .ret, s, x, s', φ, w, a, ds, h, hr, hg, hm, hs => by cases h; exact wpIn_ret ⟨rfl, φ, ds, hm, hs, Step.refl hr⟩
  | .region id ops d, s, x, s', φ, w, a, ds, h, hr, hg, hm, hs => by
    unfold acode at h
    cases d with
    | true =>
      simp only [cond_true] at h
      split at h
      · rename_i s1 A1 h1
        cases h
        split at h1
        · rename_i r0 h0
          cases h1
          exact wp_adraw hmix hcall hr hg hs hro (fun c a w hx => by obtain ⟨he, _⟩ := hx; cases he) h0 fun φ2 a2 w2 r1 r2 => ⟨rfl, φ2, ds, hm.mono (r2.ext hr), r1, r2⟩
        · exact wp_adrawAll hmix hcall hr hg hs hro (fun c a w hx => by obtain ⟨he, _⟩ := hx; cases he) h1 fun φ2 a2 w2 r1 r2 => ⟨rfl, φ2, ds, hm.mono (r2.ext hr), r1, r2⟩
      · cases h
    | false =>
      simp only [cond_false] at h
      split at h
      · rename_i s1 A1 h1
        cases h
        exact wpIn_region_list (wpList_aregion hcall _ _ _ _ _ _ _ _ hr hg hs h1 fun φ2 a2 w2 r1 r2 => ⟨rfl, φ2, ds, hm.mono (r2.ext hr), r1, r2⟩)
      · cases h
  | .seq c1 c2, s, x, s', φ, w, a, ds, h, hr, hg, hm, hs => by
    unfold acode at h
    refine wpIn_seq ?_
    split at h
    · rename_i x1 s1 h1
      refine wpIn_mono (wp_acode hmix hcall rnd hro fuel c1 s x1 s1 φ w a ds h1 hr hg hm hs) fun e a1 w1 hx => ?_
      cases x1 with
      | normal =>
        obtain ⟨rfl, φ1, ds1, q0, q1, q2⟩ := hx
        exact wpIn_mono (wp_acode hmix hcall rnd hro fuel c2 s1 x s' φ1 w1 a1 ds1 h q2.rel (hg.mono (q2.ext hr)) q0 q1) fun e a2 w2 hp => XPost.trans hr q2 hp
      | exit xid => cases h; obtain ⟨rfl, _⟩ := id hx; exact hx
      | goto l => cases h; obtain ⟨rfl, _⟩ := id hx; exact hx
      | ret => cases h; obtain ⟨rfl, _⟩ := id hx; exact hx
    · cases h
  | .cond c c1 c2, s, x, s', φ, w, a, ds, h, hr, hg, hm, hs => by
    unfold acode at h
    split at h
    · rename_i t hc
      have hcv := evs_rel hg hs.get c
      rw [hc] at hcv
      have hce : a.eval c = .bool t := by
        cases hcc : a.eval c <;> rw [hcc] at hcv <;> cases hcv
        rfl
      refine wpIn_cond hce ?_
      cases t with
      | true => exact wp_acode hmix hcall rnd hro fuel c1 s x s' φ w a ds h hr hg hm hs
      | false => exact wp_acode hmix hcall rnd hro fuel c2 s x s' φ w a ds h hr hg hm hs
    · split at h
      · rename_i t ht
        refine wpIn_cond (truth_ok hcall.facts w ht (evs_rel hg hs.get c)) ?_
        cases t with
        | true => exact wp_acode hmix hcall rnd hro fuel c1 s x s' φ w a ds h hr hg hm hs
        | false => exact wp_acode hmix hcall rnd hro fuel c2 s x s' φ w a ds h hr hg hm hs
      · cases h
  | .block bid c, s, x, s', φ, w, a, ds, h, hr, hg, hm, hs => by
    unfold acode at h
    refine wpIn_block ?_
    split at h
    · rename_i x1 s1 h1
      refine wpIn_mono (wp_acode hmix hcall rnd hro fuel c s x1 s1 φ w a ds h1 hr hg hm hs) fun e a1 w1 hx => ?_
      cases x1 with
      | normal => cases h; obtain ⟨rfl, _⟩ := id hx; exact hx
      | goto l => cases h; obtain ⟨rfl, _⟩ := id hx; exact hx
      | ret => cases h; obtain ⟨rfl, _⟩ := id hx; exact hx
      | exit xid =>
        obtain ⟨rfl, hx⟩ := hx
        show if xid = bid then _ else _
        cases hb : Nat.beq xid bid with
        | true =>
          simp only [hb, cond_true] at h
          cases h
          rw [if_pos (Nat.eq_of_beq_eq_true hb)]
          exact ⟨rfl, hx⟩
        | false =>
          simp only [hb, cond_false] at h
          cases h
          rw [if_neg (fun e => by subst e; rw [Nat.beq_refl] at hb; cases hb)]
          exact ⟨rfl, hx⟩
    · cases h
  | .loop c, s, x, s', φ, w, a, ds, h, hr, hg, hm, hs => by
    unfold acode at h
    exact wpIn_loop_rounds fuel (wp_aloop (wp_acode hmix hcall rnd hro fuel c) fuel s x s' φ w a ds h hr hg hm hs _ fun _ _ _ hx => hx)
  | .scope c, s, x, s', φ, w, a, ds, h, hr, hg, hm, hs => by cases h
  | .rangeFunc g ps as_ body, s, x, s', φ, w, a, ds, h, hr, hg, hm, hs => by
    unfold acode at h
    cases hrn : rnd with
    | true => rw [hrn] at h; cases h
    | false =>
      rw [hrn, cond_false] at h
      have := hro hrn
      subst this
      exact wp_arange hcall h hr hg hm hs
  | .refuse _, s, x, s', φ, w, a, ds, h, hr, hg, hm, hs => by cases h

end

def setArgs : Nat → List Value → Sl → Option Sl
  | _, [], sl => some sl
  | i, v :: r, sl => match Tr.set v depth sl i with
    | some s => setArgs (i + 1) r s
    | none => none

omit [Sig] in
theorem setArgs_spec : ∀ (l : List Value) (i : Nat) (sl sl' : Sl), setArgs i l sl = some sl' → ∀ t v, sl'.get t = some v → (∃ j, j < l.length ∧ t = i + j ∧ v = l.getD j undef) ∨ sl.get t = some v
  | [], i, sl, sl', h, t, v, hv => by
    cases h
    exact .inr hv
  | u :: r, i, sl, sl', h, t, v, hv => by
    unfold setArgs at h
    split at h
    · rename_i s hs
      rcases setArgs_spec r (i + 1) s sl' h t v hv with ⟨j, hj, ht, hvj⟩ | hg
      · exact .inl ⟨j + 1, by simp; omega, by omega, by simpa using hvj⟩
      · rw [Tr.get_set _ _ _ _ _ t hs] at hg
        by_cases ht : t = i
        · subst ht
          rw [if_pos rfl] at hg
          cases hg
          exact .inl ⟨0, by simp, rfl, rfl⟩
        · rw [if_neg ht] at hg
          exact .inr hg
    · cases h

def ares (P : Program) (A : AS) (sl : Sl) : List ResultVar → Option (List Value)
  | [] => some []
  | .tmp t :: r => match ares P A sl r with
    | some vs => some (slot sl t :: vs)
    | none => none
  | .cell a t :: r => match aLoad P A t (slot sl a), ares P A sl r with
    | some v, some vs => some (v :: vs)
    | _, _ => none

def oneOf : List Value → Value
  | [v] => v
  | vs => .tuple ⟨vs⟩

section
variable {P : Program} {φ : Emb} {A A' : AS} {w : World}

theorem run_loadVar (hr : Rel φ A w) {t : TypeId} {p p' v : Value} (hp : VRel φ p p') (h : aLoad P A t p = some v) : ∃ v', (do loadVar t (← asAddr p')).run P w = .ok v' w ∧ VRel φ v v' := by
  unfold aLoad at h
  split at h
  · rename_i b off
    cases hp with
    | ptr he =>
      unfold loadVar
      cases hag : pureRun P (isAgg t) with
      | none => rw [hag] at h; cases h
      | some ag =>
        rw [hag] at h
        cases ag with
        | false =>
          simp only at h
          obtain ⟨v', h1, h2⟩ := rel_load hr h he
          refine ⟨v', run_pre (a := (⟨_, _, none⟩ : Addr)) rfl (run_pre hag ?_), h2⟩
          simp [Go.load, Sem.run, h1]
        | true =>
          simp only at h
          cases hsz : pureRun P (sizeOf t) with
          | none => rw [hsz] at h; cases h
          | some n =>
            rw [hsz] at h
            simp only at h
            obtain ⟨l, hl, rfl⟩ := Option.map_eq_some_iff.1 h
            obtain ⟨vs', h1, h2, h3⟩ := run_loadN hr P hl he
            refine ⟨.agg vs', run_pre (a := (⟨_, _, none⟩ : Addr)) rfl (run_pre hag ?_), .agg _ _ (by simp [h2]) fun i hi => by simpa using h3 i (by simpa using hi)⟩
            simp only [if_true]
            exact run_pre hsz (run_then h1 rfl)
  · cases h

def resOf (tmps : Array Value) : ResultVar → Sem Value
  | .tmp t => pure (tmps.getD t undef)
  | .cell a t => do loadVar t (← asAddr (tmps.getD a undef))

theorem run_ares (hr : Rel φ A w) {sl : Sl} {tmps : Array Value} (hs : ∀ t v, sl.get t = some v → VRel φ v (tmps.getD t undef)) : ∀ (l : List ResultVar) (vs : List Value), ares P A sl l = some vs →
    ∃ vs', (l.mapM (resOf tmps)).run P w = .ok vs' w ∧ RL vs φ ⟨vs'⟩
  | [], vs, h => by
    cases h
    exact ⟨[], rfl, rfl, fun j hj => absurd hj (by simp)⟩
  | .tmp t :: r, vs, h => by
    unfold ares at h
    split at h
    · rename_i us hu
      cases h
      obtain ⟨us', h1, h2, h3⟩ := run_ares hr hs r us hu
      refine ⟨tmps.getD t undef :: us', ?_, by simpa using h2, fun j hj => ?_⟩
      · rw [List.mapM_cons]
        exact run_pre (a := tmps.getD t undef) rfl (run_then h1 rfl)
      · cases j with
        | zero => exact slot_rel (hs t)
        | succ j => simpa using h3 j (by simpa using hj)
    · cases h
  | .cell a t :: r, vs, h => by
    unfold ares at h
    split at h
    · rename_i v us hv hu
      cases h
      obtain ⟨us', h1, h2, h3⟩ := run_ares hr hs r us hu
      obtain ⟨v', g1, g2⟩ := run_loadVar hr (slot_rel (hs a)) hv
      refine ⟨v' :: us', ?_, by simpa using h2, fun j hj => ?_⟩
      · rw [List.mapM_cons]
        exact run_then g1 (run_then h1 rfl)
      · cases j with
        | zero => exact g2
        | succ j => simpa using h3 j (by simpa using hj)
    · cases h

theorem run_results (hr : Rel φ A w) {sl : Sl} {fn : Func} {tmps : Array Value} (hs : ∀ t v, sl.get t = some v → VRel φ v (tmps.getD t undef)) {vs : List Value} (h : ares P A sl fn.results.toList = some vs) :
    ∃ v', (results fn tmps).run P w = .ok v' w ∧ VRel φ (oneOf vs) v' := by
  obtain ⟨vs', h1, h2, h3⟩ := run_ares hr hs _ vs h
  have e : results fn tmps = (fn.results.mapM (resOf tmps)) >>= fun vs => pure (if h : vs.size = 1 then vs[0] else .tuple vs) := by
    unfold results
    congr 1
  rw [e, Array.mapM_eq_mapM_toList]
  refine ⟨_, run_then (a := (⟨vs'⟩ : Array Value)) (run_then h1 rfl) rfl, ?_⟩
  match vs, vs', h2, h3 with
  | [v], [v'], _, h3 => exact h3 0 (by simp)
  | [], [], _, _ => exact .tuple _ _ rfl fun i hi => absurd hi (by simp)
  | a :: b :: r, a' :: b' :: r', h2, h3 => exact .tuple _ _ (by simpa using h2.symm) fun i hi => by simpa using h3 i (by simpa using hi)

end

/- ROUNDS AND CALLS -/

def setPs (N : Nat) : List Tmp → List Value → Sl → Option Sl
  | [], [], sl => some sl
  | t :: ts, v :: vs, sl => match aput N sl (some t) v with
    | some s => setPs N ts vs s
    | none => none
  | _, _, _ => none

def isReady : LoopState → Bool
  | .ready => true
  | _ => false

def jumpOf : AX → Option Code
  | .normal => none
  | .exit id => some (.exit id)
  | .goto l => some (.goto l)
  | .ret => some .ret

def stateOf : AX → LoopState
  | .normal => .ready
  | _ => .done

def isNormal : AX → Bool
  | .normal => true
  | _ => false

def aroundBy (P : Program) [Lib P] [Facts P] (gl : Tr Nat) (fuel : Nat) (C : ACalls) (b : Nat) (args : List Value) (A : AS) : Option (Value × AS) :=
  match A.getLoop b with
  | some lp => match setPs lp.N lp.params args lp.sl with
    | some sl0 => match acode P C gl lp.N true fuel lp.assign { sl := sl0, ms := [], A } with
      | some (.normal, s1) => match s1.A.getLoop b with
        | some lp1 => bif isReady lp1.state then
            match s1.A.setOth b (.loop { lp1 with state := .busy }) with
            | some A2 => match acode P C gl lp.N true fuel lp.body { sl := s1.sl, ms := s1.ms, A := A2 } with
              | some (x, s3) => match s3.A.getLoop b with
                | some lp3 => match s3.A.setOth b (.loop { lp3 with state := stateOf x, pending := jumpOf x }) with
                  | some A4 => some (.bool (isNormal x), A4)
                  | none => none
                | none => none
              | none => none
            | none => none
          else none
        | none => none
      | _ => none
    | none => none
  | none => none

def acallBy (P : Program) [Lib P] [Facts P] (gl : Tr Nat) (fuel : Nat) (C : ACalls) (f : FuncId) (args : List Value) (A : AS) : Option (Value × AS) :=
  match P.funcs[f]? with
  | some fn => match fn.body with
    | some c => match setArgs 0 args .nil with
      | some sl => match acode P C gl (args.length + (fn.ntmps - args.length)) false fuel c { sl, ms := [], A } with
        | some (x, s1) => match x with
          | .exit _ => none
          | .goto _ => none
          | _ => match aleave s1.A s1.ms with
            | some A2 => match ares P A2 s1.sl fn.results.toList with
              | some vs => some (oneOf vs, A2)
              | none => none
            | none => none
        | none => none
      | none => none
    | none => none
  | none => none

section
variable {P : Program} {gl : Tr Nat}

theorem SR.setPs {N : Nat} {ds : List Deferred} {φ : Emb} : ∀ (ts : List Tmp) (vs : List Value) (us : List Value) (sl sl' : Sl) (a : Act), SR N ds φ sl a → AE.setPs N ts vs sl = some sl' → us.length = vs.length → (∀ j, j < vs.length → VRel φ (vs.getD j undef) (us.getD j undef)) →
    ts.length = us.length ∧ SR N ds φ sl' { a with tmps := (ts.zip us).foldl (fun tmps p => tmps.setIfInBounds p.1 p.2) a.tmps }
  | [], [], us, sl, sl', a, hs, h, hl, hv => by
    cases h
    have : us = [] := by simpa using hl
    subst this
    exact ⟨rfl, hs⟩
  | t :: ts, v :: vs, us, sl, sl', a, hs, h, hl, hv => by
    unfold AE.setPs at h
    split at h
    · rename_i s1 h1
      cases us with
      | nil => simp at hl
      | cons u us =>
        have hput := hs.put (by simpa using hv 0 (by simp)) h1
        obtain ⟨q1, q2⟩ := SR.setPs ts vs us s1 sl' _ hput h (by simpa using hl) (fun j hj => by simpa using hv (j + 1) (by simpa using hj))
        exact ⟨by simp [q1], q2⟩
    · cases h
  | [], _ :: _, _, _, _, _, _, h, _, _ => by cases h
  | _ :: _, [], _, _, _, _, _, h, _, _ => by cases h

end
end AE
end Go.Proofs.YtblhndlmgibljaaDoor

/- AE, part 21: rounds and calls are what the evaluator says. -/
namespace Go.Proofs.YtblhndlmgibljaaDoor
open Go
namespace AE
variable [Sig]

section
variable {P : Program} [Lib P] [Facts P] {gl : Tr Nat} {fuel : Nat} {C : ACalls}

theorem acallBy_ok (hmix : P.follows .mixedOrders = true) (hcall : CallOk P gl C) {f : FuncId} {args : List Value} {A : AS} {v : Value} {A' : AS} {φ : Emb} {w : World} {args' : Array Value} (h : acallBy P gl fuel C f args A = some (v, A')) (hr : Rel φ A w) (hg : GRel gl φ)
    (hargs : RL args φ args') : Calls P f args' w (CPost φ A w v A') := by
  unfold acallBy at h
  split at h
  · rename_i fn hfn
    split at h
    · rename_i c hc
      split at h
      · rename_i sl hsl
        split at h
        · rename_i x s1 hcode
          have hsz : args'.size = args.length := hargs.1
          have hs : SR (args.length + (fn.ntmps - args.length)) [] φ sl { tmps := args' ++ Array.replicate (fn.ntmps - args'.size) undef, defers := [] } := by
            refine ⟨by simp [hsz], rfl, fun t u hu => ?_⟩
            rcases setArgs_spec _ _ _ _ hsl t u hu with ⟨j, hj, ht, rfl⟩ | hg
            · have := hargs.2 j hj
              simp only [Nat.zero_add] at ht
              subst ht
              simp only [Array.getD_eq_getD_getElem?] at this ⊢
              rw [Array.getElem?_append_left (by omega)]
              exact this
            · cases hg
          have fin : ∀ (vs : List Value) (A2 : AS), (x = .normal ∨ x = .ret) → aleave s1.A s1.ms = some A2 → ares P A2 s1.sl fn.results.toList = some vs → v = oneOf vs → A' = A2 → Calls P f args' w (CPost φ A w v A') := by
            intro vs A2 hx hleave hres hv hA
            subst hv; subst hA
            refine (callsIn_wide (n := 0)).1 ?_
            refine callsIn_of_wp_marks hfn hc trivial ?_ rfl
            have hwp := wp_acode (ro := none) hmix hcall false (fun _ => rfl) fuel c { sl, ms := [], A } x s1 φ w _ [] hcode hr hg .nil hs
            refine wpIn_mono (F := Fr none) hwp fun e a1 w1 hp => ?_
            obtain ⟨rfl, φ1, ds, q0, q1, q2⟩ := hp
            have main : LeavesInM (Fr none) 0 P fn a1.tmps (CPost φ A w (oneOf vs) A') a1.defers .returning w1 := by
              rw [q1.defers]
              refine leaves_aleave s1.ms ds s1.A A' w1 q2.rel q0 hleave fun w2 q3 => ?_
              obtain ⟨v', g1, g2⟩ := run_results (fn := fn) q3.rel q1.get hres
              exact ⟨v', g1, φ1, g2, Step.trans hr q2 q3⟩
            rcases hx with rfl | rfl
            · exact main
            · exact main
          cases x with
          | exit xid => cases h
          | goto l => cases h
          | normal =>
            simp only at h
            split at h
            · rename_i A2 hl
              split at h
              · rename_i vs hres
                cases h
                exact fin vs A' (.inl rfl) hl hres rfl rfl
              · cases h
            · cases h
          | ret =>
            simp only at h
            split at h
            · rename_i A2 hl
              split at h
              · rename_i vs hres
                cases h
                exact fin vs A' (.inr rfl) hl hres rfl rfl
              · cases h
            · cases h
        · cases h
      · cases h
    · cases h
  · cases h

theorem aroundBy_ok (hmix : P.follows .mixedOrders = true) (hcall : CallOk P gl C) {b : Nat} {args : List Value} {A : AS} {v : Value} {A' : AS} {φ : Emb} {w : World} {args' : Array Value} {e : Em} {k : ABlk} {lp : ALoop} {r : Loop}
    (h : aroundBy P gl fuel C b args A = some (v, A')) (hr : Rel φ A w) (hg : GRel gl φ) (hargs : RL args φ args') (he : φ b = some e) (hk : A.bl.get b = some k) (hobj : k.obj = .oth (.loop lp)) (hheap : w.heap[e.blk]? = some (.loop r)) (hoth : OthRel φ (.loop lp) (.loop r)) :
    args'.size = r.params.size ∧ RoundIn Fence.wide 0 P e.blk r.fn ((r.params.zip args').foldl (fun tmps (t, a) => tmps.setIfInBounds t a) r.tmps) r.assign r.body w (CPost φ A w v A') := by
  unfold aroundBy at h
  have hgl : A.getLoop b = some lp := by unfold AS.getLoop; rw [hk]; simp only [hobj]
  rw [hgl] at h
  simp only at h
  obtain ⟨r0, hr0, hst, hpend, hN, hps, has, hbd, hdf, hsl⟩ := id hoth
  cases hr0
  split at h
  · rename_i sl0 hset
    have hs0 : SR lp.N [] φ lp.sl { tmps := r.tmps, defers := [] } := ⟨hN, rfl, hsl⟩
    obtain ⟨ua⟩ := args'
    obtain ⟨hu1, hu2⟩ := hargs
    simp only [List.size_toArray] at hu1
    obtain ⟨hlen, hs1⟩ := SR.setPs lp.params args ua lp.sl sl0 _ hs0 hset hu1 (fun j hj => by simpa [Array.getD_eq_getD_getElem?] using hu2 j hj)
    refine ⟨by rw [hps]; simp [hlen], ?_⟩
    have htm : (r.params.zip ⟨ua⟩).foldl (fun tmps (t, a) => tmps.setIfInBounds t a) r.tmps = (lp.params.zip ua).foldl (fun tmps p => tmps.setIfInBounds p.1 p.2) r.tmps := by
      rw [hps, ← Array.foldl_toList]
      simp
    rw [htm]
    split at h
    · rename_i s1 hassign
      split at h
      · rename_i lp1 hl1
        cases hrd : isReady lp1.state with
        | false => rw [hrd] at h; cases h
        | true =>
          rw [hrd, cond_true] at h
          split at h
          · rename_i A2 hso
            split at h
            · rename_i x s3 hbody
              split at h
              · rename_i lp3 hl3
                split at h
                · rename_i A4 hso4
                  cases h
                  refine roundIn_of_wpIn trivial ?_
                  rw [has, hbd]
                  have hwa := wp_acode (ro := some e.blk) hmix hcall true (fun h => by cases h) fuel lp.assign { sl := sl0, ms := [], A } .normal s1 φ w _ [] hassign hr hg .nil hs1
                  refine wpIn_mono (F := Fr (some e.blk)) hwa fun e1 a1 w1 hp => ?_
                  obtain ⟨rfl, φ1, ds1, q0, q1, q2⟩ := hp
                  have he1 := q2.ext hr _ _ he
                  obtain ⟨r1, g1, g2, g3, g4⟩ := rel_getLoop (P := P) q2.rel hl1 he1
                  obtain ⟨r1', hr1, hst1, hrest1⟩ := id g2
                  cases hr1
                  have st2 := step_setOth (o' := .loop { r1 with state := .busy }) q2.rel he1 hso ⟨{ r1 with state := .busy }, rfl, rfl, hrest1⟩
                  refine ⟨{ w1 with heap := w1.heap.setIfInBounds e.blk (.loop { r1 with state := .busy }) }, ?_, ?_⟩
                  · unfold Instr.beginRound
                    refine run_then g3 ?_
                    refine run_then (a := ()) (g4 _) ?_
                    rw [hst1]
                    cases hls : lp1.state <;> rw [hls] at hrd <;> first | rfl | cases hrd
                  · have hsA := Step.trans hr q2 st2
                    have hwb := wp_acode (ro := some e.blk) hmix hcall true (fun h => by cases h) fuel lp.body { sl := s1.sl, ms := s1.ms, A := A2 } x s3 φ1 _ a1 ds1 hbody st2.rel (hg.mono (hsA.ext hr)) q0 q1
                    refine wpIn_mono (F := Fr (some e.blk)) hwb fun e2 a2 w2 hp2 => ?_
                    obtain ⟨rfl, φ3, ds3, p0, p1, p2⟩ := hp2
                    have he3 := p2.ext st2.rel _ _ he1
                    obtain ⟨r3, u1, u2, u3, u4⟩ := rel_getLoop (P := P) p2.rel hl3 he3
                    obtain ⟨r3', hr3, hst3, hpend3, hrest3⟩ := id u2
                    cases hr3
                    have st4 := step_setOth (o' := .loop { r3 with state := stateOf x, pending := jumpOf x }) p2.rel he3 hso4 ⟨{ r3 with state := stateOf x, pending := jumpOf x }, rfl, rfl, rfl, hrest3⟩
                    have stAll := Step.trans hr hsA (Step.trans st2.rel p2 st4)
                    have hend : ∀ (j : Option Code), j = jumpOf x → (Instr.endRound e.blk j).run P w2 = .ok (.bool (isNormal x)) { w2 with heap := w2.heap.setIfInBounds e.blk (.loop { r3 with state := stateOf x, pending := jumpOf x }) } := by
                      intro j hj
                      subst hj
                      unfold Instr.endRound
                      refine run_then u3 ?_
                      have hst : (if (jumpOf x).isNone then LoopState.ready else LoopState.done) = stateOf x := by cases x <;> rfl
                      have hn : (jumpOf x).isNone = isNormal x := by cases x <;> rfl
                      rw [hst, hn]
                      exact run_then (a := ()) (u4 _) rfl
                    have post : CPost φ A w (.bool (isNormal x)) A' (.returned (.bool (isNormal x))) { w2 with heap := w2.heap.setIfInBounds e.blk (.loop { r3 with state := stateOf x, pending := jumpOf x }) } := ⟨φ3, .bool _, stAll⟩
                    cases x with
                    | normal => exact ⟨_, _, hend _ rfl, post⟩
                    | ret => exact ⟨_, _, hend _ rfl, post⟩
                    | exit xid => exact ⟨_, _, hend _ rfl, post⟩
                    | goto l => exact ⟨_, _, hend _ rfl, post⟩
                · cases h
              · cases h
            · cases h
          · cases h
      · cases h
    · cases h
  · cases h

end
end AE
end Go.Proofs.YtblhndlmgibljaaDoor

/- AE, calls by contract: a table of calls that leave all memory as it was; evaluation from nothing. -/
namespace Go.Proofs.YtblhndlmgibljaaDoor
open Go Go.RowKit
namespace AE

structure Low (B : Nat) (w w' : World) : Prop where
  below : Below B w w'
  drawn : dr0 w ≤ dr0 w'

theorem Low.refl (B : Nat) (w : World) : Low B w w := ⟨Below.refl _ _, Nat.le_refl _⟩
theorem Low.trans {B : Nat} {a w w' : World} (h : Low B a w) (g : Low B w w') : Low B a w' := ⟨h.below.trans g.below, Nat.le_trans h.drawn g.drawn⟩
theorem Low.mono {B B' : Nat} {w w' : World} (h : Low B w w') (hb : B' ≤ B) : Low B' w w' := ⟨h.below.mono hb, h.drawn⟩
theorem Low.size {B : Nat} {w w' : World} (h : Low B w w') : w.heap.size ≤ w'.heap.size := h.below.size
theorem Low.block {B : Nat} {w w' : World} (h : Low B w w') : ∀ k, k < B → w'.heap[k]? = w.heap[k]? := h.below.block

class CallTab (P : Program) where
  calls : List (FuncId × List Value × Value)

def findC (f : FuncId) (args : List Value) : List (FuncId × List Value × Value) → Option Value
  | [] => none
  | p :: r => bif Nat.beq f p.1 && eqVL args p.2.1 then some p.2.2 else findC f args r

theorem findC_mem {f : FuncId} {args : List Value} {v : Value} : ∀ {l : List (FuncId × List Value × Value)}, findC f args l = some v → (f, args, v) ∈ l
  | [], h => by cases h
  | p :: r, h => by
    unfold findC at h
    cases he : (Nat.beq f p.1 && eqVL args p.2.1) with
    | true =>
      rw [he, cond_true, Option.some.injEq] at h
      simp only [Bool.and_eq_true] at he
      have h1 := Nat.eq_of_beq_eq_true he.1
      have h2 := eqVL_sound _ _ he.2
      subst h1; subst h2; subst h
      exact List.mem_cons_self
    | false =>
      rw [he, cond_false] at h
      exact List.mem_cons_of_mem _ (findC_mem h)

def boxF (g : FuncId) (u : Value) : Value := .func (.func g) ⟨[]⟩ ⟨[.agg ⟨[.slice none 7 7, u]⟩]⟩
def deref1 (A : AS) (v : Value) : Option Value :=
  bif plainS v then some v else match v with
  | .func (.func g) ⟨[]⟩ ⟨[.pointer (some ⟨b, off, none⟩)]⟩ => match A.load b off with
    | some u => bif plainS u then some (boxF g u) else none
    | none => none
  | _ => none
def derefs (A : AS) : List Value → Option (List Value)
  | [] => some []
  | v :: r => match deref1 A v, derefs A r with
    | some v', some r' => some (v' :: r')
    | _, _ => none

def overF (P : Program) [CallTab P] (C : ACalls) : ACalls where
  call := fun f args A => match CallTab.calls P with
    | [] => C.call f args A
    | l => match derefs A args with
      | some us => match findC f us l with
        | some v => some (v, A)
        | none => C.call f args A
      | none => C.call f args A
  round := C.round

def ocalls (P : Program) [Lib P] [Facts P] [CallTab P] (gl : Tr Nat) (fuel : Nat) : Nat → ACalls
  | 0 => overF P { call := fun _ _ _ => none, round := fun _ _ _ => none }
  | d + 1 => overF P { call := acallBy P gl fuel (ocalls P gl fuel d), round := aroundBy P gl fuel (ocalls P gl fuel d) }

variable [Sig]

def CallFactOk (P : Program) (p : FuncId × List Value × Value) : Prop :=
  plainSL p.2.1 = true ∧ plainS p.2.2 = true ∧ ∀ w, ImmW w → Calls P p.1 ⟨interpL p.2.1⟩ w fun e w' => e = .returned (interp p.2.2) ∧ Low w.heap.size w w'

def ArgLike (w : World) (v a : Value) : Prop :=
  (plainS v = true ∧ a = interp v) ∨ ∃ g u B off, v = boxF g u ∧ plainS u = true ∧ a = .func (.func g) #[] #[.pointer (some ⟨B, off, none⟩)] ∧ B < w.heap.size ∧ w.cell? ⟨B, off, none⟩ = some (interp u)
def ArgsLike (w : World) : List Value → List Value → Prop
  | [], [] => True
  | v :: r, a :: s => ArgLike w v a ∧ ArgsLike w r s
  | _, _ => False

def CallFactR (P : Program) (p : FuncId × List Value × Value) : Prop :=
  ∀ w, ImmW w → ∀ us, ArgsLike w p.2.1 us → Calls P p.1 ⟨us⟩ w fun e w' => ∃ v', e = .returned v' ∧ (∀ φ, VRel φ p.2.2 v') ∧ Low w.heap.size w w'

theorem ArgsLike.plain {w : World} : ∀ {l us : List Value}, plainSL l = true → ArgsLike w l us → us = interpL l
  | [], [], _, _ => rfl
  | v :: r, a :: s, hp, h => by
    simp only [plainSL, Bool.and_eq_true] at hp
    have h2 := ArgsLike.plain hp.2 h.2
    rcases h.1 with ⟨_, h1⟩ | ⟨g, u, B, off, rfl, _⟩
    · rw [h1, h2]; rfl
    · have : plainS (boxF g u) = false := by unfold boxF; simp [plainS, plainSL]
      rw [this] at hp
      exact absurd hp.1 (by simp)
  | [], _ :: _, _, h => h.elim
  | _ :: _, [], _, h => h.elim

theorem CallFactR.of {P : Program} {p : FuncId × List Value × Value} (h1 : plainSL p.2.1 = true) (h : ∀ w, ImmW w → Calls P p.1 ⟨interpL p.2.1⟩ w fun e w' => ∃ v', e = .returned v' ∧ (∀ φ, VRel φ p.2.2 v') ∧ Low w.heap.size w w') : CallFactR P p :=
  fun w hw us ha => by rw [ha.plain h1]; exact h w hw

theorem CallFactOk.toR {P : Program} {p : FuncId × List Value × Value} (h : CallFactOk P p) : CallFactR P p :=
  .of h.1 fun w hw => (h.2.2 w hw).mono fun e w' ⟨he, hb⟩ => ⟨_, he, fun φ => VRel.of_plainS φ _ h.2.1, hb⟩

def CallsOk (P : Program) [CallTab P] : Prop := ∀ p ∈ CallTab.calls P, CallFactR P p

theorem Step.below {φ : Emb} {A : AS} {w w' : World} (hr : Rel φ A w) (hb : Low w.heap.size w w') : Step φ A w φ A w' where
  rel := ⟨hr.wf, fun b e h => by
      obtain ⟨k, h1, h2, h3⟩ := hr.dom b e h
      exact ⟨k, h1, h2, h3.mono (fun _ _ h => h) (hb.block _ h3.lt)⟩, hr.apart, hr.along, fun i o hi => by
      obtain ⟨h1, h2⟩ := hr.imm i o hi
      exact ⟨by rw [hb.block i (Array.getElem?_eq_some_iff.1 h1).1]; exact h1, h2⟩⟩
  dom := fun _ _ => rfl
  newm := fun b h1 h2 => by omega
  new := fun b e h1 h2 => absurd (hr.lt h2) (by omega)
  n_le := Nat.le_refl _
  low := Nat.le_refl _
  same := fun _ _ _ => rfl
  ro := fun _ _ h _ => h
  keep := fun i hi _ => hb.block i hi
  hsize := hb.size
  os := hb.below.os
  tape := hb.below.tape
  output := hb.below.output
  drawn := hb.drawn

theorem deref1_ok {φ : Emb} {A : AS} {w : World} (hr : Rel φ A w) {v v' a : Value} (h : deref1 A v = some v') (ha : VRel φ v a) : ArgLike w v' a := by
  unfold deref1 at h
  cases hp : plainS v with
  | true =>
    rw [hp, cond_true, Option.some.injEq] at h
    subst h
    exact .inl ⟨hp, VRel.eq_of_plainS v hp ha⟩
  | false =>
    rw [hp, cond_false] at h
    split at h
    · rename_i g b off
      split at h
      · rename_i u hu
        cases hpu : plainS u with
        | false => rw [hpu] at h; cases h
        | true =>
          rw [hpu, cond_true, Option.some.injEq] at h
          subst h
          cases ha with
          | func fs fs' cs cs' hn h1 h2 hf hc =>
            have e1 : fs' = #[] := by
              apply Array.eq_empty_of_size_eq_zero
              have := h1
              simp at this
              omega
            have hs : cs'.size = 1 := by
              have := h2
              simp at this
              omega
            have h0 := hc 0 (by simp)
            obtain ⟨c0, rfl⟩ : ∃ c0, cs' = #[c0] := by
              obtain ⟨l⟩ := cs'
              match l, hs with
              | [c0], _ => exact ⟨c0, rfl⟩
            have h0' : VRel φ (.pointer (some ⟨b, off, none⟩)) c0 := by simpa using h0
            cases h0' with
            | ptr he =>
              rename_i e
              obtain ⟨u', g1, g2⟩ := rel_load hr hu he
              refine .inr ⟨g, u, e.blk, e.sh + off, rfl, hpu, by rw [e1], ?_, ?_⟩
              · obtain ⟨k, _, _, h3⟩ := hr.dom b e he
                exact h3.lt
              · rw [g1, VRel.eq_of_plainS u hpu g2]
      · cases h
    · cases h

theorem derefs_ok {φ : Emb} {A : AS} {w : World} (hr : Rel φ A w) : ∀ {args us l : List Value}, derefs A args = some us → args.length = l.length → (∀ j, j < args.length → VRel φ (args.getD j Go.undef) (l.getD j Go.undef)) → ArgsLike w us l
  | [], us, [], h, _, _ => by cases h; trivial
  | v :: r, us, a :: s, h, hl, hj => by
    unfold derefs at h
    split at h
    · rename_i v' r' h1 h2
      cases h
      exact ⟨deref1_ok hr h1 (by simpa using hj 0 (by simp)), derefs_ok hr h2 (by simpa using hl) fun j hj' => by simpa using hj (j + 1) (by simpa using hj')⟩
    · cases h
  | [], _, _ :: _, _, h, _ => by cases h
  | _ :: _, _, [], _, h, _ => by cases h

theorem overF_ok {P : Program} [Facts P] [CallTab P] {gl : Tr Nat} {C : ACalls} (hC : CallsOk P) (h : CallOk P gl C) : CallOk P gl (overF P C) := by
  refine ⟨h.facts, fun f args A v A' φ w args' hc hr hg hargs => ?_, h.round⟩
  unfold overF at hc
  simp only at hc
  split at hc
  · exact h.call f args A v A' φ w args' hc hr hg hargs
  split at hc
  · rename_i us has
    split at hc
    · rename_i u hu
      cases hc
      have h3 := hC _ (findC_mem hu)
      obtain ⟨l⟩ := args'
      have hl := derefs_ok hr has hargs.1.symm (l := l) (fun i hi => by simpa using hargs.2 i hi)
      refine (h3 w (fun i o hi => (hr.imm i o hi).1) l hl).mono fun e w' he => ?_
      obtain ⟨v', rfl, hv, hb⟩ := he
      exact ⟨φ, hv φ, Step.below hr hb⟩
    · exact h.call f args A v A' φ w args' hc hr hg hargs
  · exact h.call f args A v A' φ w args' hc hr hg hargs

theorem ocalls_ok {P : Program} [Lib P] [Facts P] [CallTab P] {gl : Tr Nat} {fuel : Nat} (hmix : P.follows .mixedOrders = true) (hF : FactsOk P) (hC : CallsOk P) : ∀ d, CallOk P gl (ocalls P gl fuel d)
  | 0 => overF_ok hC ⟨hF, fun f args A v A' φ w args' h => (by cases h), fun b args A v A' φ w args' e k lp r h => (by cases h)⟩
  | d + 1 => overF_ok hC ⟨hF, fun f args A v A' φ w args' h hr hg hargs => acallBy_ok hmix (ocalls_ok hmix hF hC d) h hr hg hargs,
      fun b args A v A' φ w args' e k lp r h hr hg hargs he hk hobj hheap hoth => aroundBy_ok hmix (ocalls_ok hmix hF hC d) h hr hg hargs he hk hobj hheap hoth⟩

def start : AS := { bl := .nil, n := 0, mem := .nil, low := 0 }

theorem rel_start {w : World} (hi : ImmW w) : Rel (fun _ => none) start w :=
  ⟨⟨fun _ _ h => (by cases h), fun _ _ h => (by cases h), fun _ _ h => (by cases h), fun _ _ _ _ h => (by cases h)⟩, fun _ _ h => (by cases h), fun _ _ _ _ _ _ h => (by cases h), fun _ _ _ _ _ _ h => (by cases h), fun i o h => ⟨hi i o h, fun _ _ h => by cases h⟩⟩

def evalCall (P : Program) [Lib P] [Facts P] [CallTab P] (fuel d : Nat) (f : FuncId) (args : List Value) : Option Value :=
  match acallBy P .nil fuel (ocalls P .nil fuel d) f args start with
  | some (v, _) => bif plainS v && plainSL args then some v else none
  | none => none

theorem evalCall_any {P : Program} [Lib P] [Facts P] [CallTab P] {fuel d : Nat} (hmix : P.follows .mixedOrders = true) (hF : FactsOk P) (hC : CallsOk P) {f : FuncId} {args : List Value} {v : Value} (h : evalCall P fuel d f args = some v) {w : World} (hi : ImmW w) :
    Calls P f ⟨interpL args⟩ w fun e w' => e = .returned (interp v) ∧ Low w.heap.size w w' := by
  unfold evalCall at h
  split at h
  · rename_i u A' hc
    cases hp : (plainS u && plainSL args) with
    | false => rw [hp] at h; cases h
    | true =>
      rw [hp, cond_true, Option.some.injEq] at h
      subst h
      simp only [Bool.and_eq_true] at hp
      refine (acallBy_ok hmix (ocalls_ok hmix hF hC d) hc (rel_start hi) (fun g b hg => by cases hg) (args' := ⟨interpL args⟩) ⟨by simp [interpL_length], fun j hj => ?_⟩).mono fun e w' he => ?_
      · have := VRel.of_plainSL (fun _ => none) args hp.2 j hj
        simpa using this
      · cases e with
        | returned v' =>
          obtain ⟨φ', hv, hs⟩ := he
          rw [VRel.eq_of_plainS u hp.1 hv]
          exact ⟨rfl, ⟨hs.os, hs.tape, hs.output, hs.hsize, fun k hk => hs.keep k hk fun b e k h => by cases h⟩, hs.drawn⟩
        | panicked ch => exact he.elim
        | outgrown => exact he.elim
  · cases h

@[reducible] def noCalls (P : Program) : CallTab P := ⟨[]⟩

end AE
end Go.Proofs.YtblhndlmgibljaaDoor

/- What the walks need of the program: its library functions without a body, its orders. -/
namespace Go.Proofs.YtblhndlmgibljaaDoor
open Go Go.Proofs Go.RowKit
namespace AE

theorem lib_same (x : Value) : pureRun Tryd.prog (callFunc 64 #[x]) = some (.value x) := by kernel_rfl

noncomputable instance : Lib Tryd.prog where
  same := [64]
  sameOk := fun f hf x => by
    have : f = 64 := by simpa using hf
    subst this
    exact lib_same x
  nozero := []
  nozeroOk := fun p hp => by cases hp

set_option maxRecDepth 100000 in
theorem mixed : Tryd.prog.follows .mixedOrders = true := by kernel_rfl

end AE
end Go.Proofs.YtblhndlmgibljaaDoor

/- AE, H: what is known at a place of a function's body; pieces of code, calls with new results, loops, entry and end. -/
namespace Go.Proofs.YtblhndlmgibljaaDoor
open Go Go.RowKit
namespace AE

class Outer where
  φ0 : Emb
  n0 : Nat

@[reducible] def noOuter : Outer := ⟨fun _ => none, 0⟩

def Outs [Outer] (φ : Emb) (A : AS) : Prop := Outer.n0 ≤ A.n ∧ ∀ b, b < Outer.n0 → φ b = Outer.φ0 b

theorem Outs.step [Sig] [Outer] {φ φ' : Emb} {A A' : AS} {w w' : World} (h : Outs φ A) (hs : Step φ A w φ' A' w') : Outs φ' A' :=
  ⟨Nat.le_trans h.1 hs.n_le, fun b hb => by rw [hs.dom b (Nat.lt_of_lt_of_le hb h.1)]; exact h.2 b hb⟩

theorem Outs.none (φ : Emb) (A : AS) : @Outs noOuter φ A := ⟨Nat.zero_le _, fun b hb => absurd hb (Nat.not_lt_zero _)⟩

structure Here [Sig] [Outer] (N : Nat) (s : ASt) (B : Nat) (w0 : World) (a : Act) (w : World) : Prop where
  ex : ∃ φ ds, MRel φ s.ms ds ∧ SR N ds φ s.sl a ∧ Rel φ s.A w ∧ (∀ b e, φ b = some e → B ≤ e.blk) ∧ Outs φ s.A
  below : Low B w0 w
  size : B ≤ w.heap.size

section
variable [Sig]

theorem step_below {φ φ' : Emb} {A A' : AS} {w w' : World} {B : Nat} (hB : ∀ b e, φ b = some e → B ≤ e.blk) (hs : Step φ A w φ' A' w') (hsz : B ≤ w.heap.size) : (∀ b e, φ' b = some e → B ≤ e.blk) ∧ Low B w w' := by
  refine ⟨fun b e he => ?_, ⟨hs.os, hs.tape, hs.output, hs.hsize, fun k hk => hs.keep k (by omega) fun b e kk hb he _ => by have := hB b e hb; omega⟩, hs.drawn⟩
  rcases Nat.lt_or_ge b A.n with h | h
  · rw [hs.dom b h] at he
    exact hB b e he
  · rcases hs.new b e h he with h1 | ⟨b0, e0, k0, q1, q2, _⟩
    · omega
    · rw [← q2]
      exact hB b0 e0 q1

omit [Sig] in
theorem gr_nil (φ : Emb) : GRel .nil φ := fun g b hg => by cases hg

variable [Outer]
variable {P : Program} [Lib P] [Facts P] {C : ACalls} {N B : Nat} {w0 w : World} {a : Act} {s s' : ASt}

theorem here_code (hmix : P.follows .mixedOrders = true) (hcall : CallOk P .nil C) (fuel : Nat) {c : Code} {x : AX} (h : acode P C .nil N false fuel c s = some (x, s')) (hh : Here N s B w0 a w) :
    c.wpIn (Fr none) 0 P (fun e a' w' => e = x.exit' ∧ Here N s' B w0 a' w') a w := by
  obtain ⟨⟨φ, ds, h1, h2, h3, h4, h7⟩, h5, h6⟩ := hh
  refine wpIn_mono (wp_acode (ro := none) hmix hcall false (fun _ => rfl) fuel c s x s' φ w a ds h h3 (gr_nil φ) h1 h2) fun e a' w' hp => ?_
  obtain ⟨rfl, φ', ds', q1, q2, q3⟩ := hp
  obtain ⟨k1, k2⟩ := step_below h4 q3 h6
  exact ⟨rfl, ⟨φ', ds', q1, q2, q3.rel, k1, h7.step q3⟩, h5.trans k2, Nat.le_trans h6 q3.hsize⟩

theorem here_cond {c : Operand} {t : Bool} (h : evs .nil s.sl c = .bool t) (hh : Here N s B w0 a w) : a.eval c = .bool t := by
  obtain ⟨⟨φ, ds, h1, h2, h3, h4, _⟩, _, _⟩ := hh
  have := evs_rel (gr_nil φ) h2.get c
  rw [h] at this
  cases hv : a.eval c <;> rw [hv] at this <;> cases this
  rfl

omit [Lib P] in
theorem here_truth (hF : FactsOk P) {c : Operand} {t : Bool} (h : truthOf P (evs .nil s.sl c) = some t) (hh : Here N s B w0 a w) : a.eval c = .bool t := by
  obtain ⟨⟨φ, ds, h1, h2, h3, h4, _⟩, _, _⟩ := hh
  exact truth_ok hF w h (evs_rel (gr_nil φ) h2.get c)

omit [Outer] in
theorem wpList_prefix (hcall : CallOk P .nil C) {ds : List Deferred} {ops : Array Oper} {Q : Exit → Act → World → Prop} {l2 : List Oper} : ∀ (l : List Oper) (sl sl' : Sl) (A A' : AS) (φ : Emb) (w : World) (a : Act), Rel φ A w → SR N ds φ sl a → aregion P C .nil N ops l sl A = some (sl', A') →
    (∀ φ' a' w', SR N ds φ' sl' a' → Step φ A w φ' A' w' → wpListIn (Fr none) 0 P ops Q l2 a' w') → wpListIn (Fr none) 0 P ops Q (l ++ l2) a w
  | [], sl, sl', A, A', φ, w, a, hr, hs, h, hQ => by
    cases h
    exact hQ φ a w hs (Step.refl hr)
  | o :: r, sl, sl', A, A', φ, w, a, hr, hs, h, hQ => by
    unfold aregion at h
    split at h
    · rename_i sl1 A1 hst
      obtain ⟨v, hv, hp⟩ := astep_aval hst
      rw [List.cons_append]
      unfold wpListIn
      refine wp_aval hcall hr (gr_nil φ) hs.get hv fun φ' v' w' hvv hstep => ?_
      exact wpList_prefix hcall r sl1 sl' A1 A' φ' w' (a.put o.dst v') hstep.rel ((hs.mono (hstep.ext hr)).put hvv hp) h fun φ2 a2 w2 h1 h2 => hQ φ2 a2 w2 h1 (Step.trans hr hstep h2)
    · cases h

theorem here_ops (hcall : CallOk P .nil C) {ops : Array Oper} {Q : Exit → Act → World → Prop} (l1 l2 : List Oper) {sl1 : Sl} {A1 : AS} (h : aregion P C .nil N ops l1 s.sl s.A = some (sl1, A1)) (hh : Here N s B w0 a w)
    (hQ : ∀ a' w', Here N { sl := sl1, ms := s.ms, A := A1 } B w0 a' w' → wpListIn (Fr none) 0 P ops Q l2 a' w') : wpListIn (Fr none) 0 P ops Q (l1 ++ l2) a w := by
  obtain ⟨⟨φ, ds, h1, h2, h3, h4, h7⟩, h5, h6⟩ := hh
  refine wpList_prefix hcall l1 _ _ _ _ φ w a h3 h2 h fun φ' a' w' q1 q2 => ?_
  obtain ⟨k1, k2⟩ := step_below h4 q2 h6
  exact hQ a' w' ⟨⟨φ', ds, h1.mono (q2.ext h3), q1, q2.rel, k1, h7.step q2⟩, h5.trans k2, Nat.le_trans h6 q2.hsize⟩

theorem Here.put {d : Option Tmp} {v : Value} {sl' : Sl} (hh : Here N s B w0 a w) (hp : plainS v = true) (hset : aput N s.sl d v = some sl') : Here N { s with sl := sl' } B w0 (a.put d (interp v)) w := by
  obtain ⟨⟨φ, ds, h1, h2, h3, h4, h7⟩, h5, h6⟩ := hh
  exact ⟨⟨φ, ds, h1, h2.put (VRel.of_plainS φ v hp) hset, h3, h4, h7⟩, h5, h6⟩

omit [Facts P] in
omit [Lib P] in
theorem here_call {ops : Array Oper} {Q : Exit → Act → World → Prop} {o : Oper} {r : List Oper} {c : Call} {f : FuncId} {args : List Value} {R : Value → World → Prop} (ho : o.op = .call c) (hc : c.callee = .value (.func f)) (hg : aWanted ops o s.sl = some true)
    (he : enters P f = true) (ha : c.args.toList.map (evs .nil s.sl) = args) (hp : plainSL args = true) (hh : Here N s B w0 a w)
    (hcon : Calls P f ⟨interpL args⟩ w fun e w' => ∃ v, e = .returned v ∧ R v w') (hK : ∀ v w', R v w' → wpListIn (Fr none) 0 P ops Q r (a.put o.dst v) w') : wpListIn (Fr none) 0 P ops Q (o :: r) a w := by
  obtain ⟨⟨φ, ds, h1, h2, h3, h4, _⟩, h5, h6⟩ := hh
  unfold wpListIn
  rw [wanted_spec h2.get hg, if_pos rfl]
  have hargs : c.args.map a.eval = ⟨interpL args⟩ := by
    have := RL.map (φ := φ) (l := c.args) (ρ := evs .nil s.sl) (ρ' := a.eval) fun x _ => evs_rel (gr_nil φ) h2.get x
    rw [ha] at this
    obtain ⟨q1, q2⟩ := this
    generalize c.args.map a.eval = u at q1 q2
    obtain ⟨u⟩ := u
    rw [VRel.eq_of_plainSL args u hp (by simpa using q1.symm) (fun i hi => by simpa using q2 i hi)]
  have hrun : (execOp a.eval o).run P w = .ok (.enter f ⟨interpL args⟩) w := by
    unfold execOp
    rw [ho]
    simp only
    refine run_pre (a := { target := .fn (.func f) #[], args := #[] ++ c.args.map a.eval }) (by unfold resolve; rw [hc]; rfl) ?_
    simp only [Array.empty_append, hargs]
    show (callFunc f (_ ++ #[])).run P w = _
    rw [Array.append_empty]
    exact pureRun_run (enters_run he _) w
  have hnd : ∀ c', o.op ≠ .defer c' := fun c' h => by rw [ho] at h; cases h
  refine ⟨fun _ _ => trivial, ?_⟩
  rw [Oper.semAt_eq _ _ _ hnd, hrun, Oper.uponIn_enter]
  refine ⟨fun h => absurd h (by simp [Fr, Fence.wide]), ?_⟩
  refine CallsIn.mono (callsIn_fr hcon) fun e w2 he => ?_
  obtain ⟨v, rfl, hR⟩ := he
  exact hK v w2 hR

end

/- LOOPS -/

theorem here_loop [Outer] {P : Program} {N B : Nat} {w0 w : World} {a : Act} {X : Type} (sg : X → Sig) (s0 : ASt) (I : X → Prop) (μ : X → Nat) {body : Code} {Q : Exit → Act → World → Prop}
    (round : ∀ x, I x → ∀ a w, @Here (sg x) _ N s0 B w0 a w → body.wpIn (Fr none) 0 P (Exit.then (fun a' w' => ∃ x', I x' ∧ μ x' < μ x ∧ @Here (sg x') _ N s0 B w0 a' w') Q) a w)
    (x : X) (hx : I x) (hh : @Here (sg x) _ N s0 B w0 a w) : (Code.loop body).wpIn (Fr none) 0 P Q a w := by
  have key : ∀ n x a w, μ x ≤ n → I x → @Here (sg x) _ N s0 B w0 a w → Code.roundsIn (Fr none) 0 P body Q (n + 1) a w := by
    intro n
    induction n with
    | zero =>
      intro x a w hn hx hh
      rw [roundsIn_succ]
      refine wpIn_mono (round x hx a w hh) fun e a' w' hp => ?_
      cases e with
      | normal => obtain ⟨x', _, hlt, _⟩ := hp; omega
      | _ => exact hp
    | succ n ih =>
      intro x a w hn hx hh
      rw [roundsIn_succ]
      refine wpIn_mono (round x hx a w hh) fun e a' w' hp => ?_
      cases e with
      | normal =>
        obtain ⟨x', hx', hlt, hh'⟩ := hp
        exact ih x' a' w' (by omega) hx' hh'
      | _ => exact hp
  exact wpIn_loop_rounds _ (key (μ x) x a w (Nat.le_refl _) hx hh)

/- ENTRY AND END -/

def retSt (v : Value) (A : AS) : ASt := { sl := .node (some v) .nil .nil, ms := [], A }
def retAct (v : Value) : Act := { tmps := #[v], defers := [] }

def Ends [Outer] (P : Program) (fn : Func) (N B : Nat) (w0 : World) (R : Ending → World → Prop) (a : Act) (w : World) : Prop :=
  ∃ (sg : Sig) (s : ASt) (A2 : AS) (vs : List Value), @Here sg _ N s B w0 a w ∧ @aleave s.A s.ms = some A2 ∧ ares P A2 s.sl fn.results.toList = some vs ∧
    ∀ v' w2, @Here sg _ 1 (retSt (oneOf vs) A2) B w0 (retAct v') w2 → R (.returned v') w2

def EndX [Outer] (P : Program) (fn : Func) (N B : Nat) (w0 : World) (R : Ending → World → Prop) : Exit → Act → World → Prop
  | .normal, a, w => Ends P fn N B w0 R a w
  | .ret, a, w => Ends P fn N B w0 R a w
  | _, _, _ => False

theorem calls_here [Sig] [Outer] {P : Program} {f : FuncId} {fn : Func} {c : Code} (hfn : P.funcs[f]? = some fn) (hc : fn.body = some c) {args : List Value} {sl : Sl} (hsl : setArgs 0 args .nil = some sl) {φ : Emb} {A : AS} {w0 w : World} {B : Nat} {args' : Array Value}
    (hr : Rel φ A w) (hB : ∀ b e, φ b = some e → B ≤ e.blk) (ho : Outs φ A) (hargs : RL args φ args') (hb : Low B w0 w) (hsz : B ≤ w.heap.size) {R : Ending → World → Prop}
    (hcode : ∀ a, Here (args.length + (fn.ntmps - args.length)) { sl, ms := [], A } B w0 a w → c.wpIn (Fr none) 0 P (EndX P fn (args.length + (fn.ntmps - args.length)) B w0 R) a w) : Calls P f args' w R := by
  have hsz' : args'.size = args.length := hargs.1
  have hs : SR (args.length + (fn.ntmps - args.length)) [] φ sl { tmps := args' ++ Array.replicate (fn.ntmps - args'.size) undef, defers := [] } := by
    refine ⟨by simp [hsz'], rfl, fun t u hu => ?_⟩
    rcases setArgs_spec _ _ _ _ hsl t u hu with ⟨j, hj, ht, rfl⟩ | hg
    · have := hargs.2 j hj
      simp only [Nat.zero_add] at ht
      subst ht
      simp only [Array.getD_eq_getD_getElem?] at this ⊢
      rw [Array.getElem?_append_left (by omega)]
      exact this
    · cases hg
  refine (callsIn_wide (n := 0)).1 ?_
  refine callsIn_of_wp_marks hfn hc trivial ?_ rfl
  refine wpIn_mono (F := Fr none) (hcode _ ⟨⟨φ, [], .nil, hs, hr, hB, ho⟩, hb, hsz⟩) fun e a1 w1 hp => ?_
  have main : Ends P fn (args.length + (fn.ntmps - args.length)) B w0 R a1 w1 → LeavesInM (Fr none) 0 P fn a1.tmps R a1.defers .returning w1 := by
    rintro ⟨sg, s, A2, vs, hh, hl, hres, hR⟩
    letI := sg
    obtain ⟨⟨φ1, ds, q0, q1, q2, q3, q6⟩, q4, q5⟩ := hh
    rw [q1.defers]
    refine leaves_aleave s.ms ds s.A A2 w1 q2 q0 hl fun w2 k1 => ?_
    obtain ⟨v', g1, g2⟩ := run_results (fn := fn) k1.rel q1.get hres
    refine ⟨v', g1, ?_⟩
    obtain ⟨u1, u2⟩ := step_below q3 k1 q5
    refine hR v' w2 ⟨⟨φ1, [], .nil, ⟨rfl, rfl, fun t u hu => ?_⟩, k1.rel, u1, q6.step k1⟩, q4.trans u2, Nat.le_trans q5 k1.hsize⟩
    unfold retSt at hu
    simp only [Tr.get] at hu
    cases ht : (t == 0) with
    | true =>
      rw [ht, cond_true, Option.some.injEq] at hu
      subst hu
      have : t = 0 := by simpa using ht
      subst this
      exact g2
    | false =>
      rw [ht, cond_false] at hu
      cases hp : (t % 2 == 1) <;> rw [hp] at hu <;> cases hu
  cases e with
  | normal => exact main hp
  | ret => exact main hp
  | _ => exact hp.elim

end AE
end Go.Proofs.YtblhndlmgibljaaDoor

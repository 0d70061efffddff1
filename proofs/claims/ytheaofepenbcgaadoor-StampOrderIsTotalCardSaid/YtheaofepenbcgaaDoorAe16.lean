/- AE, part 16: a region that draws its order: what the evaluator does with it, and what its chain of states keeps. -/
import Derived.Test.YtheaofepenbcgaaDoorAe15
import Derived.Test.YtheaofepenbcgaaDoorPosts
namespace Go.Proofs.YtheaofepenbcgaaDoor
open Go
namespace AE
variable [Sig]

def aputs (N : Nat) (ops : Array Oper) (V : Nat → Value) : List Nat → Sl → Option Sl
  | [], sl => some sl
  | j :: r, sl => match aput N sl (dstOf ops j) (V j) with
    | some s => aputs N ops V r s
    | none => none

omit [Sig] in
theorem aputs_spec {N : Nat} {ops : Array Oper} {V : Nat → Value} : ∀ (js : List Nat) (sl sl' : Sl), aputs N ops V js sl = some sl' → ∀ t v, sl'.get t = some v →
    (∃ j ∈ js, dstOf ops j = some t ∧ v = V j) ∨ ((∀ j ∈ js, dstOf ops j ≠ some t) ∧ sl.get t = some v)
  | [], sl, sl', h, t, v, hv => by
    cases h
    exact .inr ⟨fun j hj => absurd hj (by simp), hv⟩
  | j :: r, sl, sl', h, t, v, hv => by
    unfold aputs at h
    split at h
    · rename_i s hs
      rcases aputs_spec r s sl' h t v hv with ⟨k, hk, hd, hV⟩ | ⟨hn, hg⟩
      · exact .inl ⟨k, List.mem_cons_of_mem _ hk, hd, hV⟩
      · unfold aput at hs
        cases hd : dstOf ops j with
        | none =>
          rw [hd] at hs
          cases hs
          refine .inr ⟨fun k hk => ?_, hg⟩
          rcases List.mem_cons.1 hk with rfl | hk
          · rw [hd]; simp
          · exact hn k hk
        | some d =>
          rw [hd] at hs
          simp only at hs
          cases hb : Nat.blt d N with
          | false => rw [hb] at hs; cases hs
          | true =>
            rw [hb, cond_true] at hs
            rw [Tr.get_set _ _ _ _ _ t hs] at hg
            by_cases htd : t = d
            · subst htd
              rw [if_pos rfl] at hg
              cases hg
              exact .inl ⟨j, List.mem_cons_self, hd, rfl⟩
            · rw [if_neg htd] at hg
              refine .inr ⟨fun k hk => ?_, hg⟩
              rcases List.mem_cons.1 hk with rfl | hk
              · rw [hd]; simp; exact fun h => htd h.symm
              · exact hn k hk
    · cases h

/- OPERATIONS THAT TOUCH NO MEMORY are taken first -/

def pureKind (o : Oper) : Bool :=
  (match o.guard with | none => true | some _ => false) &&
  match o.op with
  | .move _ | .assign _ | .binOp .. | .unOp .. => true
  | _ => false

def pureVal (P : Program) [Facts P] (ev : Operand → Value) (o : Oper) : Option Value :=
  match o.op with
  | .move x | .assign x => some (ev x)
  | .binOp op t x y _ => match factOf P ev o with
    | some v => some v
    | none => bif plain (ev x) && plain (ev y) then aPure P (do eqGuard op t x y (ev x) (ev y); binOp op t (ev x) (ev y)) else none
  | .unOp op _ x => match factOf P ev o with
    | some v => some v
    | none => bif plain (ev x) then aPure P (Op.unary op (ev x)) else none
  | _ => none

theorem pureVal_run {P : Program} [Facts P] (hF : FactsOk P) {φ : Emb} {ρ ρ' : Operand → Value} {o : Oper} {v : Value} (hρ : ∀ x, VRel φ (ρ x) (ρ' x)) (h : pureVal P ρ o = some v) : ∃ v', (∀ w, (execOp ρ' o).run P w = .ok (.value v') w) ∧ VRel φ v v' := by
  have fin : ∀ {s : Sem Value}, aPure P s = some v → ∃ v', (∀ w, (do pure (Next.value (← s)) : Sem Next).run P w = .ok (.value v') w) ∧ VRel φ v v' := by
    intro s hs
    unfold aPure at hs
    split at hs
    · rename_i u hu
      cases hp : plain u with
      | false => rw [hp] at hs; cases hs
      | true =>
        rw [hp, cond_true, Option.some.injEq] at hs
        subst hs
        exact ⟨u, fun w => pureRun_run (by rw [pureRun_bind, hu]; rfl) w, VRel.of_plain φ u hp⟩
    · cases hs
  unfold pureVal at h
  unfold execOp
  split at h
  · rename_i x hop
    cases h
    rw [hop]
    exact ⟨_, fun _ => rfl, hρ x⟩
  · rename_i x hop
    cases h
    rw [hop]
    exact ⟨_, fun _ => rfl, hρ x⟩
  · rename_i op t x y yt hop
    split at h
    · rename_i u hu
      cases h
      have := fact_pure hF hρ hu fun f hf => by
        unfold fop at hf
        rw [hop] at hf
        cases hf
        rfl
      unfold execOp at this
      exact this
    · cases hp : plain (ρ x) with
      | false => rw [hp] at h; cases h
      | true =>
        cases hq : plain (ρ y) with
        | false => rw [hp, hq] at h; cases h
        | true =>
          rw [hp, hq] at h
          rw [hop]
          simp only
          rw [VRel.eq_of_plain _ hp (hρ x), VRel.eq_of_plain _ hq (hρ y)]
          exact fin h
  · rename_i op t x hop
    split at h
    · rename_i u hu
      cases h
      have := fact_pure hF hρ hu fun f hf => by
        unfold fop at hf
        rw [hop] at hf
        cases hf
        rfl
      unfold execOp at this
      exact this
    · cases hp : plain (ρ x) with
      | false => rw [hp] at h; cases h
      | true =>
        rw [hp] at h
        rw [hop]
        simp only
        rw [VRel.eq_of_plain _ hp (hρ x)]
        exact fin h
  · cases h

/-- The operations that are taken first, in their order. -/
def takeGo (ops : Array Oper) : List Oper → Nat → Array Bool → List Nat
  | [], _, _ => []
  | o :: r, i, listed => bif pureKind o && ((Region.ready .any ops listed).contains i && Region.free .any ops listed i) then i :: takeGo ops r (i + 1) (listed.setIfInBounds i true) else takeGo ops r (i + 1) listed
def takeL (ops : Array Oper) : List Nat := takeGo ops ops.toList 0 (Array.replicate ops.size false)

def takeOk (ops : Array Oper) : List Nat → Array Bool → Bool
  | [], _ => true
  | i :: r, listed => ((Region.ready .any ops listed).contains i && Region.free .any ops listed i) && ((match ops[i]? with | some o => pureKind o | none => false) && takeOk ops r (listed.setIfInBounds i true))

def freeOkL (ops : Array Oper) (L : List Nat) (m N : Nat) : Bool :=
  decide (m ≤ ops.size) && Region.noSelect ops &&
  ((List.range m).all fun i => (List.range m).all fun j => i == j || dstOf ops i == none || dstOf ops i != dstOf ops j) &&
  ((List.range m).all fun i => match dstOf ops i with | some d => decide (d < N) | none => true) &&
  ((List.range m).all fun i => match ops[i]? with | some o => (needs ops m o).all (direct ops i ·) | none => false) &&
  ((List.range ops.size).all fun i => match ops[i]? with | some o => o.after.all (fun e => !Region.binds .any e || decide (e.on < i)) | none => false) &&
  ((List.range ops.size).all fun i => decide (i < m) || (List.range i).all fun j => (L.contains j && decide (j < m)) || anc ops 8 i j)

omit [Sig] in
theorem freeOkL_spec {ops : Array Oper} {L : List Nat} {m N : Nat} (h : freeOkL ops L m N = true) : m ≤ ops.size ∧ Region.noSelect ops = true ∧
    (∀ i j, i < m → j < m → i ≠ j → ∀ t, dstOf ops i = some t → dstOf ops j ≠ some t) ∧ (∀ i t, i < m → dstOf ops i = some t → t < N) ∧
    (∀ i o, i < m → ops[i]? = some o → ∀ j ∈ needs ops m o, direct ops i j = true) ∧ (∀ i j, i < ops.size → direct ops i j = true → j < i) ∧
    (∀ i j, i < ops.size → m ≤ i → j < i → (j ∈ L ∧ j < m) ∨ anc ops 8 i j = true) := by
  simp only [freeOkL, Bool.and_eq_true, decide_eq_true_eq, List.all_eq_true, List.mem_range] at h
  obtain ⟨⟨⟨⟨⟨⟨h1, h2⟩, h3⟩, h4⟩, h5⟩, h6⟩, h7⟩ := h
  refine ⟨h1, h2, ?_, ?_, ?_, ?_, ?_⟩
  · intro i j hi hj hne t ht ht'
    have := h3 i hi j hj
    simp [hne, ht, ht'] at this
  · intro i t hi ht
    have := h4 i hi
    simpa [ht] using this
  · intro i o hi ho j hj
    have := h5 i hi
    simp only [ho, List.all_eq_true] at this
    exact this j hj
  · intro i j hi hd
    have := h6 i hi
    unfold direct at hd
    have ho : ops[i]? = some ops[i] := Array.getElem?_eq_getElem hi
    simp only [ho] at this hd
    obtain ⟨e, he, hb⟩ := Array.any_eq_true'.1 hd
    simp only [Bool.and_eq_true, beq_iff_eq] at hb
    have h' := Array.all_eq_true_iff_forall_mem.1 this e he
    simp only [hb.1, Bool.not_true, Bool.false_or, decide_eq_true_eq] at h'
    exact hb.2 ▸ h'
  · intro i j hi hm hj
    have := h7 i hi
    simp only [Bool.or_eq_true, decide_eq_true_eq, List.all_eq_true, List.mem_range, Bool.and_eq_true] at this
    have := this.resolve_left (by omega) j hj
    simpa using this

def preds (o : Oper) (masks : List Nat) (m0 : Nat) : Nat := o.after.toList.foldl (fun acc e => bif Region.binds .any e then Nat.lor acc (Nat.lor (Nat.shiftLeft 1 e.on) (masks.getD e.on 0)) else acc) m0
def mGuessGo (m0 : Nat) : List Oper → Nat → List Nat → Nat → Nat
  | [], _, _, m => m
  | o :: r, i, masks, m => let p := preds o masks (Nat.land m0 (Nat.shiftLeft 1 i - 1)); mGuessGo m0 r (i + 1) (masks ++ [p]) (bif Nat.beq p (Nat.shiftLeft 1 i - 1) then m else i + 1)
def maskOf (L : List Nat) : Nat := L.foldl (fun a i => Nat.lor a (Nat.shiftLeft 1 i)) 0

/-- What is taken first, and how many operations are not forced into an order. -/
def planOf (ops : Array Oper) (N : Nat) (rnd : Bool) : Option (List Nat × Nat) :=
  let L0 := bif rnd then [] else takeL ops
  let m := mGuessGo (maskOf L0) ops.toList 0 [] 0
  let L := L0.filter fun i => Nat.blt i m
  bif freeOkL ops L m N && takeOk ops L (Array.replicate ops.size false) then some (L, m) else none

def adrawF (P : Program) [Lib P] [Facts P] (C : ACalls) (gl : Tr Nat) (N : Nat) (ops : Array Oper) (L : List Nat) (m : Nat) (slP : Sl) : List Oper → Nat → List Value → AS → Option (List Value × AS)
  | [], _, vs, A => some (vs, A)
  | o :: r, i, vs, A => match aputs N ops (fun j => vs.getD j poison) (needs ops m o) slP with
    | some sl => bif L.contains i then
        match pureVal P (evs gl sl) o with
        | some v => adrawF P C gl N ops L m slP r (i + 1) (vs ++ [v]) A
        | none => none
      else match aval P C gl ops o sl { A with low := A.n } with
        | some (v, A1) => bif Nat.ble A.n A1.low then adrawF P C gl N ops L m slP r (i + 1) (vs ++ [v]) { A1 with low := A.low } else none
        | none => none
    | none => none

def adraw (P : Program) [Lib P] [Facts P] (C : ACalls) (gl : Tr Nat) (N : Nat) (rnd : Bool) (ops : Array Oper) (sl : Sl) (A : AS) : Option (Sl × AS) :=
  match planOf ops N rnd with
  | some (L, m) => match aputs N ops (fun _ => poison) (List.range m) sl with
    | some slP => match adrawF P C gl N ops L m slP (ops.toList.take m) 0 [] A with
      | some (vs, A1) => bif Nat.ble A1.n dead then
          match aputs N ops (fun j => vs.getD j poison) (List.range m) slP with
          | some sl1 => aregion P C gl N ops (ops.toList.drop m) sl1 A1
          | none => none
        else none
      | none => none
    | none => none
  | none => none

/-- The chain of states of the operations in the order of the text. -/
def Link (P : Program) [Lib P] [Facts P] (C : ACalls) (gl : Tr Nat) (N : Nat) (ops : Array Oper) (L : List Nat) (m : Nat) (slP : Sl) (i : Nat) (o : Oper) (vsi : List Value) (v : Value) (A A' : AS) : Prop :=
  ∃ sl, aputs N ops (fun j => vsi.getD j poison) (needs ops m o) slP = some sl ∧
    ((i ∈ L ∧ pureVal P (evs gl sl) o = some v ∧ A' = A) ∨ (i ∉ L ∧ ∃ A1, aval P C gl ops o sl { A with low := A.n } = some (v, A1) ∧ A.n ≤ A1.low ∧ A' = { A1 with low := A.low }))

section
variable {P : Program} [Lib P] [Facts P] {C : ACalls} {gl : Tr Nat} {N : Nat} {ops : Array Oper} {L : List Nat} {m : Nat} {slP : Sl}

omit [Sig] in
theorem chain_of : ∀ (l : List Oper) (i0 : Nat) (vs vs' : List Value) (A A' : AS), vs.length = i0 → adrawF P C gl N ops L m slP l i0 vs A = some (vs', A') →
    ∃ (B : Nat → AS), B 0 = A ∧ B l.length = A' ∧ vs'.length = vs.length + l.length ∧ vs'.take vs.length = vs ∧
      ∀ i o, l[i]? = some o → Link P C gl N ops L m slP (i0 + i) o (vs'.take (vs.length + i)) (vs'.getD (vs.length + i) poison) (B i) (B (i + 1))
  | [], i0, vs, vs', A, A', _, h => by
    cases h
    exact ⟨fun _ => A, rfl, rfl, by simp, by simp, fun i o hi => by simp at hi⟩
  | o :: r, i0, vs, vs', A, A', hi0, h => by
    unfold adrawF at h
    split at h
    · rename_i sl hsl
      have go : ∀ (v : Value) (A2 : AS), ((i0 ∈ L ∧ pureVal P (evs gl sl) o = some v ∧ A2 = A) ∨ (i0 ∉ L ∧ ∃ A1, aval P C gl ops o sl { A with low := A.n } = some (v, A1) ∧ A.n ≤ A1.low ∧ A2 = { A1 with low := A.low })) →
          adrawF P C gl N ops L m slP r (i0 + 1) (vs ++ [v]) A2 = some (vs', A') →
          ∃ (B : Nat → AS), B 0 = A ∧ B (o :: r).length = A' ∧ vs'.length = vs.length + (o :: r).length ∧ vs'.take vs.length = vs ∧
            ∀ i o', (o :: r)[i]? = some o' → Link P C gl N ops L m slP (i0 + i) o' (vs'.take (vs.length + i)) (vs'.getD (vs.length + i) poison) (B i) (B (i + 1)) := by
        intro v A2 hlink h
        obtain ⟨B, h0, h1, h2, h3, h4⟩ := chain_of r (i0 + 1) (vs ++ [v]) vs' _ A' (by simp [hi0]) h
        have hlen : (vs ++ [v]).length = vs.length + 1 := by simp
        rw [hlen] at h2 h3
        have htake : vs'.take vs.length = vs := by
          have := congrArg (List.take vs.length) h3
          rw [List.take_take, Nat.min_eq_left (by omega)] at this
          simpa using this
        refine ⟨fun i => match i with | 0 => A | i + 1 => B i, rfl, ?_, by simp; omega, htake, ?_⟩
        · simpa using h1
        · intro i o' hi
          match i with
          | 0 =>
            simp only [List.getElem?_cons_zero, Option.some.injEq] at hi
            subst hi
            simp only [Nat.add_zero]
            rw [htake]
            have hget : vs'.getD vs.length poison = v := by
              have := congrArg (fun l => l[vs.length]?) h3
              simp at this
              rw [List.getD_eq_getElem?_getD, this]; rfl
            rw [hget]
            refine ⟨sl, hsl, ?_⟩
            show (_ ∧ _ ∧ B 0 = A) ∨ _
            rw [h0]
            exact hlink
          | i + 1 =>
            have := h4 i o' (by simpa using hi)
            rw [hlen] at this
            rw [show vs.length + (i + 1) = vs.length + 1 + i by omega, show i0 + (i + 1) = i0 + 1 + i by omega]
            exact this
      cases hc : L.contains i0 with
      | true =>
        rw [hc, cond_true] at h
        split at h
        · rename_i v hv
          exact go v A (.inl ⟨by simpa using hc, hv, rfl⟩) h
        · cases h
      | false =>
        rw [hc, cond_false] at h
        split at h
        · rename_i v A1 hv
          cases hb : Nat.ble A.n A1.low with
          | false => rw [hb] at h; cases h
          | true =>
            rw [hb, cond_true] at h
            exact go v _ (.inr ⟨by simpa using hc, A1, hv, Nat.ble_eq.mp hb, rfl⟩) h
        · cases h
    · cases h

theorem Rel.lower {φ : Emb} {A : AS} {w : World} (h : Rel φ A w) (x : Nat) : Rel φ { A with low := x } w := ⟨⟨h.wf.lt, h.wf.famlt, h.wf.mem, h.wf.rofam⟩, h.dom, h.apart, h.along, h.imm⟩

/-- That an operation can be evaluated is a fact about some world. -/
theorem aval_exists {φ : Emb} {A A' : AS} {w : World} (hcall : CallOk P gl C) (hr : Rel φ A w) (hg : GRel gl φ) {o : Oper} {sl : Sl} {v : Value} (hs : ∀ t v, sl.get t = some v → ∃ v', VRel φ v v') (h : aval P C gl ops o sl A = some (v, A')) :
    ∃ φ' v' w', VRel φ' v v' ∧ Step φ A w φ' A' w' := by
  have hs' : ∀ x : Operand, ∃ v', VRel φ (evs gl sl x) v' := by
    intro x
    cases x with
    | tmp t =>
      show ∃ v', VRel φ (slot sl t) v'
      unfold slot
      cases hgt : sl.get t with
      | none => exact ⟨undef, .poison _⟩
      | some v => exact hs t v hgt
    | const v => exact ⟨_, evs_rel (sl := .nil) (a := ⟨#[], []⟩) hg (fun t v h => by cases h) (.const v)⟩
    | global g => exact ⟨_, evs_rel (sl := .nil) (a := ⟨#[], []⟩) hg (fun t v h => by cases h) (.global g)⟩
    | func f => exact ⟨_, evs_rel (sl := .nil) (a := ⟨#[], []⟩) hg (fun t v h => by cases h) (.func f)⟩
  obtain ⟨ρ', hρ⟩ := Classical.axiomOfChoice hs'
  unfold aval at h
  split at h
  · cases h
  · cases h
    exact ⟨φ, undef, w, VRel.undef_refl φ, Step.refl hr⟩
  · split at h
    · rename_i b args hy
      cases hl : isLoop A b with
      | false => rw [hl] at h; cases h
      | true =>
        rw [hl, cond_true] at h
        obtain ⟨e, k, lp, r, args', he, hk, hobj, hheap, hoth, hargs, hrun⟩ := run_yield (P := P) hr hρ hy hl
        obtain ⟨hsz, hround⟩ := hcall.round b args A v A' φ w args' e k lp r h hr hg hargs he hk hobj hheap hoth
        obtain ⟨en, w2, hen, _⟩ := hround.2 default [] (room_wide _)
        cases en with
        | returned v' =>
          obtain ⟨φ2, h1, h2⟩ := hen
          exact ⟨φ2, v', w2, h1, h2⟩
        | panicked ch => exact hen.elim
        | outgrown => exact hen.elim
    · split at h
      · rename_i v1 A1 ha
        cases h
        obtain ⟨φ1, w1, n, g1, g2, g3⟩ := snd_aopF hcall.facts hr hρ ha
        obtain ⟨v', _, hv⟩ := g2
        exact ⟨φ1, v', w1, hv, g3⟩
      · rename_i A1 ha
        cases h
        obtain ⟨φ1, w1, n, g1, g2, g3⟩ := snd_aopF hcall.facts hr hρ ha
        exact ⟨φ1, undef, w1, VRel.undef_refl φ1, g3⟩
      · rename_i f args A1 ha
        obtain ⟨φ1, w1, n, g1, g2, g3⟩ := snd_aopF hcall.facts hr hρ ha
        obtain ⟨args', _, hargs⟩ := g2
        obtain ⟨e, w2, fr, he, _⟩ := hcall.call f args A1 v A' φ1 w1 args' h g3.rel (hg.mono (g3.ext hr)) hargs []
        cases e with
        | returned v' =>
          obtain ⟨φ2, h1, h2⟩ := he
          exact ⟨φ2, v', w2, h1, Step.trans hr g3 h2⟩
        | panicked ch => exact he.elim
        | outgrown => exact he.elim
      · cases h

/-- What is known of the chain. -/
structure Fx (φ0 : Emb) (B : Nat → AS) (vs : List Value) (m : Nat) : Prop where
  nle : ∀ i, i < m → (B i).n ≤ (B (i + 1)).n
  same : ∀ i b, i < m → b < (B i).n → (B (i + 1)).bl.get b = (B i).bl.get b
  lowe : ∀ i, i < m → (B (i + 1)).low = (B i).low
  ex : ∀ i, i ≤ m → ∃ φ w, Rel φ (B i) w ∧ (∀ b, b < (B 0).n → φ b = φ0 b) ∧ (∀ b, (B 0).n ≤ b → b < (B i).n → φ b ≠ none) ∧ ∀ j, j < i → ∃ v', VRel φ (vs.getD j poison) v'

theorem fx_of {φ0 : Emb} {A : AS} {w0 : World} {B : Nat → AS} {vs : List Value} {sl0 : Sl} (hcall : CallOk P gl C) (hr : Rel φ0 A w0) (hg : GRel gl φ0) (hB : B 0 = A) (hmo : m ≤ ops.size)
    (hs : ∀ t v, sl0.get t = some v → ∃ v', VRel φ0 v v') (hP : aputs N ops (fun _ => poison) (List.range m) sl0 = some slP)
    (hneed : ∀ i o, i < m → ops[i]? = some o → ∀ j ∈ needs ops m o, j < i)
    (hl : ∀ i o, i < m → ops[i]? = some o → Link P C gl N ops L m slP i o (vs.take i) (vs.getD i poison) (B i) (B (i + 1))) : Fx φ0 B vs m := by
  have step : ∀ i, i < m → (∃ φ w, Rel φ (B i) w ∧ (∀ b, b < (B 0).n → φ b = φ0 b) ∧ (∀ b, (B 0).n ≤ b → b < (B i).n → φ b ≠ none) ∧ (B 0).n ≤ (B i).n ∧ ∀ j, j < i → ∃ v', VRel φ (vs.getD j poison) v') →
      ((B i).n ≤ (B (i + 1)).n ∧ (∀ b, b < (B i).n → (B (i + 1)).bl.get b = (B i).bl.get b) ∧ (B (i + 1)).low = (B i).low) ∧
      (∃ φ w, Rel φ (B (i + 1)) w ∧ (∀ b, b < (B 0).n → φ b = φ0 b) ∧ (∀ b, (B 0).n ≤ b → b < (B (i + 1)).n → φ b ≠ none) ∧ (B 0).n ≤ (B (i + 1)).n ∧ ∀ j, j < i + 1 → ∃ v', VRel φ (vs.getD j poison) v') := by
    rintro i hi ⟨φ, w, h1, h2, h3, h4, h5⟩
    have ho : ops[i]? = some (ops[i]'(by omega)) := Array.getElem?_eq_getElem _
    obtain ⟨sl, hsl, hlk⟩ := hl i _ hi ho
    have hext : ∀ b e, φ0 b = some e → φ b = some e := fun b e hb => by
      rw [h2 b (by rw [hB]; exact hr.lt hb)]; exact hb
    have hslots : ∀ t v, sl.get t = some v → ∃ v', VRel φ v v' := by
      intro t v htv
      rcases aputs_spec _ _ _ hsl t v htv with ⟨j, hj, hd, rfl⟩ | ⟨_, hg1⟩
      · have hji := hneed i _ hi ho j hj
        obtain ⟨v', hv'⟩ := h5 j hji
        refine ⟨v', ?_⟩
        have : (vs.take i).getD j poison = vs.getD j poison := by
          simp only [List.getD_eq_getElem?_getD, List.getElem?_take, if_pos hji]
        rw [this]
        exact hv'
      · rcases aputs_spec _ _ _ hP t v hg1 with ⟨j, hj, hd, rfl⟩ | ⟨_, hg2⟩
        · exact ⟨undef, .poison _⟩
        · obtain ⟨v', hv'⟩ := hs t v hg2
          exact ⟨v', hv'.mono hext⟩
    rcases hlk with ⟨_, hpv, hBB⟩ | ⟨_, A1, hv, hlow, hB1⟩
    · rw [hBB]
      refine ⟨⟨Nat.le_refl _, fun _ _ => rfl, rfl⟩, φ, w, h1, h2, h3, h4, fun j hj => ?_⟩
      rcases Nat.lt_or_ge j i with hlt | hge
      · exact h5 j hlt
      · have : j = i := by omega
        subst this
        have hs' : ∀ x : Operand, ∃ v', VRel φ (evs gl sl x) v' := by
          intro x
          cases x with
          | tmp t =>
            show ∃ v', VRel φ (slot sl t) v'
            unfold slot
            cases hgt : sl.get t with
            | none => exact ⟨undef, .poison _⟩
            | some v => exact hslots t v hgt
          | const v => exact ⟨_, evs_rel (sl := .nil) (a := ⟨#[], []⟩) (hg.mono hext) (fun t v h => by cases h) (.const v)⟩
          | global g => exact ⟨_, evs_rel (sl := .nil) (a := ⟨#[], []⟩) (hg.mono hext) (fun t v h => by cases h) (.global g)⟩
          | func f => exact ⟨_, evs_rel (sl := .nil) (a := ⟨#[], []⟩) (hg.mono hext) (fun t v h => by cases h) (.func f)⟩
        obtain ⟨ρ', hρ⟩ := Classical.axiomOfChoice hs'
        obtain ⟨v', _, hv'⟩ := pureVal_run hcall.facts hρ hpv
        exact ⟨v', hv'⟩
    obtain ⟨φ', v', w', g1, g2⟩ := aval_exists hcall (h1.lower (B i).n) (hg.mono hext) hslots hv
    have hn : (B i).n ≤ A1.n := g2.n_le
    rw [hB1]
    refine ⟨⟨hn, fun b hb => g2.same b hb (by show b < A1.low; omega), rfl⟩, φ', w', g2.rel.lower _, fun b hb => ?_, fun b hb hb' => ?_, by simp only; omega, fun j hj => ?_⟩
    · rw [g2.dom b (by show b < (B i).n; omega), h2 b hb]
    · rcases Nat.lt_or_ge b (B i).n with hlt | hge
      · rw [g2.dom b hlt]; exact h3 b hb hlt
      · exact g2.newm b hge hb'
    · rcases Nat.lt_or_ge j i with hlt | hge
      · obtain ⟨u, hu⟩ := h5 j hlt
        exact ⟨u, hu.mono (g2.ext (h1.lower _))⟩
      · have : j = i := by omega
        subst this
        exact ⟨v', g1⟩
  have all : ∀ i, i ≤ m → (∃ φ w, Rel φ (B i) w ∧ (∀ b, b < (B 0).n → φ b = φ0 b) ∧ (∀ b, (B 0).n ≤ b → b < (B i).n → φ b ≠ none) ∧ (B 0).n ≤ (B i).n ∧ ∀ j, j < i → ∃ v', VRel φ (vs.getD j poison) v') := by
    intro i
    induction i with
    | zero => exact fun _ => ⟨φ0, w0, by rw [hB]; exact hr, fun _ _ => rfl, fun b h1 h2 => by omega, Nat.le_refl _, fun j hj => by omega⟩
    | succ i ih => exact fun hi => (step i (by omega) (ih (by omega))).2
  refine ⟨fun i hi => (step i hi (all i (by omega))).1.1, fun i b hi hb => (step i hi (all i (by omega))).1.2.1 b hb, fun i hi => (step i hi (all i (by omega))).1.2.2, fun i hi => ?_⟩
  obtain ⟨φ, w, h1, h2, h3, _, h5⟩ := all i hi
  exact ⟨φ, w, h1, h2, h3, h5⟩

theorem Fx.nle' {φ0 : Emb} {B : Nat → AS} {vs : List Value} (h : Fx φ0 B vs m) : ∀ {i j : Nat}, i ≤ j → j ≤ m → (B i).n ≤ (B j).n := by
  intro i j hij
  induction hij with
  | refl => exact fun _ => Nat.le_refl _
  | step hk ih => exact fun hm => Nat.le_trans (ih (by omega)) (h.nle _ (by omega))

theorem Fx.same' {φ0 : Emb} {B : Nat → AS} {vs : List Value} (h : Fx φ0 B vs m) : ∀ {i j : Nat}, i ≤ j → j ≤ m → ∀ b, b < (B i).n → (B j).bl.get b = (B i).bl.get b := by
  intro i j hij
  induction hij with
  | refl => exact fun _ _ _ => rfl
  | step hk ih => exact fun hm b hb => by rw [h.same _ b (by omega) (Nat.lt_of_lt_of_le hb (h.nle' hk (by omega))), ih (by omega) b hb]

theorem Fx.lowe' {φ0 : Emb} {B : Nat → AS} {vs : List Value} (h : Fx φ0 B vs m) : ∀ {j : Nat}, j ≤ m → (B j).low = (B 0).low := by
  intro j
  induction j with
  | zero => exact fun _ => rfl
  | succ j ih => exact fun hm => by rw [h.lowe j (by omega), ih (by omega)]

/-- Blocks of the one operation. -/
def own (B : Nat → AS) (j b : Nat) : Prop := (B j).n ≤ b ∧ b < (B (j + 1)).n

theorem Fx.own_ne {φ0 : Emb} {B : Nat → AS} {vs : List Value} (h : Fx φ0 B vs m) {i j b : Nat} (hi : i < m) (hj : j < m) (h1 : own B i b) (h2 : own B j b) : i = j := by
  unfold own at h1 h2
  rcases Nat.lt_trichotomy i j with hlt | heq | hgt
  · have := h.nle' (i := i + 1) (j := j) (by omega) (by omega); omega
  · exact heq
  · have := h.nle' (i := j + 1) (j := i) (by omega) (by omega); omega

theorem Fx.own_ex {φ0 : Emb} {B : Nat → AS} {vs : List Value} (_h : Fx φ0 B vs m) {b : Nat} : ∀ {k : Nat}, k ≤ m → (B 0).n ≤ b → b < (B k).n → ∃ j, j < k ∧ own B j b
  | 0, _, h1, h2 => by omega
  | k + 1, hk, h1, h2 => by
    rcases Nat.lt_or_ge b (B k).n with hlt | hge
    · obtain ⟨j, hj, ho⟩ := Fx.own_ex _h (k := k) (by omega) h1 hlt
      exact ⟨j, by omega, ho⟩
    · exact ⟨k, by omega, hge, h2⟩

/- A RELATION CUT DOWN TO LESS -/

def restrict (φ : Emb) (n : Nat) : Emb := fun b => if b < n then φ b else none

theorem VRel.restrict {φ ψ : Emb} {n : Nat} {v v' : Value} (hd : ∀ b e, φ b = some e → b ≠ dead) (hψ : ∀ b e, ψ b = some e → b < n) (h : VRel φ v v') : ∀ u, VRel ψ v u → VRel (AE.restrict φ n) v v' := by
  have hres : ∀ {b e}, φ b = some e → b < n → AE.restrict φ n b = some e := fun h1 h2 => by unfold AE.restrict; rw [if_pos h2]; exact h1
  induction h with
  | poison v' => exact fun _ _ => .poison v'
  | sym k => exact fun _ _ => .sym k
  | bool b => exact fun _ _ => .bool b
  | int k i => exact fun _ _ => .int k i
  | float k b => exact fun _ _ => .float k b
  | string s => exact fun _ _ => .string s
  | pnil => exact fun _ _ => .pnil
  | ptr h =>
      intro u hu
      cases hu with
      | ptr h2 => exact .ptr (hres h (hψ _ _ h2))
  | slnil l c => exact fun _ _ => .slnil l c
  | slz a' h => exact fun _ _ => .slz a' h
  | slx n' c h =>
      intro u hu
      cases hu with
      | slx _ _ h2 => exact .slx n' c (hres h (hψ _ _ h2))
      | slg _ _ c' h2 _ _ _ => exact .slx n' c (hres h (hψ _ _ h2))
      | slz a' h2 => exact absurd rfl (hd _ _ h)
  | slg n' c c' h hs hc hl =>
      intro u hu
      cases hu with
      | slx _ _ h2 => exact .slg n' c c' (hres h (hψ _ _ h2)) hs hc hl
      | slg _ _ c' h2 _ _ _ => exact .slg n' c _ (hres h (hψ _ _ h2)) hs hc hl
      | slz a' h2 => exact absurd rfl (hd _ _ h)
  | mapnil => exact fun _ _ => .mapnil
  | map h =>
      intro u hu
      cases hu with
      | map h2 => exact .map (hres h (hψ _ _ h2))
  | chan => exact fun _ _ => .chan
  | func fs fs' cs cs' hn h1 h2 hf hc ih1 ih2 =>
      intro u hu
      cases hu with
      | func _ _ _ _ _ _ _ g1 g2 => exact .func fs fs' cs cs' hn h1 h2 (fun i hi => ih1 i hi _ (g1 i hi)) (fun i hi => ih2 i hi _ (g2 i hi))
      | yld h2 => exact absurd rfl (hn _)
  | yld h =>
      intro u hu
      cases hu with
      | yld h2 => exact .yld (hres h (hψ _ _ h2))
      | func _ _ _ _ hn => exact absurd rfl (hn _)
  | nilFunc => exact fun _ _ => .nilFunc
  | nilIface => exact fun _ _ => .nilIface
  | iface t h ih =>
      intro u hu
      cases hu with
      | iface _ g => exact .iface t (ih _ g)
  | agg cs cs' h1 h ih =>
      intro u hu
      cases hu with
      | agg _ _ _ g => exact .agg cs cs' h1 fun i hi => ih i hi _ (g i hi)
  | tuple cs cs' h1 h ih =>
      intro u hu
      cases hu with
      | tuple _ _ _ g => exact .tuple cs cs' h1 fun i hi => ih i hi _ (g i hi)

theorem ORel.restrict {φ ψ : Emb} {n : Nat} {w w' : World} {e e' : Em} {k : ABlk} (hd : ∀ b e, φ b = some e → b ≠ dead) (hψ : ∀ b e, ψ b = some e → b < n) (h : ORel φ w e k) (h' : ORel ψ w' e' k) : ORel (AE.restrict φ n) w e k := by
  unfold ORel at *
  cases hk : k.obj with
  | cells c =>
    simp only [hk] at h h' ⊢
    obtain ⟨c', fr', h1, h2, h3, h4, h5⟩ := h
    obtain ⟨d', fr2, g1, g2, g3, g4, g5⟩ := h'
    exact ⟨c', fr', h1, h2, h3, fun j hj => (h4 j hj).restrict hd hψ _ (g4 j hj), h5⟩
  | map es cl =>
    simp only [hk] at h h' ⊢
    obtain ⟨es', h1, h2, h3⟩ := h
    obtain ⟨fs', g1, g2, g3⟩ := h'
    refine ⟨es', h1, h2, fun j a b ha hb => ?_⟩
    obtain ⟨q1, q2, q3, q4⟩ := h3 j a b ha hb
    have hj : j < es.length := (List.getElem?_eq_some_iff.1 ha).1
    obtain ⟨_, _, r3, _⟩ := g3 j a (fs'[j]'(by omega)) ha (Array.getElem?_eq_getElem _)
    exact ⟨q1, q2, q3.restrict hd hψ _ r3, q4⟩
  | oth x =>
    simp only [hk] at h h' ⊢
    obtain ⟨h0, o1, h1, h2⟩ := h
    obtain ⟨_, o2, g1, g2⟩ := h'
    refine ⟨h0, o1, h1, ?_⟩
    cases x with
    | siter s p => exact h2
    | deferred => exact h2
    | gone => exact h2
    | loop l =>
      obtain ⟨r, q0, q1, q2, q3, q4, q5, q6, ⟨e7, q7, q8⟩, q9⟩ := h2
      obtain ⟨r', p0, p1, p2, p3, p4, p5, p6, ⟨e8, p7, p8⟩, p9⟩ := g2
      refine ⟨r, q0, q1, q2, q3, q4, q5, q6, ⟨e7, ?_, q8⟩, fun t v hv => (q9 t v hv).restrict hd hψ _ (p9 t v hv)⟩
      unfold AE.restrict
      rw [if_pos (hψ _ _ p7)]
      exact q7

end
end AE
end Go.Proofs.YtheaofepenbcgaaDoor

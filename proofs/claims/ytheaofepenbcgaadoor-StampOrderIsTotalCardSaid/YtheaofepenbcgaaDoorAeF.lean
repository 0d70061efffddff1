/- AE, facts: what the operations on symbols yield, handed in from outside. -/
import Derived.Test.YtheaofepenbcgaaDoorAe14
namespace Go.Proofs.YtheaofepenbcgaaDoor
open Go
namespace AE

mutual
def eqV : Value → Value → Bool
  | .bool a, .bool b => a == b
  | .int k n, .int k' n' => decide (k = k') && decide (n = n')
  | .complex .f64 a b, .complex .f64 a' b' => Nat.beq a a' && Nat.beq b b'
  | .string s, .string t => s.data.toList == t.data.toList
  | .pointer none, .pointer none => true
  | .slice none l c, .slice none l' c' => Nat.beq l l' && Nat.beq c c'
  | .map none, .map none => true
  | .nilFunc, .nilFunc => true
  | .nilIface, .nilIface => true
  | .func (.func f) ⟨[]⟩ ⟨[]⟩, .func (.func g) ⟨[]⟩ ⟨[]⟩ => Nat.beq f g
  | .iface t v, .iface t' v' => Nat.beq t t' && eqV v v'
  | .agg ⟨l⟩, .agg ⟨l'⟩ => eqVL l l'
  | .tuple ⟨l⟩, .tuple ⟨l'⟩ => eqVL l l'
  | _, _ => false
def eqVL : List Value → List Value → Bool
  | [], [] => true
  | v :: r, v' :: r' => eqV v v' && eqVL r r'
  | _, _ => false
end

mutual
theorem eqV_sound : ∀ (a b : Value), eqV a b = true → a = b := by
  intro a b h
  unfold eqV at h
  split at h
  · rw [eq_of_beq h]
  · simp only [Bool.and_eq_true, decide_eq_true_eq] at h; rw [h.1, h.2]
  · simp only [Bool.and_eq_true] at h; rw [Nat.eq_of_beq_eq_true h.1, Nat.eq_of_beq_eq_true h.2]
  · rename_i s t
    have := eq_of_beq h
    obtain ⟨⟨s⟩⟩ := s
    obtain ⟨⟨t⟩⟩ := t
    simp only at this
    rw [this]
  · rfl
  · simp only [Bool.and_eq_true] at h; rw [Nat.eq_of_beq_eq_true h.1, Nat.eq_of_beq_eq_true h.2]
  · rfl
  · rfl
  · rfl
  · rw [Nat.eq_of_beq_eq_true h]
  · rename_i t v t' v'
    simp only [Bool.and_eq_true] at h; rw [Nat.eq_of_beq_eq_true h.1, eqV_sound v v' h.2]
  · rename_i l l'
    rw [eqVL_sound l l' h]
  · rename_i l l'
    rw [eqVL_sound l l' h]
  · cases h
theorem eqVL_sound : ∀ (a b : List Value), eqVL a b = true → a = b
  | [], [], _ => rfl
  | v :: r, v' :: r', h => by
    unfold eqVL at h
    simp only [Bool.and_eq_true] at h
    rw [eqV_sound v v' h.1, eqVL_sound r r' h.2]
  | [], _ :: _, h => by simp [eqVL] at h
  | _ :: _, [], h => by simp [eqVL] at h
end

mutual
def plainS : Value → Bool
  | .complex .f64 _ b => Nat.beq b 0
  | .iface _ v => plainS v
  | .agg ⟨l⟩ => plainSL l
  | .tuple ⟨l⟩ => plainSL l
  | .bool _ | .int .. | .float .. | .string _ | .pointer none | .map none | .chan none | .nilFunc | .nilIface => true
  | .slice none l c => l == 0 && c == 0
  | .func (.func _) ⟨[]⟩ ⟨[]⟩ => true
  | _ => false
def plainSL : List Value → Bool
  | [] => true
  | v :: r => plainS v && plainSL r
end

variable [Sig]

mutual
/-- What a value with symbols stands for. -/
def interp : Value → Value
  | .complex .f64 k b => bif Nat.beq b 0 then Sig.σ k else .complex .f64 k b
  | .iface t v => .iface t (interp v)
  | .agg ⟨l⟩ => .agg ⟨interpL l⟩
  | .tuple ⟨l⟩ => .tuple ⟨interpL l⟩
  | v => v
def interpL : List Value → List Value
  | [] => []
  | v :: r => interp v :: interpL r
end

theorem interp_symv (k : Nat) : interp (symv k) = Sig.σ k := by simp [symv, interp]

theorem interpL_length : ∀ l : List Value, (interpL l).length = l.length
  | [] => rfl
  | v :: r => by simp [interpL, interpL_length r]

theorem interpL_map : ∀ l : List Value, interpL l = l.map interp
  | [] => rfl
  | v :: r => by simp [interpL, interpL_map r]

mutual
theorem VRel.of_plainS (φ : Emb) : ∀ v : Value, plainS v = true → VRel φ v (interp v) := by
  intro v h
  unfold plainS at h
  split at h
  · rename_i k b
    have : b = 0 := Nat.eq_of_beq_eq_true h
    subst this
    have := VRel.sym (φ := φ) k
    simpa [interp, symv] using this
  · rename_i t v
    unfold interp
    exact .iface t (VRel.of_plainS φ v h)
  · rename_i l
    unfold interp
    exact .agg _ _ (by simp [interpL_length]) fun i hi => by simpa using VRel.of_plainSL φ l h i (by simpa using hi)
  · rename_i l
    unfold interp
    exact .tuple _ _ (by simp [interpL_length]) fun i hi => by simpa using VRel.of_plainSL φ l h i (by simpa using hi)
  all_goals (first | (cases h; done) | skip)
  · rename_i b; simpa [interp] using VRel.of_plain φ (.bool b) rfl
  · rename_i k n; simpa [interp] using VRel.of_plain φ (.int k n) rfl
  · rename_i k n; simpa [interp] using VRel.of_plain φ (.float k n) rfl
  · rename_i s; simpa [interp] using VRel.of_plain φ (.string s) rfl
  · simpa [interp] using VRel.of_plain φ (.pointer none) rfl
  · simpa [interp] using VRel.of_plain φ (.map none) rfl
  · simpa [interp] using VRel.of_plain φ (.chan none) rfl
  · simpa [interp] using VRel.of_plain φ .nilFunc rfl
  · simpa [interp] using VRel.of_plain φ .nilIface rfl
  · rename_i l c; simpa [interp] using VRel.of_plain φ (.slice none l c) h
  · rename_i f; simpa [interp] using VRel.of_plain φ (.func (.func f) ⟨[]⟩ ⟨[]⟩) rfl
theorem VRel.of_plainSL (φ : Emb) : ∀ l : List Value, plainSL l = true → ∀ i, i < l.length → VRel φ (l.getD i Go.undef) ((interpL l).getD i Go.undef)
  | [], _, i, hi => absurd hi (by simp)
  | v :: r, h, 0, _ => by
      have := VRel.of_plainS φ v (by simp [plainSL] at h; exact h.1)
      simpa [interpL] using this
  | v :: r, h, i + 1, hi => by
      have := VRel.of_plainSL φ r (by simp [plainSL] at h; exact h.2) i (by simpa using hi)
      simpa [interpL] using this
end

theorem VRel.sym_inv {φ : Emb} {k : Nat} {v' : Value} (h : VRel φ (symv k) v') : v' = Sig.σ k := by
  generalize hs : symv k = s at h
  cases h <;> simp [symv, AE.poison] at hs
  subst hs
  rfl

mutual
theorem VRel.eq_of_plainS {φ : Emb} : ∀ (v : Value) {v' : Value}, plainS v = true → VRel φ v v' → v' = interp v := by
  intro v v' hp h
  unfold plainS at hp
  split at hp
  · rename_i k b
    have : b = 0 := Nat.eq_of_beq_eq_true hp
    subst this
    rw [VRel.sym_inv (k := k) h]
    simp [interp]
  · rename_i t v
    cases h with
    | iface t h => unfold interp; rw [VRel.eq_of_plainS v hp h]
  · rename_i l
    cases h with
    | agg cs cs' h1 h2 =>
      obtain ⟨l'⟩ := cs'
      unfold interp
      rw [VRel.eq_of_plainSL l l' hp (by simpa using h1) (fun i hi => by simpa using h2 i (by simpa using hi))]
  · rename_i l
    cases h with
    | tuple cs cs' h1 h2 =>
      obtain ⟨l'⟩ := cs'
      unfold interp
      rw [VRel.eq_of_plainSL l l' hp (by simpa using h1) (fun i hi => by simpa using h2 i (by simpa using hi))]
  all_goals (first | (cases hp; done) | skip)
  all_goals (unfold interp; refine VRel.eq_of_plain _ ?_ h; first | exact hp | rfl)
theorem VRel.eq_of_plainSL {φ : Emb} : ∀ (l l' : List Value), plainSL l = true → l.length = l'.length → (∀ i, i < l.length → VRel φ (l.getD i Go.undef) (l'.getD i Go.undef)) → l' = interpL l
  | [], [], _, _, _ => rfl
  | [], _ :: _, _, h, _ => by simp at h
  | _ :: _, [], _, h, _ => by simp at h
  | v :: r, v' :: r', hp, hl, h => by
      have h1 := VRel.eq_of_plainS v (by simp [plainSL] at hp; exact hp.1) (by simpa using h 0 (by simp))
      have h2 := VRel.eq_of_plainSL r r' (by simp [plainSL] at hp; exact hp.2) (by simpa using hl) (fun i hi => by simpa using h (i + 1) (by simpa using hi))
      rw [h1, h2]; rfl
end

/-- An operation with its operands' values. -/
inductive FOp where
  | bin (op : BinOp) (t : TypeId) (x y : Value)
  | un (op : UnOp) (x : Value)
  | conv (s d : TypeId) (x : Value)
  | slc (t : TypeId) (x : Value) (lo hi mx : Option Value)
  | ixa (t : TypeId) (x i : Value)
  | ix (t : TypeId) (x i : Value)
  | ld (t : TypeId) (a : Value)
  | fa (t : TypeId) (a : Value) (f : Nat)
  | nilc (x : Value)
  | len (ts : Array TypeId) (ty : TypeId) (x : Value)
  | mx (ts : Array TypeId) (ty : TypeId) (x y : Value)
  | mn (ts : Array TypeId) (ty : TypeId) (x y : Value)

def eqO : Option Value → Option Value → Bool
  | none, none => true
  | some a, some b => eqV a b
  | _, _ => false

omit [Sig] in
theorem eqO_sound {a b : Option Value} (h : eqO a b = true) : a = b := by
  unfold eqO at h
  split at h
  · rfl
  · rw [eqV_sound _ _ h]
  · cases h

def eqF : FOp → FOp → Bool
  | .bin op t x y, .bin op' t' x' y' => decide (op = op') && (Nat.beq t t' && (eqV x x' && eqV y y'))
  | .un op x, .un op' x' => decide (op = op') && eqV x x'
  | .conv s d x, .conv s' d' x' => Nat.beq s s' && (Nat.beq d d' && eqV x x')
  | .slc t x lo hi mx, .slc t' x' lo' hi' mx' => Nat.beq t t' && (eqV x x' && (eqO lo lo' && (eqO hi hi' && eqO mx mx')))
  | .ixa t x i, .ixa t' x' i' => Nat.beq t t' && (eqV x x' && eqV i i')
  | .ix t x i, .ix t' x' i' => Nat.beq t t' && (eqV x x' && eqV i i')
  | .ld t a, .ld t' a' => Nat.beq t t' && eqV a a'
  | .fa t a f, .fa t' a' f' => Nat.beq t t' && (eqV a a' && Nat.beq f f')
  | .nilc x, .nilc x' => eqV x x'
  | .len ts ty x, .len ts' ty' x' => decide (ts = ts') && (Nat.beq ty ty' && eqV x x')
  | .mx ts ty x y, .mx ts' ty' x' y' => decide (ts = ts') && (Nat.beq ty ty' && (eqV x x' && eqV y y'))
  | .mn ts ty x y, .mn ts' ty' x' y' => decide (ts = ts') && (Nat.beq ty ty' && (eqV x x' && eqV y y'))
  | _, _ => false

omit [Sig] in
theorem eqF_sound {a b : FOp} (h : eqF a b = true) : a = b := by
  unfold eqF at h
  split at h <;> try simp only [Bool.and_eq_true, decide_eq_true_eq] at h
  case h_1 => rw [h.1, Nat.eq_of_beq_eq_true h.2.1, eqV_sound _ _ h.2.2.1, eqV_sound _ _ h.2.2.2]
  case h_2 => rw [h.1, eqV_sound _ _ h.2]
  case h_3 => rw [Nat.eq_of_beq_eq_true h.1, Nat.eq_of_beq_eq_true h.2.1, eqV_sound _ _ h.2.2]
  case h_4 => rw [Nat.eq_of_beq_eq_true h.1, eqV_sound _ _ h.2.1, eqO_sound h.2.2.1, eqO_sound h.2.2.2.1, eqO_sound h.2.2.2.2]
  case h_5 => rw [Nat.eq_of_beq_eq_true h.1, eqV_sound _ _ h.2.1, eqV_sound _ _ h.2.2]
  case h_6 => rw [Nat.eq_of_beq_eq_true h.1, eqV_sound _ _ h.2.1, eqV_sound _ _ h.2.2]
  case h_7 => rw [Nat.eq_of_beq_eq_true h.1, eqV_sound _ _ h.2]
  case h_8 => rw [Nat.eq_of_beq_eq_true h.1, eqV_sound _ _ h.2.1, Nat.eq_of_beq_eq_true h.2.2]
  case h_9 => rw [eqV_sound _ _ h]
  case h_10 => rw [h.1, Nat.eq_of_beq_eq_true h.2.1, eqV_sound _ _ h.2.2]
  case h_11 => rw [h.1, Nat.eq_of_beq_eq_true h.2.1, eqV_sound _ _ h.2.2.1, eqV_sound _ _ h.2.2.2]
  case h_12 => rw [h.1, Nat.eq_of_beq_eq_true h.2.1, eqV_sound _ _ h.2.2.1, eqV_sound _ _ h.2.2.2]
  case h_13 => cases h

/-- The operation of a region's row, with its operands' values. -/
def fop (ev : Operand → Value) (o : Oper) : Option FOp :=
  match o.op with
  | .binOp op t x y _ => some (.bin op t (ev x) (ev y))
  | .unOp op _ x => some (.un op (ev x))
  | .convert s d x => some (.conv s d (ev x))
  | .slice t x lo hi mx => some (.slc t (ev x) (lo.map ev) (hi.map ev) (mx.map ev))
  | .indexAddr t x i => some (.ixa t (ev x) (ev i))
  | .index t x i => some (.ix t (ev x) (ev i))
  | .load t a => some (.ld t (ev a))
  | .fieldAddr t a f => some (.fa t (ev a) f)
  | .nilCheck x => some (.nilc (ev x))
  | .call c => match c.callee with
    | .builtin .len => match c.args with
      | ⟨[x]⟩ => some (.len c.argTypes o.type (ev x))
      | _ => none
    | .builtin .max => match c.args with
      | ⟨[x, y]⟩ => some (.mx c.argTypes o.type (ev x) (ev y))
      | _ => none
    | .builtin .min => match c.args with
      | ⟨[x, y]⟩ => some (.mn c.argTypes o.type (ev x) (ev y))
      | _ => none
    | _ => none
  | _ => none

/-- What it does. -/
def semF (xo yo : Operand) : FOp → Sem Next
  | .bin op t x y => do pure (.value (← (do eqGuard op t xo yo x y; binOp op t x y)))
  | .un op x => do pure (.value (← Op.unary op x))
  | .conv s d x => do pure (.value (← convert s d x))
  | .slc t x lo hi mx => do pure (.value (← Instr.sliceAt t x lo hi mx))
  | .ixa t x i => do pure (.value (← Instr.indexAt t x i))
  | .ix t x i => do pure (.value (← Instr.index t x i))
  | .ld t a => do pure (.value (← Instr.loadAt t a))
  | .fa t a f => do pure (.value (← Instr.fieldAt t a f))
  | .nilc x => execOp (fun _ => x) ⟨none, .nilCheck (.const undef), 0, "", #[], none⟩
  | .len ts ty x => do pure (.value (← Builtin.len_ ts ty #[x]))
  | .mx ts ty x y => do pure (.value (← Builtin.max_ ts ty #[x, y]))
  | .mn ts ty x y => do pure (.value (← Builtin.min_ ts ty #[x, y]))

def interpF : FOp → FOp
  | .bin op t x y => .bin op t (interp x) (interp y)
  | .un op x => .un op (interp x)
  | .conv s d x => .conv s d (interp x)
  | .slc t x lo hi mx => .slc t (interp x) (lo.map interp) (hi.map interp) (mx.map interp)
  | .ixa t x i => .ixa t (interp x) (interp i)
  | .ix t x i => .ix t (interp x) (interp i)
  | .ld t a => .ld t (interp a)
  | .fa t a f => .fa t (interp a) f
  | .nilc x => .nilc (interp x)
  | .len ts ty x => .len ts ty (interp x)
  | .mx ts ty x y => .mx ts ty (interp x) (interp y)
  | .mn ts ty x y => .mn ts ty (interp x) (interp y)

def plainO : Option Value → Bool
  | none => true
  | some v => plainS v

def plainF : FOp → Bool
  | .bin _ _ x y | .ixa _ x y | .ix _ x y | .mx _ _ x y | .mn _ _ x y => plainS x && plainS y
  | .un _ x | .conv _ _ x | .ld _ x | .fa _ x _ | .nilc x | .len _ _ x => plainS x
  | .slc _ x lo hi mx => plainS x && (plainO lo && (plainO hi && plainO mx))

/-- Operations that look at no world. -/
def pureF : FOp → Bool
  | .bin .. | .un .. => true
  | _ => false

/-- The memory that is known. -/
def ImmW (w : World) : Prop := ∀ i o, Sig.imm i = some o → w.heap[i]? = some o

def FactOk (P : Program) (p : FOp × Value) : Prop :=
  plainF p.1 = true ∧ plainS p.2 = true ∧
  if pureF p.1 then ∀ xo yo w, (semF xo yo (interpF p.1)).run P w = .ok (.value (interp p.2)) w
  else ∀ xo yo w, ImmW w → (semF xo yo (interpF p.1)).run P w = .ok (.value (interp p.2)) w

/-- The facts that are handed in. -/
class Facts (P : Program) where
  ops : List (FOp × Value)

/-- They hold. -/
def FactsOk (P : Program) [Facts P] : Prop := ∀ p ∈ Facts.ops P, FactOk P p

def find (f : FOp) : List (FOp × Value) → Option Value
  | [] => none
  | p :: r => bif eqF f p.1 then some p.2 else find f r

omit [Sig] in
theorem find_mem {f : FOp} {v : Value} : ∀ {l : List (FOp × Value)}, find f l = some v → (f, v) ∈ l
  | [], h => by cases h
  | p :: r, h => by
    unfold find at h
    cases he : eqF f p.1 with
    | true =>
      rw [he, cond_true, Option.some.injEq] at h
      have := eqF_sound he
      subst this; subst h
      exact List.mem_cons_self
    | false =>
      rw [he, cond_false] at h
      exact List.mem_cons_of_mem _ (find_mem h)

/-- What an operation yields by a fact. -/
def factOf (P : Program) [Facts P] (ev : Operand → Value) (o : Oper) : Option Value :=
  match Facts.ops P with
  | [] => none
  | l => match fop ev o with
    | some f => find f l
    | none => none

def aopF (P : Program) [Lib P] [Facts P] (ev : Operand → Value) (A : AS) (o : Oper) : Option (ANext × AS) :=
  match factOf P ev o with
  | some v => some (.value v, A)
  | none => aop P ev A o

section
variable {P : Program} {φ : Emb} {A A' : AS} {w : World}

theorem fop_interp {ρ ρ' : Operand → Value} {o : Oper} {f : FOp} (hρ : ∀ x, VRel φ (ρ x) (ρ' x)) (h : fop ρ o = some f) (hp : plainF f = true) : fop ρ' o = some (interpF f) := by
  have e : ∀ x, plainS (ρ x) = true → ρ' x = interp (ρ x) := fun x hx => VRel.eq_of_plainS _ hx (hρ x)
  have eo : ∀ x : Option Operand, plainO (x.map ρ) = true → x.map ρ' = (x.map ρ).map interp := fun x hx => by
    cases x with
    | none => rfl
    | some x => simp only [Option.map_some]; rw [e x hx]
  unfold fop at h ⊢
  split at h <;> try (cases h; done)
  all_goals try (simp only [Option.some.injEq] at h; subst h; simp only [plainF, Bool.and_eq_true] at hp)
  · rw [e _ hp.1, e _ hp.2]; rfl
  · rw [e _ hp]; rfl
  · rw [e _ hp]; rfl
  · rw [e _ hp.1, eo _ hp.2.1, eo _ hp.2.2.1, eo _ hp.2.2.2]; rfl
  · rw [e _ hp.1, e _ hp.2]; rfl
  · rw [e _ hp.1, e _ hp.2]; rfl
  · rw [e _ hp]; rfl
  · rw [e _ hp]; rfl
  · rw [e _ hp]; rfl
  · split at h <;> try (cases h; done)
    all_goals (split at h <;> try (cases h; done))
    all_goals (simp only [Option.some.injEq] at h; subst h; simp only [plainF, Bool.and_eq_true] at hp)
    · rw [e _ hp]; rfl
    · rw [e _ hp.1, e _ hp.2]; rfl
    · rw [e _ hp.1, e _ hp.2]; rfl

omit [Sig] in
theorem exec_fop {ρ : Operand → Value} {o : Oper} {f : FOp} (h : fop ρ o = some f) : ∃ xo yo, (∀ P w, (execOp ρ o).run P w = (semF xo yo f).run P w) ∧ (pureF f = true → execOp ρ o = semF xo yo f) := by
  obtain ⟨dst, op, type, pos, after, guard⟩ := o
  unfold fop at h
  simp only at h
  split at h <;> try (cases h; done)
  case h_1 op t x y yt => cases h; exact ⟨x, y, fun _ _ => rfl, fun _ => rfl⟩
  case h_10 c =>
    split at h <;> try (cases h; done)
    all_goals (split at h <;> try (cases h; done))
    all_goals (cases h; refine ⟨.const undef, .const undef, fun P w => ?_, fun h => by cases h⟩; unfold execOp resolve)
    · rename_i _ h1 _ _ h2; simp only [h1, h2, List.map_toArray, List.map_cons, List.map_nil]; rfl
    · rename_i _ h1 _ _ _ h2; simp only [h1, h2, List.map_toArray, List.map_cons, List.map_nil]; rfl
    · rename_i _ h1 _ _ _ h2; simp only [h1, h2, List.map_toArray, List.map_cons, List.map_nil]; rfl
  all_goals (cases h; exact ⟨.const undef, .const undef, fun _ _ => rfl, fun _ => rfl⟩)

theorem snd_fact [Facts P] (hF : FactsOk P) (hr : Rel φ A w) {ρ ρ' : Operand → Value} {o : Oper} {v : Value} (hρ : ∀ x, VRel φ (ρ x) (ρ' x)) (h : factOf P ρ o = some v) : Snd (NR (.value v)) P φ A w (execOp ρ' o) A := by
  unfold factOf at h
  split at h
  · cases h
  split at h
  · rename_i f hf
    have hok := hF _ (find_mem h)
    obtain ⟨h1, h2, h3⟩ := hok
    simp only at h1 h2 h3
    obtain ⟨xo, yo, he, _⟩ := exec_fop (fop_interp hρ hf h1)
    have hrun : (semF xo yo (interpF f)).run P w = .ok (.value (interp v)) w := by
      split at h3
      · exact h3 xo yo w
      · exact h3 xo yo w fun i o hi => (hr.imm i o hi).1
    exact ⟨φ, w, _, (he P w).trans hrun, ⟨_, rfl, VRel.of_plainS φ v h2⟩, Step.refl hr⟩
  · cases h

theorem snd_aopF [Lib P] [Facts P] (hF : FactsOk P) (hr : Rel φ A w) {ρ ρ' : Operand → Value} {o : Oper} {n : ANext} (hρ : ∀ x, VRel φ (ρ x) (ρ' x)) (h : aopF P ρ A o = some (n, A')) : Snd (NR n) P φ A w (execOp ρ' o) A' := by
  unfold aopF at h
  split at h
  · rename_i v hv
    cases h
    exact snd_fact hF hr hρ hv
  · exact snd_aop hr hρ h

/-- A fact on an operation that looks at no world. -/
theorem fact_pure [Facts P] (hF : FactsOk P) {ρ ρ' : Operand → Value} {o : Oper} {v : Value} (hρ : ∀ x, VRel φ (ρ x) (ρ' x)) (h : factOf P ρ o = some v) (hk : ∀ f, fop ρ o = some f → pureF f = true) : ∃ v', (∀ w, (execOp ρ' o).run P w = .ok (.value v') w) ∧ VRel φ v v' := by
  unfold factOf at h
  split at h
  · cases h
  split at h
  · rename_i f hf
    obtain ⟨h1, h2, h3⟩ := hF _ (find_mem h)
    simp only at h1 h2 h3
    obtain ⟨xo, yo, _, he⟩ := exec_fop (fop_interp hρ hf h1)
    rw [if_pos (hk f hf)] at h3
    have hk' : pureF (interpF f) = true := by
      have := hk f hf
      cases f <;> first | rfl | cases this
    exact ⟨_, fun w => by rw [he hk']; exact h3 xo yo w, VRel.of_plainS φ v h2⟩
  · cases h

end
end AE
end Go.Proofs.YtheaofepenbcgaaDoor

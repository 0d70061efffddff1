/- AE, part 1: the abstract state of a deterministic evaluator, and what it is for a world of the model to be related to one. -/
import Derived.WalkKit
import Derived.Orders
namespace Go.Proofs.YtheaofepenbcgaaDoor
open Go
namespace AE

/-- A binary tree over the naturals: fast in the kernel. -/
inductive Tr (α : Type) where
  | nil
  | node (v : Option α) (l r : Tr α)

def Tr.get {α : Type} : Tr α → Nat → Option α
  | .nil, _ => none
  | .node v l r, i => bif i == 0 then v else bif i % 2 == 1 then l.get (i / 2) else r.get (i / 2 - 1)

def Tr.sing {α : Type} (x : α) : Nat → Nat → Tr α
  | 0, _ => .nil
  | f + 1, i => bif i == 0 then .node (some x) .nil .nil else bif i % 2 == 1 then .node none (Tr.sing x f (i / 2)) .nil else .node none .nil (Tr.sing x f (i / 2 - 1))

/-- Insert; 'none' where the number is too great for the depth. -/
def Tr.set {α : Type} (x : α) : Nat → Tr α → Nat → Option (Tr α)
  | 0, _, _ => none
  | f + 1, .nil, i => bif i == 0 then some (.node (some x) .nil .nil) else bif i % 2 == 1 then (Tr.set x f .nil (i / 2)).map (.node none · .nil) else (Tr.set x f .nil (i / 2 - 1)).map (.node none .nil ·)
  | f + 1, .node v l r, i => bif i == 0 then some (.node (some x) l r) else bif i % 2 == 1 then (Tr.set x f l (i / 2)).map (.node v · r) else (Tr.set x f r (i / 2 - 1)).map (.node v l ·)

theorem Tr.get_set {α : Type} (x : α) : ∀ (f : Nat) (t t' : Tr α) (i j : Nat), Tr.set x f t i = some t' → t'.get j = if j = i then some x else t.get j
  | 0, _, _, _, _, h => by simp [Tr.set] at h
  | f + 1, .nil, t', i, j, h => by
    unfold Tr.set at h
    by_cases hi : i = 0
    · subst hi
      simp only [beq_self_eq_true, cond_true, Option.some.injEq] at h
      subst h
      by_cases hj : j = 0
      · simp [hj, Tr.get]
      · have hj' : (j == 0) = false := by simpa using hj
        by_cases hm : j % 2 = 1 <;> simp [hj, hj', Tr.get, hm]
    · have hi' : (i == 0) = false := by simpa using hi
      rw [hi', cond_false] at h
      by_cases hm : i % 2 = 1
      · rw [show (i % 2 == 1) = true by simpa using hm, cond_true] at h
        obtain ⟨u, hu, rfl⟩ := Option.map_eq_some_iff.1 h
        have ih := Tr.get_set x f .nil u (i / 2) (j / 2) hu
        by_cases hj : j = 0
        · subst hj; simp [Tr.get, Ne.symm hi]
        · simp only [Tr.get, show (j == 0) = false by simpa using hj, cond_false]
          by_cases hm' : j % 2 = 1
          · rw [show (j % 2 == 1) = true by simpa using hm', cond_true, ih]
            by_cases he : j = i
            · simp [he]
            · rw [if_neg he, if_neg (by omega)]; rfl
          · rw [show (j % 2 == 1) = false by simpa using hm', cond_false, if_neg (by omega)]
      · rw [show (i % 2 == 1) = false by simpa using hm, cond_false] at h
        obtain ⟨u, hu, rfl⟩ := Option.map_eq_some_iff.1 h
        have ih := Tr.get_set x f .nil u (i / 2 - 1) (j / 2 - 1) hu
        by_cases hj : j = 0
        · subst hj; simp [Tr.get, Ne.symm hi]
        · simp only [Tr.get, show (j == 0) = false by simpa using hj, cond_false]
          by_cases hm' : j % 2 = 1
          · rw [show (j % 2 == 1) = true by simpa using hm', cond_true, if_neg (by omega)]
          · rw [show (j % 2 == 1) = false by simpa using hm', cond_false, ih]
            by_cases he : j = i
            · simp [he]
            · rw [if_neg he, if_neg (by omega)]; rfl
  | f + 1, .node v l r, t', i, j, h => by
    unfold Tr.set at h
    by_cases hi : i = 0
    · subst hi
      simp only [beq_self_eq_true, cond_true, Option.some.injEq] at h
      subst h
      by_cases hj : j = 0
      · simp [hj, Tr.get]
      · have hj' : (j == 0) = false := by simpa using hj
        simp [hj, hj', Tr.get]
    · have hi' : (i == 0) = false := by simpa using hi
      rw [hi', cond_false] at h
      by_cases hm : i % 2 = 1
      · rw [show (i % 2 == 1) = true by simpa using hm, cond_true] at h
        obtain ⟨u, hu, rfl⟩ := Option.map_eq_some_iff.1 h
        have ih := Tr.get_set x f l u (i / 2) (j / 2) hu
        by_cases hj : j = 0
        · subst hj; simp [Tr.get, Ne.symm hi]
        · simp only [Tr.get, show (j == 0) = false by simpa using hj, cond_false]
          by_cases hm' : j % 2 = 1
          · rw [show (j % 2 == 1) = true by simpa using hm', cond_true, cond_true, ih]
            by_cases he : j = i
            · simp [he]
            · rw [if_neg he, if_neg (by omega)]
          · rw [show (j % 2 == 1) = false by simpa using hm', cond_false, cond_false, if_neg (by omega)]
      · rw [show (i % 2 == 1) = false by simpa using hm, cond_false] at h
        obtain ⟨u, hu, rfl⟩ := Option.map_eq_some_iff.1 h
        have ih := Tr.get_set x f r u (i / 2 - 1) (j / 2 - 1) hu
        by_cases hj : j = 0
        · subst hj; simp [Tr.get, Ne.symm hi]
        · simp only [Tr.get, show (j == 0) = false by simpa using hj, cond_false]
          by_cases hm' : j % 2 = 1
          · rw [show (j % 2 == 1) = true by simpa using hm', cond_true, cond_true, if_neg (by omega)]
          · rw [show (j % 2 == 1) = false by simpa using hm', cond_false, cond_false, ih]
            by_cases he : j = i
            · simp [he]
            · rw [if_neg he, if_neg (by omega)]

/-- An address that no block has. -/
def dead : Nat := 1099511627776

/-- What is not known any more: it stands for whatever value. -/
def poison : Value := .complex .f32 77 77

/-- An entry of a map. -/
structure Ent where
  key : Value
  val : Value
  born : Nat

/-- What the symbols stand for: values of one cell. -/
class Sig where
  σ : Nat → Value
  one : ∀ k, (∀ cs, σ k ≠ .agg cs ∧ σ k ≠ .tuple cs)
  imm : Nat → Option Obj

/-- A symbol. -/
def symv (k : Nat) : Value := .complex .f64 k 0

/-- The record of a range over a function. -/
structure ALoop where
  state : LoopState
  pending : Option Code
  sl : Tr Value
  N : Nat
  params : List Tmp
  assign : Code
  body : Code
  dfr : Nat

/-- Objects that are no cells and no maps. -/
inductive AOth where
  | siter (s : ByteArray) (pos : Nat)
  | deferred
  | gone
  | loop (l : ALoop)

/-- An abstract object. -/
inductive AObj where
  | cells (c : List Value)
  | map (es : List Ent) (clock : Nat)
  | oth (x : AOth)

/-- An abstract block: its family (blocks of one family may lie in one block of the model, position against position), its position in it, the cells of an element where it was made by append, whether it is never written. -/
structure ABlk where
  obj : AObj
  fam : Nat
  pos : Nat
  stride : Nat
  ro : Bool
  ty : TypeId

structure AS where
  bl : Tr ABlk
  n : Nat
  mem : Tr (List Nat)
  low : Nat

/-- Where an abstract block lies. -/
structure Em where
  blk : Nat
  sh : Nat
  stride : Nat
  lim : Nat
abbrev Emb := Nat → Option Em

mutual
def plain : Value → Bool
  | .bool _ | .int .. | .float .. | .string _ | .pointer none | .map none | .chan none | .nilFunc | .nilIface => true
  | .slice none l c => l == 0 && c == 0
  | .func (.func _) ⟨[]⟩ ⟨[]⟩ => true
  | .iface _ v => plain v
  | .agg ⟨l⟩ => plainL l
  | .tuple ⟨l⟩ => plainL l
  | _ => false
def plainL : List Value → Bool
  | [] => true
  | v :: r => plain v && plainL r
end

variable [Sig]

inductive VRel (φ : Emb) : Value → Value → Prop where
  | poison (v' : Value) : VRel φ poison v'
  | sym (k : Nat) : VRel φ (symv k) (Sig.σ k)
  | bool (b : Bool) : VRel φ (.bool b) (.bool b)
  | int (k : IntKind) (n : Int) : VRel φ (.int k n) (.int k n)
  | float (k : FloatKind) (b : Nat) : VRel φ (.float k b) (.float k b)
  | string (s : ByteArray) : VRel φ (.string s) (.string s)
  | pnil : VRel φ (.pointer none) (.pointer none)
  | ptr {b o : Nat} {e : Em} (h : φ b = some e) : VRel φ (.pointer (some ⟨b, o, none⟩)) (.pointer (some ⟨e.blk, e.sh + o, none⟩))
  | slnil (l c : Nat) : VRel φ (.slice none l c) (.slice none l c)
  | slz {o c' : Nat} (a' : Addr) (h : o = 0 → c' = 0) : VRel φ (.slice (some ⟨dead, o, none⟩) 0 0) (.slice (some a') 0 c')
  | slx {b o : Nat} {e : Em} (n c : Nat) (h : φ b = some e) : VRel φ (.slice (some ⟨b, o, none⟩) n c) (.slice (some ⟨e.blk, e.sh + o, none⟩) n c)
  | slg {b o : Nat} {e : Em} (n c c' : Nat) (h : φ b = some e) (hs : 1 ≤ e.stride) (hc : c ≤ c') (hl : e.sh + o + c' * e.stride ≤ e.lim) : VRel φ (.slice (some ⟨b, o, none⟩) n c) (.slice (some ⟨e.blk, e.sh + o, none⟩) n c')
  | mapnil : VRel φ (.map none) (.map none)
  | map {b : Nat} {e : Em} (h : φ b = some e) : VRel φ (.map (some b)) (.map (some e.blk))
  | chan : VRel φ (.chan none) (.chan none)
  | func {fn : Fn} (fs fs' cs cs' : Array Value) (hn : ∀ l, fn ≠ .yield l) (h1 : fs.size = fs'.size) (h2 : cs.size = cs'.size) (hf : ∀ i, i < fs.size → VRel φ (fs.getD i undef) (fs'.getD i undef)) (hc : ∀ i, i < cs.size → VRel φ (cs.getD i undef) (cs'.getD i undef)) : VRel φ (.func fn fs cs) (.func fn fs' cs')
  | yld {b : Nat} {e : Em} (h : φ b = some e) : VRel φ (.func (.yield b) #[] #[]) (.func (.yield e.blk) #[] #[])
  | nilFunc : VRel φ .nilFunc .nilFunc
  | nilIface : VRel φ .nilIface .nilIface
  | iface (t : TypeId) {v v' : Value} (h : VRel φ v v') : VRel φ (.iface t v) (.iface t v')
  | agg (cs cs' : Array Value) (h1 : cs.size = cs'.size) (h : ∀ i, i < cs.size → VRel φ (cs.getD i undef) (cs'.getD i undef)) : VRel φ (.agg cs) (.agg cs')
  | tuple (cs cs' : Array Value) (h1 : cs.size = cs'.size) (h : ∀ i, i < cs.size → VRel φ (cs.getD i undef) (cs'.getD i undef)) : VRel φ (.tuple cs) (.tuple cs')

theorem VRel.undef_refl (φ : Emb) : VRel φ undef undef := .tuple _ _ rfl fun i h => absurd h (by simp)

theorem VRel.mono {φ φ' : Emb} (hφ : ∀ b e, φ b = some e → φ' b = some e) {v v' : Value} (h : VRel φ v v') : VRel φ' v v' := by
  induction h with
  | poison v' => exact .poison v'
  | sym k => exact .sym k
  | bool b => exact .bool b
  | int k n => exact .int k n
  | float k b => exact .float k b
  | string s => exact .string s
  | pnil => exact .pnil
  | ptr h => exact .ptr (hφ _ _ h)
  | slnil l c => exact .slnil l c
  | slz a' h => exact .slz a' h
  | slx n c h => exact .slx n c (hφ _ _ h)
  | slg n c c' h hs hc hl => exact .slg n c c' (hφ _ _ h) hs hc hl
  | mapnil => exact .mapnil
  | map h => exact .map (hφ _ _ h)
  | chan => exact .chan
  | func fs fs' cs cs' hn h1 h2 _ _ ih1 ih2 => exact .func fs fs' cs cs' hn h1 h2 ih1 ih2
  | yld h => exact .yld (hφ _ _ h)
  | nilFunc => exact .nilFunc
  | nilIface => exact .nilIface
  | iface t _ ih => exact .iface t ih
  | agg cs cs' h1 _ ih => exact .agg cs cs' h1 ih
  | tuple cs cs' h1 _ ih => exact .tuple cs cs' h1 ih

mutual
theorem VRel.of_plain (φ : Emb) : ∀ v : Value, plain v = true → VRel φ v v
  | .bool b, _ => .bool b
  | .int k n, _ => .int k n
  | .float k b, _ => .float k b
  | .string s, _ => .string s
  | .pointer none, _ => .pnil
  | .map none, _ => .mapnil
  | .chan none, _ => .chan
  | .nilFunc, _ => .nilFunc
  | .nilIface, _ => .nilIface
  | .slice none l c, _ => .slnil l c
  | .func (.func f) ⟨[]⟩ ⟨[]⟩, _ => .func _ _ _ _ (fun l h => by cases h) rfl rfl (fun i h => absurd h (by simp)) (fun i h => absurd h (by simp))
  | .iface t v, h => .iface t (VRel.of_plain φ v (by simpa [plain] using h))
  | .agg ⟨l⟩, h => .agg _ _ rfl fun i hi => by
      have := VRel.of_plainL φ l (by simpa [plain] using h) i hi
      simpa using this
  | .tuple ⟨l⟩, h => .tuple _ _ rfl fun i hi => by
      have := VRel.of_plainL φ l (by simpa [plain] using h) i hi
      simpa using this
theorem VRel.of_plainL (φ : Emb) : ∀ l : List Value, plainL l = true → ∀ i, i < l.length → VRel φ (l.getD i Go.undef) (l.getD i Go.undef)
  | [], _, i, hi => absurd hi (by simp)
  | v :: r, h, 0, _ => by
      have := VRel.of_plain φ v (by simp [plainL] at h; exact h.1)
      simpa using this
  | v :: r, h, i + 1, hi => by
      have := VRel.of_plainL φ r (by simp [plainL] at h; exact h.2) i (by simpa using hi)
      simpa using this
end

end AE
end Go.Proofs.YtheaofepenbcgaaDoor

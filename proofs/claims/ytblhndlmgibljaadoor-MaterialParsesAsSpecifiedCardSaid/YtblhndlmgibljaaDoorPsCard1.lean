/- Parts of the proof, in the order in which they are built: Ae1, Ae2, Ae3, Ae4, Ae5, Ae6, Ae7, Ae8, Ae9, Ae10, Ae11, Ae12, AeU, AeMp. -/
import Derived.WalkKit
import Derived.Orders
import Derived.IntWalk

/- AE, part 1: the abstract state of a deterministic evaluator, and what it is for a world of the model to be related to one. -/
namespace Go.Proofs.YtblhndlmgibljaaDoor
open Go
namespace AE

inductive Tr (α : Type) where
  | nil
  | node (v : Option α) (l r : Tr α)

def Tr.get {α : Type} : Tr α → Nat → Option α
  | .nil, _ => none
  | .node v l r, i => bif i == 0 then v else bif i % 2 == 1 then l.get (i / 2) else r.get (i / 2 - 1)

def Tr.set {α : Type} (x : α) : Nat → Tr α → Nat → Option (Tr α)
  | 0, _, _ => none
  | f + 1, .nil, i => bif i == 0 then some (.node (some x) .nil .nil) else bif i % 2 == 1 then (Tr.set x f .nil (i / 2)).map (.node none · .nil) else (Tr.set x f .nil (i / 2 - 1)).map (.node none .nil ·)
  | f + 1, .node v l r, i => bif i == 0 then some (.node (some x) l r) else bif i % 2 == 1 then (Tr.set x f l (i / 2)).map (.node v · r) else (Tr.set x f r (i / 2 - 1)).map (.node v l ·)

theorem Tr.get_set {α : Type} (x : α) : ∀ (f : Nat) (t t' : Tr α) (i j : Nat), Tr.set x f t i = some t' → t'.get j = if j = i then some x else t.get j
  | 0, _, _, _, _, h => by simp [Tr.set] at h
  | f + 1, .nil, t', i, j, h => by
    unfold Tr.set at h
    by_cases hi : i = 0
    · subst hi
      simp only [beq_self_eq_true, cond_true, Option.some.injEq] at h
      subst h
      by_cases hj : j = 0
      · simp [hj, Tr.get]
      · have hj' : (j == 0) = false := by simpa using hj
        by_cases hm : j % 2 = 1 <;> simp [hj, hj', Tr.get, hm]
    · have hi' : (i == 0) = false := by simpa using hi
      rw [hi', cond_false] at h
      by_cases hm : i % 2 = 1
      · rw [show (i % 2 == 1) = true by simpa using hm, cond_true] at h
        obtain ⟨u, hu, rfl⟩ := Option.map_eq_some_iff.1 h
        have ih := Tr.get_set x f .nil u (i / 2) (j / 2) hu
        by_cases hj : j = 0
        · subst hj; simp [Tr.get, Ne.symm hi]
        · simp only [Tr.get, show (j == 0) = false by simpa using hj, cond_false]
          by_cases hm' : j % 2 = 1
          · rw [show (j % 2 == 1) = true by simpa using hm', cond_true, ih]
            by_cases he : j = i
            · simp [he]
            · rw [if_neg he, if_neg (by omega)]; rfl
          · rw [show (j % 2 == 1) = false by simpa using hm', cond_false, if_neg (by omega)]
      · rw [show (i % 2 == 1) = false by simpa using hm, cond_false] at h
        obtain ⟨u, hu, rfl⟩ := Option.map_eq_some_iff.1 h
        have ih := Tr.get_set x f .nil u (i / 2 - 1) (j / 2 - 1) hu
        by_cases hj : j = 0
        · subst hj; simp [Tr.get, Ne.symm hi]
        · simp only [Tr.get, show (j == 0) = false by simpa using hj, cond_false]
          by_cases hm' : j % 2 = 1
          · rw [show (j % 2 == 1) = true by simpa using hm', cond_true, if_neg (by omega)]
          · rw [show (j % 2 == 1) = false by simpa using hm', cond_false, ih]
            by_cases he : j = i
            · simp [he]
            · rw [if_neg he, if_neg (by omega)]; rfl
  | f + 1, .node v l r, t', i, j, h => by
    unfold Tr.set at h
    by_cases hi : i = 0
    · subst hi
      simp only [beq_self_eq_true, cond_true, Option.some.injEq] at h
      subst h
      by_cases hj : j = 0
      · simp [hj, Tr.get]
      · have hj' : (j == 0) = false := by simpa using hj
        simp [hj, hj', Tr.get]
    · have hi' : (i == 0) = false := by simpa using hi
      rw [hi', cond_false] at h
      by_cases hm : i % 2 = 1
      · rw [show (i % 2 == 1) = true by simpa using hm, cond_true] at h
        obtain ⟨u, hu, rfl⟩ := Option.map_eq_some_iff.1 h
        have ih := Tr.get_set x f l u (i / 2) (j / 2) hu
        by_cases hj : j = 0
        · subst hj; simp [Tr.get, Ne.symm hi]
        · simp only [Tr.get, show (j == 0) = false by simpa using hj, cond_false]
          by_cases hm' : j % 2 = 1
          · rw [show (j % 2 == 1) = true by simpa using hm', cond_true, cond_true, ih]
            by_cases he : j = i
            · simp [he]
            · rw [if_neg he, if_neg (by omega)]
          · rw [show (j % 2 == 1) = false by simpa using hm', cond_false, cond_false, if_neg (by omega)]
      · rw [show (i % 2 == 1) = false by simpa using hm, cond_false] at h
        obtain ⟨u, hu, rfl⟩ := Option.map_eq_some_iff.1 h
        have ih := Tr.get_set x f r u (i / 2 - 1) (j / 2 - 1) hu
        by_cases hj : j = 0
        · subst hj; simp [Tr.get, Ne.symm hi]
        · simp only [Tr.get, show (j == 0) = false by simpa using hj, cond_false]
          by_cases hm' : j % 2 = 1
          · rw [show (j % 2 == 1) = true by simpa using hm', cond_true, cond_true, if_neg (by omega)]
          · rw [show (j % 2 == 1) = false by simpa using hm', cond_false, cond_false, ih]
            by_cases he : j = i
            · simp [he]
            · rw [if_neg he, if_neg (by omega)]

def dead : Nat := 1099511627776

def poison : Value := .complex .f32 77 77

structure Ent where
  key : Value
  val : Value
  born : Nat

def gbase : Nat := 1000000

class Sig where
  σ : Nat → Value
  one : ∀ k, (∀ cs, σ k ≠ .agg cs ∧ σ k ≠ .tuple cs)
  imm : Nat → Option Obj
  glob : ∀ g, σ (gbase + g) = .pointer (some ⟨g, 0, none⟩)

def symv (k : Nat) : Value := .complex .f64 k 0

structure ALoop where
  state : LoopState
  pending : Option Code
  sl : Tr Value
  N : Nat
  params : List Tmp
  assign : Code
  body : Code
  dfr : Nat

inductive AOth where
  | siter (s : ByteArray) (pos : Nat)
  | deferred
  | gone
  | loop (l : ALoop)

inductive AObj where
  | cells (c : List Value)
  | map (es : List Ent) (clock : Nat)
  | oth (x : AOth)

structure ABlk where
  obj : AObj
  fam : Nat
  pos : Nat
  stride : Nat
  ro : Bool
  ty : TypeId

structure AS where
  bl : Tr ABlk
  n : Nat
  mem : Tr (List Nat)
  low : Nat

structure Em where
  blk : Nat
  sh : Nat
  stride : Nat
  lim : Nat
abbrev Emb := Nat → Option Em

mutual
def plain : Value → Bool
  | .bool _ | .int .. | .float .. | .string _ | .pointer none | .map none | .chan none | .nilFunc | .nilIface => true
  | .slice none l c => l == 0 && c == 0
  | .func (.func _) ⟨[]⟩ ⟨[]⟩ => true
  | .iface _ v => plain v
  | .agg ⟨l⟩ => plainL l
  | .tuple ⟨l⟩ => plainL l
  | _ => false
def plainL : List Value → Bool
  | [] => true
  | v :: r => plain v && plainL r
end

variable [Sig]

inductive VRel (φ : Emb) : Value → Value → Prop where
  | poison (v' : Value) : VRel φ poison v'
  | sym (k : Nat) : VRel φ (symv k) (Sig.σ k)
  | bool (b : Bool) : VRel φ (.bool b) (.bool b)
  | int (k : IntKind) (n : Int) : VRel φ (.int k n) (.int k n)
  | float (k : FloatKind) (b : Nat) : VRel φ (.float k b) (.float k b)
  | string (s : ByteArray) : VRel φ (.string s) (.string s)
  | pnil : VRel φ (.pointer none) (.pointer none)
  | ptr {b o : Nat} {e : Em} (h : φ b = some e) : VRel φ (.pointer (some ⟨b, o, none⟩)) (.pointer (some ⟨e.blk, e.sh + o, none⟩))
  | slnil (l c : Nat) : VRel φ (.slice none l c) (.slice none l c)
  | slz {o c' : Nat} (a' : Addr) (h : o = 0 → c' = 0) : VRel φ (.slice (some ⟨dead, o, none⟩) 0 0) (.slice (some a') 0 c')
  | slx {b o : Nat} {e : Em} (n c : Nat) (h : φ b = some e) : VRel φ (.slice (some ⟨b, o, none⟩) n c) (.slice (some ⟨e.blk, e.sh + o, none⟩) n c)
  | slg {b o : Nat} {e : Em} (n c c' : Nat) (h : φ b = some e) (hs : 1 ≤ e.stride) (hc : c ≤ c') (hl : e.sh + o + c' * e.stride ≤ e.lim) : VRel φ (.slice (some ⟨b, o, none⟩) n c) (.slice (some ⟨e.blk, e.sh + o, none⟩) n c')
  | mapnil : VRel φ (.map none) (.map none)
  | map {b : Nat} {e : Em} (h : φ b = some e) : VRel φ (.map (some b)) (.map (some e.blk))
  | chan : VRel φ (.chan none) (.chan none)
  | func {fn : Fn} (fs fs' cs cs' : Array Value) (hn : ∀ l, fn ≠ .yield l) (h1 : fs.size = fs'.size) (h2 : cs.size = cs'.size) (hf : ∀ i, i < fs.size → VRel φ (fs.getD i undef) (fs'.getD i undef)) (hc : ∀ i, i < cs.size → VRel φ (cs.getD i undef) (cs'.getD i undef)) : VRel φ (.func fn fs cs) (.func fn fs' cs')
  | yld {b : Nat} {e : Em} (h : φ b = some e) : VRel φ (.func (.yield b) #[] #[]) (.func (.yield e.blk) #[] #[])
  | nilFunc : VRel φ .nilFunc .nilFunc
  | nilIface : VRel φ .nilIface .nilIface
  | iface (t : TypeId) {v v' : Value} (h : VRel φ v v') : VRel φ (.iface t v) (.iface t v')
  | agg (cs cs' : Array Value) (h1 : cs.size = cs'.size) (h : ∀ i, i < cs.size → VRel φ (cs.getD i undef) (cs'.getD i undef)) : VRel φ (.agg cs) (.agg cs')
  | tuple (cs cs' : Array Value) (h1 : cs.size = cs'.size) (h : ∀ i, i < cs.size → VRel φ (cs.getD i undef) (cs'.getD i undef)) : VRel φ (.tuple cs) (.tuple cs')

theorem VRel.undef_refl (φ : Emb) : VRel φ undef undef := .tuple _ _ rfl fun i h => absurd h (by simp)

theorem VRel.mono {φ φ' : Emb} (hφ : ∀ b e, φ b = some e → φ' b = some e) {v v' : Value} (h : VRel φ v v') : VRel φ' v v' := by
  induction h with
  | poison v' => exact .poison v'
  | sym k => exact .sym k
  | bool b => exact .bool b
  | int k n => exact .int k n
  | float k b => exact .float k b
  | string s => exact .string s
  | pnil => exact .pnil
  | ptr h => exact .ptr (hφ _ _ h)
  | slnil l c => exact .slnil l c
  | slz a' h => exact .slz a' h
  | slx n c h => exact .slx n c (hφ _ _ h)
  | slg n c c' h hs hc hl => exact .slg n c c' (hφ _ _ h) hs hc hl
  | mapnil => exact .mapnil
  | map h => exact .map (hφ _ _ h)
  | chan => exact .chan
  | func fs fs' cs cs' hn h1 h2 _ _ ih1 ih2 => exact .func fs fs' cs cs' hn h1 h2 ih1 ih2
  | yld h => exact .yld (hφ _ _ h)
  | nilFunc => exact .nilFunc
  | nilIface => exact .nilIface
  | iface t _ ih => exact .iface t ih
  | agg cs cs' h1 _ ih => exact .agg cs cs' h1 ih
  | tuple cs cs' h1 _ ih => exact .tuple cs cs' h1 ih

mutual
theorem VRel.of_plain (φ : Emb) : ∀ v : Value, plain v = true → VRel φ v v
  | .bool b, _ => .bool b
  | .int k n, _ => .int k n
  | .float k b, _ => .float k b
  | .string s, _ => .string s
  | .pointer none, _ => .pnil
  | .map none, _ => .mapnil
  | .chan none, _ => .chan
  | .nilFunc, _ => .nilFunc
  | .nilIface, _ => .nilIface
  | .slice none l c, _ => .slnil l c
  | .func (.func f) ⟨[]⟩ ⟨[]⟩, _ => .func _ _ _ _ (fun l h => by cases h) rfl rfl (fun i h => absurd h (by simp)) (fun i h => absurd h (by simp))
  | .iface t v, h => .iface t (VRel.of_plain φ v (by simpa [plain] using h))
  | .agg ⟨l⟩, h => .agg _ _ rfl fun i hi => by
      have := VRel.of_plainL φ l (by simpa [plain] using h) i hi
      simpa using this
  | .tuple ⟨l⟩, h => .tuple _ _ rfl fun i hi => by
      have := VRel.of_plainL φ l (by simpa [plain] using h) i hi
      simpa using this
theorem VRel.of_plainL (φ : Emb) : ∀ l : List Value, plainL l = true → ∀ i, i < l.length → VRel φ (l.getD i Go.undef) (l.getD i Go.undef)
  | [], _, i, hi => absurd hi (by simp)
  | v :: r, h, 0, _ => by
      have := VRel.of_plain φ v (by simp [plainL] at h; exact h.1)
      simpa using this
  | v :: r, h, i + 1, hi => by
      have := VRel.of_plainL φ r (by simp [plainL] at h; exact h.2) i (by simpa using hi)
      simpa using this
end

end AE
end Go.Proofs.YtblhndlmgibljaaDoor

/- AE, part 2: when a world is related to an abstract state; what a step of both keeps. -/
namespace Go.Proofs.YtblhndlmgibljaaDoor
open Go
namespace AE
variable [Sig]

structure WF (A : AS) : Prop where
  lt : ∀ b k, A.bl.get b = some k → b < A.n
  famlt : ∀ b k, A.bl.get b = some k → k.fam < A.n
  mem : ∀ b k, A.bl.get b = some k → ∃ l, A.mem.get k.fam = some l ∧ b ∈ l
  rofam : ∀ b k b' k', A.bl.get b = some k → A.bl.get b' = some k' → k.fam = k'.fam → k.ro = k'.ro

def OthRel (φ : Emb) : AOth → Obj → Prop
  | .siter s p, o => o = .stringIter s p
  | .deferred, o => o = .deferred (some [])
  | .gone, o => o = .deferred none
  | .loop l, o => ∃ r : Loop, o = .loop r ∧ r.state = l.state ∧ r.pending = l.pending ∧ r.tmps.size = l.N ∧ r.params = ⟨l.params⟩ ∧ r.assign = l.assign ∧ r.body = l.body ∧ (∃ e, φ l.dfr = some e ∧ r.defers = e.blk) ∧
      (∀ t v, l.sl.get t = some v → VRel φ v (r.tmps.getD t undef))

theorem OthRel.no_cells {φ : Emb} {x : AOth} {c : Array Value} {t : TypeId} {f : Nat × Nat} (h : OthRel φ x (.cells c t f)) : False := by
  cases x with
  | siter s p => cases h
  | deferred => cases h
  | gone => cases h
  | loop l => obtain ⟨r, h, _⟩ := h; cases h

theorem OthRel.mono {φ φ' : Emb} {x : AOth} {o : Obj} (hφ : ∀ b e, φ b = some e → φ' b = some e) (h : OthRel φ x o) : OthRel φ' x o := by
  cases x with
  | siter s p => exact h
  | deferred => exact h
  | gone => exact h
  | loop l =>
    obtain ⟨r, h0, h1, h2, h3, h4, h5, h6, ⟨e, h7, h8⟩, h9⟩ := h
    exact ⟨r, h0, h1, h2, h3, h4, h5, h6, ⟨e, hφ _ _ h7, h8⟩, fun t v hv => (h9 t v hv).mono hφ⟩

def ORel (φ : Emb) (w : World) (e : Em) (k : ABlk) : Prop :=
  match k.obj with
  | .cells c => ∃ c' fr', w.heap[e.blk]? = some (.cells c' k.ty fr') ∧ e.lim = c'.size ∧ (e.sh + c.length ≤ c'.size ∧ (k.stride = 0 → e.sh = 0 ∧ c.length = c'.size)) ∧
      (∀ j, j < c.length → VRel φ (c.getD j undef) (c'.getD (e.sh + j) undef)) ∧ (k.ro = false → ∀ i, i < c'.size → ¬ (fr'.1 ≤ i ∧ i < fr'.2))
  | .map es cl => ∃ es', w.heap[e.blk]? = some (.map es' cl) ∧ es.length = es'.size ∧
      ∀ (j : Nat) (a : Ent) (b : MapEntry), es[j]? = some a → es'[j]? = some b → plain a.key = true ∧ a.key = b.key ∧ VRel φ a.val b.val ∧ a.born = b.born
  | .oth x => e.sh = 0 ∧ ∃ o', w.heap[e.blk]? = some o' ∧ OthRel φ x o'

structure Rel (φ : Emb) (A : AS) (w : World) : Prop where
  wf : WF A
  dom : ∀ b e, φ b = some e → ∃ k, A.bl.get b = some k ∧ e.stride = k.stride ∧ ORel φ w e k
  apart : ∀ b e k b' e' k', φ b = some e → φ b' = some e' → A.bl.get b = some k → A.bl.get b' = some k' → k.fam ≠ k'.fam → e.blk ≠ e'.blk
  along : ∀ b e k b' e' k', φ b = some e → φ b' = some e' → A.bl.get b = some k → A.bl.get b' = some k' → k.fam = k'.fam → e.blk = e'.blk → e.sh + k'.pos = e'.sh + k.pos
  imm : ∀ i o, Sig.imm i = some o → w.heap[i]? = some o ∧ ∀ b e, φ b = some e → e.blk ≠ i

abbrev dr0 (_ : World) : Nat := 0

structure Step (φ : Emb) (A : AS) (w : World) (φ' : Emb) (A' : AS) (w' : World) : Prop where
  rel : Rel φ' A' w'
  dom : ∀ b, b < A.n → φ' b = φ b
  newm : ∀ b, A.n ≤ b → b < A'.n → φ' b ≠ none
  new : ∀ b e, A.n ≤ b → φ' b = some e → w.heap.size ≤ e.blk ∨ ∃ b0 e0 k0, φ b0 = some e0 ∧ e0.blk = e.blk ∧ A'.low ≤ b0 ∧ A.bl.get b0 = some k0 ∧ k0.ro = false
  n_le : A.n ≤ A'.n
  low : A'.low ≤ A.low
  same : ∀ b, b < A.n → b < A'.low → A'.bl.get b = A.bl.get b
  ro : ∀ b k, A.bl.get b = some k → k.ro = true → A'.bl.get b = some k
  keep : ∀ i, i < w.heap.size → (∀ b e k, φ b = some e → e.blk = i → A.bl.get b = some k → k.ro = true) → w'.heap[i]? = w.heap[i]?
  hsize : w.heap.size ≤ w'.heap.size
  os : w'.os = w.os
  tape : w'.tape = w.tape
  output : w'.output = w.output
  drawn : dr0 w ≤ dr0 w'

theorem Rel.lt {φ : Emb} {A : AS} {w : World} (h : Rel φ A w) {b : Nat} {e : Em} (hb : φ b = some e) : b < A.n := by
  obtain ⟨k, hk, _⟩ := h.dom b e hb
  exact h.wf.lt b k hk

theorem Step.ext {φ φ' : Emb} {A A' : AS} {w w' : World} (h : Step φ A w φ' A' w') (hr : Rel φ A w) : ∀ b e, φ b = some e → φ' b = some e := fun b e hb => by
  rw [h.dom b (hr.lt hb)]; exact hb

theorem Step.refl {φ : Emb} {A : AS} {w : World} (h : Rel φ A w) : Step φ A w φ A w where
  rel := h
  dom := fun _ _ => rfl
  newm := fun b h1 h2 => by omega
  new := fun b e h1 h2 => absurd (h.lt h2) (by omega)
  n_le := Nat.le_refl _
  low := Nat.le_refl _
  same := fun _ _ _ => rfl
  ro := fun _ _ h _ => h
  keep := fun _ _ _ => rfl
  hsize := Nat.le_refl _
  os := rfl
  tape := rfl
  output := rfl
  drawn := Nat.le_refl _

theorem Step.trans {φ φ1 φ2 : Emb} {A A1 A2 : AS} {w w1 w2 : World} (hr : Rel φ A w) (h1 : Step φ A w φ1 A1 w1) (h2 : Step φ1 A1 w1 φ2 A2 w2) : Step φ A w φ2 A2 w2 where
  rel := h2.rel
  dom := fun b hb => by rw [h2.dom b (Nat.lt_of_lt_of_le hb h1.n_le), h1.dom b hb]
  newm := fun b h h' => by
    rcases Nat.lt_or_ge b A1.n with hlt | hge
    · rw [h2.dom b hlt]; exact h1.newm b h hlt
    · exact h2.newm b hge h'
  new := by
    have first : ∀ b e, A.n ≤ b → φ1 b = some e → w.heap.size ≤ e.blk ∨ ∃ b0 e0 k0, φ b0 = some e0 ∧ e0.blk = e.blk ∧ A2.low ≤ b0 ∧ A.bl.get b0 = some k0 ∧ k0.ro = false := fun b e hb he => by
      rcases h1.new b e hb he with h | ⟨b0, e0, k0, q1, q2, q3, q4, q5⟩
      · exact .inl h
      · exact .inr ⟨b0, e0, k0, q1, q2, Nat.le_trans h2.low q3, q4, q5⟩
    intro b e hb he
    rcases Nat.lt_or_ge b A1.n with hlt | hge
    · rw [h2.dom b hlt] at he
      exact first b e hb he
    · rcases h2.new b e hge he with h | ⟨b0, e0, k0, q1, q2, q3, q4, q5⟩
      · exact .inl (Nat.le_trans h1.hsize h)
      · rcases Nat.lt_or_ge b0 A.n with hlt | hge0
        · rw [h1.dom b0 hlt] at q1
          obtain ⟨k, hk, _⟩ := hr.dom b0 e0 q1
          refine .inr ⟨b0, e0, k, q1, q2, q3, hk, ?_⟩
          cases hro : k.ro with
          | false => rfl
          | true =>
            have := h1.ro b0 k hk hro
            rw [q4] at this
            cases this
            rw [q5] at hro
            exact hro.symm ▸ rfl
        · rcases first b0 e0 hge0 q1 with h | ⟨b1, e1, k1, r1, r2, r3, r4, r5⟩
          · exact .inl (by omega)
          · exact .inr ⟨b1, e1, k1, r1, r2.trans q2, r3, r4, r5⟩
  n_le := Nat.le_trans h1.n_le h2.n_le
  low := Nat.le_trans h2.low h1.low
  same := fun b hb hl => by rw [h2.same b (Nat.lt_of_lt_of_le hb h1.n_le) hl, h1.same b hb (Nat.lt_of_lt_of_le hl h2.low)]
  ro := fun b k hk hro => h2.ro b k (h1.ro b k hk hro) hro
  keep := fun i hi hall => by
    rw [h2.keep i (Nat.lt_of_lt_of_le hi h1.hsize) ?_, h1.keep i hi hall]
    intro b e k hb he hk
    rcases Nat.lt_or_ge b A.n with hlt | hge
    · rw [h1.dom b hlt] at hb
      obtain ⟨k0, hk0, _⟩ := hr.dom b e hb
      have hro := hall b e k0 hb he hk0
      have := h1.ro b k0 hk0 hro
      rw [hk] at this
      cases this
      exact hro
    · rcases h1.new b e hge hb with h | ⟨b0, e0, k0, q1, q2, q3, q4, q5⟩
      · omega
      · have := hall b0 e0 k0 q1 (q2.trans he) q4
        rw [q5] at this
        cases this
  hsize := Nat.le_trans h1.hsize h2.hsize
  os := h2.os.trans h1.os
  tape := h2.tape.trans h1.tape
  output := h2.output.trans h1.output
  drawn := Nat.le_trans h1.drawn h2.drawn

theorem Step.drawnTo {φ : Emb} {A : AS} {w : World} (h : Rel φ A w) (n : Nat) (hd : w.drawn ≤ n := by omega) : Step φ A w φ A { w with drawn := n } :=
  { Step.refl h with rel := ⟨h.wf, h.dom, h.apart, h.along, h.imm⟩, keep := fun _ _ _ => rfl, drawn := Nat.le_refl _ }

/- NEW BLOCKS -/

def depth : Nat := 30

def AS.push (A : AS) (o : AObj) (st : Nat) (ty : TypeId) : Option (Nat × AS) :=
  match Tr.set { obj := o, fam := A.n, pos := 0, stride := st, ro := false, ty := ty : ABlk } depth A.bl A.n, Tr.set [A.n] depth A.mem A.n with
  | some bl, some mem => some (A.n, { A with bl, mem, n := A.n + 1 })
  | _, _ => none

def upd (φ : Emb) (b : Nat) (e : Em) : Emb := fun i => if i = b then some e else φ i

omit [Sig] in
theorem WF.push {A A' : AS} {o : AObj} {st : Nat} {ty : TypeId} {r : Nat} (h : WF A) (hp : A.push o st ty = some (r, A')) :
    WF A' ∧ r = A.n ∧ A'.n = A.n + 1 ∧ A'.low = A.low ∧ (∀ b, A'.bl.get b = if b = A.n then some { obj := o, fam := A.n, pos := 0, stride := st, ro := false, ty := ty } else A.bl.get b) := by
  unfold AS.push at hp
  split at hp
  · rename_i bl mem hb hm
    simp only [Option.some.injEq, Prod.mk.injEq] at hp
    obtain ⟨rfl, rfl⟩ := hp
    have gb := fun b => Tr.get_set _ _ _ _ _ b hb
    have gm := fun b => Tr.get_set _ _ _ _ _ b hm
    refine ⟨⟨?_, ?_, ?_, ?_⟩, rfl, rfl, rfl, gb⟩
    · intro b k hk
      simp only at hk ⊢
      rw [gb] at hk
      split at hk
      · omega
      · have := h.lt b k hk; omega
    · intro b k hk
      simp only at hk ⊢
      rw [gb] at hk
      split at hk
      · cases hk; simp
      · have := h.famlt b k hk; omega
    · intro b k hk
      simp only at hk ⊢
      rw [gb] at hk
      split at hk
      · rename_i hb
        cases hk
        exact ⟨[A.n], by rw [gm, if_pos rfl], by simp [hb]⟩
      · obtain ⟨l, hl, hbl⟩ := h.mem b k hk
        exact ⟨l, by rw [gm, if_neg (by have := h.famlt b k hk; omega)]; exact hl, hbl⟩
    · intro b k b' k' hk hk' hf
      simp only at hk hk'
      rw [gb] at hk hk'
      split at hk
      · cases hk
        split at hk'
        · cases hk'; rfl
        · have := h.famlt b' k' hk'; simp only at hf; omega
      · split at hk'
        · cases hk'
          have := h.famlt b k hk; simp only at hf; omega
        · exact h.rofam b k b' k' hk hk' hf
  · cases hp

theorem ORel.mono {φ φ' : Emb} {w w' : World} {e : Em} {k : ABlk} (hφ : ∀ b e, φ b = some e → φ' b = some e) (hw : w'.heap[e.blk]? = w.heap[e.blk]?) (h : ORel φ w e k) : ORel φ' w' e k := by
  unfold ORel at *
  cases hk : k.obj with
  | cells c =>
    simp only [hk] at h ⊢
    obtain ⟨c', fr', h1, h2, h3, h4, h5⟩ := h
    exact ⟨c', fr', hw.trans h1, h2, h3, fun j hj => (h4 j hj).mono hφ, h5⟩
  | map es cl =>
    simp only [hk] at h ⊢
    obtain ⟨es', h1, h2, h3⟩ := h
    refine ⟨es', hw.trans h1, h2, fun j a b ha hb => ?_⟩
    obtain ⟨q1, q2, q3, q4⟩ := h3 j a b ha hb
    exact ⟨q1, q2, q3.mono hφ, q4⟩
  | oth x =>
    simp only [hk] at h ⊢
    obtain ⟨h0, o', h1, h2⟩ := h
    exact ⟨h0, o', hw.trans h1, h2.mono hφ⟩

theorem ORel.lt {φ : Emb} {w : World} {e : Em} {k : ABlk} (h : ORel φ w e k) : e.blk < w.heap.size := by
  unfold ORel at h
  cases hk : k.obj with
  | cells c =>
    simp only [hk] at h
    obtain ⟨c', fr', h1, _⟩ := h
    exact (Array.getElem?_eq_some_iff.1 h1).1
  | map es cl =>
    simp only [hk] at h
    obtain ⟨es', h1, _⟩ := h
    exact (Array.getElem?_eq_some_iff.1 h1).1
  | oth x =>
    simp only [hk] at h
    obtain ⟨h0, o', h1, h2⟩ := h
    exact (Array.getElem?_eq_some_iff.1 h1).1

theorem step_push {φ : Emb} {A A' : AS} {w : World} {o : AObj} {st : Nat} {ty : TypeId} {r : Nat} {o' : Obj} {e : Em} (hr : Rel φ A w) (hp : A.push o st ty = some (r, A')) (he : e.blk = w.heap.size) (hst : e.stride = st)
    (ho : ORel (upd φ r e) { w with heap := w.heap.push o' } e { obj := o, fam := A.n, pos := 0, stride := st, ro := false, ty := ty }) :
    Step φ A w (upd φ r e) A' { w with heap := w.heap.push o' } := by
  obtain ⟨hwf, rfl, hn, hlow, hget⟩ := hr.wf.push hp
  have hold : ∀ b e1, φ b = some e1 → upd φ A.n e b = some e1 := fun b e1 hb => by
    unfold upd; rw [if_neg (by have := hr.lt hb; omega)]; exact hb
  have hheap : ∀ i, i < w.heap.size → (w.heap.push o')[i]? = w.heap[i]? := fun i hi => by
    rw [Array.getElem?_push, if_neg (by omega)]
  have hcase : ∀ b e1, upd φ A.n e b = some e1 → (b = A.n ∧ e1 = e) ∨ (b ≠ A.n ∧ φ b = some e1) := fun b e1 hb => by
    unfold upd at hb
    split at hb
    · rename_i h; cases hb; exact .inl ⟨h, rfl⟩
    · rename_i h; exact .inr ⟨h, hb⟩
  refine { rel := ⟨hwf, ?_, ?_, ?_, fun i o hi => by
      obtain ⟨h1, h2⟩ := hr.imm i o hi
      have hlt : i < w.heap.size := (Array.getElem?_eq_some_iff.1 h1).1
      refine ⟨by rw [hheap i hlt]; exact h1, fun b e1 hb => ?_⟩
      rcases hcase b e1 hb with ⟨rfl, rfl⟩ | ⟨_, hb⟩
      · omega
      · exact h2 b e1 hb⟩, dom := ?_, newm := ?_, new := ?_, n_le := by omega, low := by omega, same := ?_, ro := ?_, keep := ?_, hsize := by simp, os := rfl, tape := rfl, output := rfl, drawn := Nat.le_refl _ }
  · intro b e1 hb
    rcases hcase b e1 hb with ⟨rfl, rfl⟩ | ⟨hne, hb⟩
    · exact ⟨_, by rw [hget, if_pos rfl], hst, ho⟩
    · obtain ⟨k, hk, h1, h2⟩ := hr.dom b e1 hb
      exact ⟨k, by rw [hget, if_neg hne]; exact hk, h1, h2.mono hold (hheap _ h2.lt)⟩
  · intro b e1 k b' e1' k' hb hb' hk hk' hne
    rw [hget] at hk hk'
    rcases hcase b e1 hb with ⟨rfl, rfl⟩ | ⟨hn1, hbo⟩
    · rcases hcase b' e1' hb' with ⟨rfl, rfl⟩ | ⟨hn2, hbo'⟩
      · rw [if_pos rfl] at hk hk'; cases hk; cases hk'; exact absurd rfl hne
      · obtain ⟨k1, _, _, h2⟩ := hr.dom b' e1' hbo'
        have := h2.lt; omega
    · rcases hcase b' e1' hb' with ⟨rfl, rfl⟩ | ⟨hn2, hbo'⟩
      · obtain ⟨k1, _, _, h2⟩ := hr.dom b e1 hbo
        have := h2.lt; omega
      · rw [if_neg hn1] at hk; rw [if_neg hn2] at hk'
        exact hr.apart b e1 k b' e1' k' hbo hbo' hk hk' hne
  · intro b e1 k b' e1' k' hb hb' hk hk' hfam hblk
    rw [hget] at hk hk'
    rcases hcase b e1 hb with ⟨rfl, rfl⟩ | ⟨hn1, hbo⟩
    · rcases hcase b' e1' hb' with ⟨rfl, rfl⟩ | ⟨hn2, hbo'⟩
      · rw [if_pos rfl] at hk hk'; cases hk; cases hk'; rfl
      · obtain ⟨k1, _, _, h2⟩ := hr.dom b' e1' hbo'
        have := h2.lt; omega
    · rcases hcase b' e1' hb' with ⟨rfl, rfl⟩ | ⟨hn2, hbo'⟩
      · obtain ⟨k1, _, _, h2⟩ := hr.dom b e1 hbo
        have := h2.lt; omega
      · rw [if_neg hn1] at hk; rw [if_neg hn2] at hk'
        exact hr.along b e1 k b' e1' k' hbo hbo' hk hk' hfam hblk
  · intro b hb
    unfold upd; rw [if_neg (by omega)]
  · intro b h1 h2
    have : b = A.n := by omega
    subst this
    simp [upd]
  · intro b e1 h1 hb
    rcases hcase b e1 hb with ⟨rfl, rfl⟩ | ⟨hn1, hb⟩
    · exact .inl (by omega)
    · exact absurd (hr.lt hb) (by omega)
  · intro b hb _
    rw [hget, if_neg (by omega)]
  · intro b k hk _
    rw [hget, if_neg (by have := hr.wf.lt b k hk; omega)]; exact hk
  · intro i hi _
    exact hheap i hi

end AE
end Go.Proofs.YtblhndlmgibljaaDoor

/- AE, part 3: reading and writing cells. -/
namespace Go.Proofs.YtblhndlmgibljaaDoor
open Go
namespace AE
variable [Sig]

def AS.load (A : AS) (b off : Nat) : Option Value :=
  match A.bl.get b with
  | some { obj := .cells c, .. } => c[off]?
  | _ => none

theorem rel_load {φ : Emb} {A : AS} {w : World} (hr : Rel φ A w) {b off : Nat} {v : Value} {e : Em} (h : A.load b off = some v) (he : φ b = some e) :
    ∃ v', w.cell? ⟨e.blk, e.sh + off, none⟩ = some v' ∧ VRel φ v v' := by
  obtain ⟨k, hk, _, ho⟩ := hr.dom b e he
  unfold AS.load at h
  rw [hk] at h
  obtain ⟨ob, fam, pos, stride, ro, ty⟩ := k
  cases ob with
  | cells c =>
    simp only [ORel] at h ho
    obtain ⟨c', fr', h1, h2, h3, h4, h5⟩ := ho
    obtain ⟨hlt, hv⟩ := List.getElem?_eq_some_iff.1 h
    refine ⟨c'.getD (e.sh + off) undef, ?_, ?_⟩
    · simp only [World.cell?, h1]
      simp [show e.sh + off < c'.size by omega]
    · have := h4 off hlt
      rw [List.getD_eq_getElem?_getD, h] at this
      simpa using this
  | map es cl => simp at h
  | oth x => simp at h

def psn (pos : Nat) (k : ABlk) : ABlk :=
  bif k.ro then k else
  match k.obj with
  | .cells c => bif Nat.ble k.pos pos then { k with obj := .cells (c.set (pos - k.pos) poison) } else k
  | _ => k

omit [Sig] in
theorem psn_all (pos : Nat) (k : ABlk) : (psn pos k).fam = k.fam ∧ (psn pos k).pos = k.pos ∧ (psn pos k).stride = k.stride ∧ (psn pos k).ro = k.ro ∧ psn pos (psn pos k) = psn pos k ∧ (k.ro = true → psn pos k = k) ∧ (psn pos k).ty = k.ty := by
  obtain ⟨ob, fam, p, st, ro, ty⟩ := k
  cases ro with
  | true => simp [psn]
  | false =>
    cases ob with
    | cells c => cases h : Nat.ble p pos <;> simp [psn, h]
    | map es cl => simp [psn]
    | oth x => simp [psn]
omit [Sig] in
theorem psn_fam (pos : Nat) (k : ABlk) : (psn pos k).fam = k.fam := (psn_all pos k).1
omit [Sig] in
theorem psn_pos (pos : Nat) (k : ABlk) : (psn pos k).pos = k.pos := (psn_all pos k).2.1
omit [Sig] in
theorem psn_stride (pos : Nat) (k : ABlk) : (psn pos k).stride = k.stride := (psn_all pos k).2.2.1
omit [Sig] in
theorem psn_ro (pos : Nat) (k : ABlk) : (psn pos k).ro = k.ro := (psn_all pos k).2.2.2.1
omit [Sig] in
theorem psn_ty (pos : Nat) (k : ABlk) : (psn pos k).ty = k.ty := (psn_all pos k).2.2.2.2.2.2
omit [Sig] in
theorem psn_psn (pos : Nat) (k : ABlk) : psn pos (psn pos k) = psn pos k := (psn_all pos k).2.2.2.2.1

def psnAll (pos b : Nat) : List Nat → Tr ABlk → Option (Tr ABlk)
  | [], t => some t
  | m :: r, t => bif m == b then psnAll pos b r t else
    match t.get m with
    | some k => match Tr.set (psn pos k) depth t m with
      | some t' => psnAll pos b r t'
      | none => none
    | none => psnAll pos b r t

omit [Sig] in
theorem psnAll_spec (pos b : Nat) : ∀ (l : List Nat) (t t' : Tr ABlk), psnAll pos b l t = some t' →
    ∀ j, t'.get j = if j ∈ l ∧ j ≠ b then (t.get j).map (psn pos) else t.get j
  | [], t, t', h, j => by simp [psnAll] at h; simp [h]
  | m :: r, t, t', h, j => by
    unfold psnAll at h
    by_cases hm : m = b
    · rw [show (m == b) = true by simpa using hm, cond_true] at h
      rw [psnAll_spec pos b r t t' h j]
      subst hm
      by_cases hj : j ∈ r ∧ j ≠ m
      · rw [if_pos hj, if_pos ⟨List.mem_cons_of_mem _ hj.1, hj.2⟩]
      · rw [if_neg hj, if_neg]
        rintro ⟨h1, h2⟩
        rcases List.mem_cons.1 h1 with h1 | h1
        · exact h2 h1
        · exact hj ⟨h1, h2⟩
    · rw [show (m == b) = false by simpa using hm, cond_false] at h
      cases hg : t.get m with
      | none =>
        rw [hg] at h
        rw [psnAll_spec pos b r t t' h j]
        by_cases hjm : j = m
        · subst hjm
          rw [hg]
          split <;> split <;> rfl
        · have : (j ∈ m :: r ∧ j ≠ b) ↔ (j ∈ r ∧ j ≠ b) := by simp [hjm]
          simp only [this]
      | some k =>
        rw [hg] at h
        simp only at h
        cases hs : Tr.set (psn pos k) depth t m with
        | none => rw [hs] at h; cases h
        | some t1 =>
          rw [hs] at h
          have hget := fun j => Tr.get_set _ _ _ _ _ j hs
          rw [psnAll_spec pos b r t1 t' h j, hget]
          by_cases hjm : j = m
          · subst hjm
            rw [if_pos rfl, if_pos (show j ∈ j :: r ∧ j ≠ b from ⟨List.mem_cons_self, hm⟩), hg]
            split
            · simp [psn_psn]
            · simp
          · rw [if_neg hjm]
            have : (j ∈ m :: r ∧ j ≠ b) ↔ (j ∈ r ∧ j ≠ b) := by simp [hjm]
            simp only [this]

def AS.store (A : AS) (b off : Nat) (v : Value) : Option AS :=
  match A.bl.get b with
  | some k =>
    bif k.ro then none else
    match k.obj with
    | .cells c => bif Nat.blt off c.length then
        match A.mem.get k.fam, Tr.set { k with obj := .cells (c.set off v) } depth A.bl b with
        | some l, some t => match psnAll (k.pos + off) b l t with
          | some t' => some { A with bl := t', low := l.foldl Nat.min A.low }
          | none => none
        | _, _ => none
      else none
    | _ => none
  | none => none

omit [Sig] in
theorem foldl_min_le : ∀ (l : List Nat) (x : Nat), l.foldl Nat.min x ≤ x ∧ ∀ m ∈ l, l.foldl Nat.min x ≤ m
  | [], x => ⟨Nat.le_refl _, fun m h => by cases h⟩
  | a :: r, x => by
    obtain ⟨h1, h2⟩ := foldl_min_le r (Nat.min x a)
    refine ⟨Nat.le_trans h1 (Nat.min_le_left _ _), fun m hm => ?_⟩
    rcases List.mem_cons.1 hm with rfl | hm
    · exact Nat.le_trans h1 (Nat.min_le_right _ _)
    · exact h2 m hm

omit [Sig] in
theorem store_spec {A A' : AS} {b off : Nat} {v : Value} (h : A.store b off v = some A') :
    ∃ k c l, A.bl.get b = some k ∧ k.ro = false ∧ k.obj = .cells c ∧ off < c.length ∧ A.mem.get k.fam = some l ∧ A'.n = A.n ∧ A'.mem = A.mem ∧ A'.low ≤ A.low ∧ (∀ m ∈ l, A'.low ≤ m) ∧
      A'.bl.get b = some { k with obj := .cells (c.set off v) } ∧ (∀ j, j ≠ b → A'.bl.get j = if j ∈ l then (A.bl.get j).map (psn (k.pos + off)) else A.bl.get j) := by
  unfold AS.store at h
  cases hk : A.bl.get b with
  | none => rw [hk] at h; cases h
  | some k =>
    rw [hk] at h
    obtain ⟨ob, fam, pos, stride, ro, ty⟩ := k
    simp only at h
    cases ro with
    | true => cases h
    | false =>
      simp only [cond_false] at h
      cases ob with
      | map es cl => cases h
      | oth x => cases h
      | cells c =>
        simp only at h
        cases hb : Nat.blt off c.length with
        | false => rw [hb] at h; cases h
        | true =>
          rw [hb, cond_true] at h
          cases hm : A.mem.get fam with
          | none => rw [hm] at h; cases h
          | some l =>
            rw [hm] at h
            cases hs : Tr.set { obj := .cells (c.set off v), fam := fam, pos := pos, stride := stride, ro := false, ty := ty : ABlk } depth A.bl b with
            | none => rw [hs] at h; cases h
            | some t =>
              rw [hs] at h
              simp only at h
              cases hp : psnAll (pos + off) b l t with
              | none => rw [hp] at h; cases h
              | some t' =>
                rw [hp] at h
                simp only [Option.some.injEq] at h
                subst h
                have hget := fun j => Tr.get_set _ _ _ _ _ j hs
                have hall := psnAll_spec _ _ _ _ _ hp
                obtain ⟨f1, f2⟩ := foldl_min_le l A.low
                refine ⟨_, c, l, rfl, rfl, rfl, Nat.blt_eq.mp hb, hm, rfl, rfl, f1, f2, ?_, ?_⟩
                · simp only [hall, hget]
                  simp
                · intro j hj
                  simp only [hall, hget, hj, ne_eq, not_false_eq_true, and_true, if_false]

theorem step_store {φ : Emb} {A A' : AS} {w : World} (hr : Rel φ A w) {b off : Nat} {v v' : Value} {e : Em} (h : A.store b off v = some A') (he : φ b = some e) (hv : VRel φ v v') :
    Step φ A w φ A' (w.setCell ⟨e.blk, e.sh + off, none⟩ v') ∧ (∃ u, w.cell? ⟨e.blk, e.sh + off, none⟩ = some u) ∧ w.frozen? ⟨e.blk, e.sh + off, none⟩ = false := by
  obtain ⟨k, c, l, hk, hro, hobj, hlt, hmem, hn, hmm, hlow, hlowm, hgb, hgo⟩ := store_spec h
  obtain ⟨k0, hk0, hst, ho⟩ := hr.dom b e he
  rw [hk] at hk0
  cases hk0
  have hbl : b ∈ l := by
    obtain ⟨l', hl', hb'⟩ := hr.wf.mem b k hk
    rw [hmem] at hl'; cases hl'; exact hb'
  have ho' := ho
  unfold ORel at ho
  simp only [hobj] at ho
  obtain ⟨c', fr', h1, h2, h3, h4, h5⟩ := ho
  have hfr := h5 hro
  have hblk : e.blk < w.heap.size := ho'.lt
  have hw : (w.setCell ⟨e.blk, e.sh + off, none⟩ v').heap[e.blk]? = some (.cells (c'.setIfInBounds (e.sh + off) v') k.ty fr') := by
    simp only [World.setCell, Array.getElem?_modify, if_pos, h1]
    simp
  have hwo : ∀ i, i ≠ e.blk → (w.setCell ⟨e.blk, e.sh + off, none⟩ v').heap[i]? = w.heap[i]? := fun i hi => by
    simp only [World.setCell, Array.getElem?_modify]
    rw [if_neg (Ne.symm hi)]
  have hnew : ∀ j kj', A'.bl.get j = some kj' → ∃ kj, A.bl.get j = some kj ∧ kj'.fam = kj.fam ∧ kj'.pos = kj.pos ∧ kj'.stride = kj.stride ∧ kj'.ro = kj.ro ∧ kj'.ty = kj.ty := by
    intro j kj' hj
    by_cases hjb : j = b
    · subst hjb
      rw [hgb] at hj; cases hj
      exact ⟨k, hk, rfl, rfl, rfl, rfl, rfl⟩
    · rw [hgo j hjb] at hj
      split at hj
      · obtain ⟨kj, h1, rfl⟩ := Option.map_eq_some_iff.1 hj
        exact ⟨kj, h1, psn_fam _ _, psn_pos _ _, psn_stride _ _, psn_ro _ _, psn_ty _ _⟩
      · exact ⟨kj', hj, rfl, rfl, rfl, rfl, rfl⟩
  refine ⟨{ rel := ⟨⟨?_, ?_, ?_, ?_⟩, ?_, ?_, ?_, fun i o hi => ⟨by rw [hwo i (Ne.symm ((hr.imm i o hi).2 _ _ he))]; exact (hr.imm i o hi).1, (hr.imm i o hi).2⟩⟩, dom := fun _ _ => rfl, newm := fun b h1 h2 => by omega, new := fun b e h1 h2 => absurd (hr.lt h2) (by omega), n_le := by omega, low := hlow, same := ?_, ro := ?_, keep := ?_, hsize := by simp [World.setCell], os := rfl, tape := rfl, output := rfl, drawn := Nat.le_refl _ }, ?_, ?_⟩
  · intro j kj hj
    obtain ⟨k1, q1, _⟩ := hnew j kj hj
    rw [hn]; exact hr.wf.lt j k1 q1
  · intro j kj hj
    obtain ⟨k1, q1, q2, _⟩ := hnew j kj hj
    rw [hn, q2]; exact hr.wf.famlt j k1 q1
  · intro j kj hj
    obtain ⟨k1, q1, q2, _⟩ := hnew j kj hj
    rw [hmm, q2]; exact hr.wf.mem j k1 q1
  · intro j kj j' kj' hj hj' hf
    obtain ⟨k1, q1, q2, _, _, q3, _⟩ := hnew j kj hj
    obtain ⟨k1', q1', q2', _, _, q3', _⟩ := hnew j' kj' hj'
    rw [q3, q3']
    exact hr.wf.rofam j k1 j' k1' q1 q1' (by rw [← q2, ← q2']; exact hf)
  · intro j ej hj
    obtain ⟨kj, hkj, hsj, hoj⟩ := hr.dom j ej hj
    by_cases hjb : j = b
    · subst hjb
      rw [he] at hj; cases hj
      rw [hk] at hkj; cases hkj
      refine ⟨_, hgb, hst, ?_⟩
      simp only [ORel]
      refine ⟨_, _, hw, by simpa using h2, by simpa using h3, ?_, fun _ => by simpa using hfr⟩
      intro i hi
      simp only [List.length_set] at hi
      by_cases hio : i = off
      · subst hio
        rw [List.getD_eq_getElem?_getD, List.getElem?_set_self hi]
        simp only [Array.getD_eq_getD_getElem?, Array.getElem?_setIfInBounds, if_pos]
        rw [if_pos (by omega)]
        exact hv
      · rw [List.getD_eq_getElem?_getD, List.getElem?_set_ne (Ne.symm hio), ← List.getD_eq_getElem?_getD]
        have := h4 i hi
        simp only [Array.getD_eq_getD_getElem?, Array.getElem?_setIfInBounds] at this ⊢
        rw [if_neg (by omega)]
        exact this
    · by_cases hblke : ej.blk = e.blk
      · -- the same block of the model: the same family
        have hfam : kj.fam = k.fam := by
          rcases Nat.lt_or_ge kj.fam k.fam with h | h
          · exact absurd hblke (hr.apart j ej kj b e k hj he hkj hk (by omega))
          · rcases Nat.eq_or_lt_of_le h with h | h
            · exact h.symm
            · exact absurd hblke (hr.apart j ej kj b e k hj he hkj hk (by omega))
        have hjl : j ∈ l := by
          obtain ⟨l', hl', hb'⟩ := hr.wf.mem j kj hkj
          rw [hfam, hmem] at hl'; cases hl'; exact hb'
        have hal := hr.along j ej kj b e k hj he hkj hk hfam hblke
        refine ⟨psn (k.pos + off) kj, by rw [hgo j hjb, if_pos hjl, hkj]; rfl, by rw [psn_stride]; exact hsj, ?_⟩
        obtain ⟨oj, fj, pj, sj, rj, tj⟩ := kj
        simp only at hfam hal hsj
        cases oj with
        | map es cl =>
          simp only [ORel] at hoj
          obtain ⟨es', g1, _⟩ := hoj
          rw [hblke, h1] at g1; cases g1
        | oth x =>
          simp only [ORel] at hoj
          obtain ⟨_, o', g1, g2⟩ := hoj
          rw [hblke, h1] at g1; cases g1
          exact absurd g2 fun h => OthRel.no_cells h
        | cells cj =>
          simp only [ORel] at hoj
          obtain ⟨cj', frj', g1, g2, g3, g4, g5⟩ := hoj
          rw [hblke, h1] at g1
          simp only [Option.some.injEq, Obj.cells.injEq] at g1
          obtain ⟨rfl, hty, rfl⟩ := g1
          have key : ∀ (cl : List Value), cl.length = cj.length → (∀ i, i < cj.length → (ej.sh + i = e.sh + off → cl[i]? = some poison) ∧ (ej.sh + i ≠ e.sh + off → cl[i]? = cj[i]? ∨ cl[i]? = some poison)) →
              ORel φ (w.setCell ⟨e.blk, e.sh + off, none⟩ v') ej { obj := .cells cl, fam := fj, pos := pj, stride := sj, ro := rj, ty := tj } := by
            intro cl hcl hcs
            simp only [ORel]
            refine ⟨_, _, by rw [hblke, ← hty]; exact hw, by simpa using g2, by rw [hcl]; simpa using g3, ?_, fun _ => by simpa using hfr⟩
            intro i hi
            rw [hcl] at hi
            obtain ⟨q1, q2⟩ := hcs i hi
            by_cases hpos : ej.sh + i = e.sh + off
            · rw [List.getD_eq_getElem?_getD, q1 hpos]
              exact .poison _
            · rcases q2 hpos with q | q
              · rw [List.getD_eq_getElem?_getD, q, ← List.getD_eq_getElem?_getD]
                have := g4 i hi
                simp only [Array.getD_eq_getD_getElem?, Array.getElem?_setIfInBounds] at this ⊢
                rw [if_neg (by omega)]
                exact this
              · rw [List.getD_eq_getElem?_getD, q]
                exact .poison _
          have hrj : rj = false := by
            have := hr.wf.rofam j _ b k hkj hk hfam
            simpa [hro] using this
          subst hrj
          unfold psn
          simp only [cond_false]
          cases hble : Nat.ble pj (k.pos + off) with
          | false =>
            simp only [cond_false]
            refine key cj rfl fun i hi => ⟨fun hp => ?_, fun _ => .inl rfl⟩
            have : ¬ pj ≤ k.pos + off := by
              intro hle
              rw [Nat.ble_eq.mpr hle] at hble; cases hble
            omega
          | true =>
            have hle := Nat.ble_eq.mp hble
            simp only [cond_true]
            refine key _ (by simp) fun i hi => ⟨fun hp => ?_, fun hp => ?_⟩
            · have : k.pos + off - pj = i := by omega
              rw [this, List.getElem?_set_self hi]
            · have : k.pos + off - pj ≠ i := by omega
              rw [List.getElem?_set_ne this]
              exact .inl rfl
      · -- another block of the model
        rw [hgo j hjb]
        by_cases hjl : j ∈ l
        · rw [if_pos hjl, hkj]
          refine ⟨_, rfl, by rw [psn_stride]; exact hsj, ?_⟩
          have hoj2 : ORel φ (w.setCell ⟨e.blk, e.sh + off, none⟩ v') ej kj := hoj.mono (fun _ _ h => h) (hwo _ hblke)
          unfold psn
          obtain ⟨oj, fj, pj, sj, rj, tj⟩ := kj
          cases rj with
          | true => exact hoj2
          | false =>
          simp only [cond_false]
          cases oj with
          | map es cl => exact hoj2
          | oth x => exact hoj2
          | cells cj =>
            simp only
            cases hble : Nat.ble pj (k.pos + off) with
            | false => exact hoj2
            | true =>
              simp only [cond_true]
              simp only [ORel] at hoj2 ⊢
              obtain ⟨cj', frj', g1, g2, g3, g4, g5⟩ := hoj2
              refine ⟨cj', frj', g1, g2, by simpa using g3, fun i hi => ?_, g5⟩
              simp only [List.length_set] at hi
              by_cases hpi : k.pos + off - pj = i
              · rw [hpi, List.getD_eq_getElem?_getD, List.getElem?_set_self hi]
                exact .poison _
              · rw [List.getD_eq_getElem?_getD, List.getElem?_set_ne hpi, ← List.getD_eq_getElem?_getD]
                exact g4 i hi
        · rw [if_neg hjl]
          exact ⟨kj, hkj, hsj, hoj.mono (fun _ _ h => h) (hwo _ hblke)⟩
  · intro j ej kj j' ej' kj' q1 q2 q3 q4 q5
    obtain ⟨a1, a2, a3, a4, a5, a6, a7⟩ := hnew j kj q3
    obtain ⟨b1, b2, b3, b4, b5, b6, b7⟩ := hnew j' kj' q4
    exact hr.apart j ej a1 j' ej' b1 q1 q2 a2 b2 (by rw [← a3, ← b3]; exact q5)
  · intro j ej kj j' ej' kj' q1 q2 q3 q4 q5 q6
    obtain ⟨a1, a2, a3, a4, a5, a6, a7⟩ := hnew j kj q3
    obtain ⟨b1, b2, b3, b4, b5, b6, b7⟩ := hnew j' kj' q4
    rw [a4, b4]
    exact hr.along j ej a1 j' ej' b1 q1 q2 a2 b2 (by rw [← a3, ← b3]; exact q5) q6
  · intro j hj hl
    by_cases hjb : j = b
    · subst hjb
      have := hlowm j hbl; omega
    · rw [hgo j hjb, if_neg]
      intro hjl
      have := hlowm j hjl; omega
  · intro j kj hj hrj
    by_cases hjb : j = b
    · subst hjb
      rw [hk] at hj; cases hj
      rw [hro] at hrj; cases hrj
    · rw [hgo j hjb]
      by_cases hjl : j ∈ l
      · rw [if_pos hjl, hj]
        simp only [Option.map_some, Option.some.injEq]
        exact (psn_all _ _).2.2.2.2.2.1 hrj
      · rw [if_neg hjl]; exact hj
  · intro i hi hall
    refine hwo i fun hie => ?_
    subst hie
    have := hall b e k he rfl hk
    rw [hro] at this; cases this
  · refine ⟨c'.getD (e.sh + off) undef, ?_⟩
    simp only [World.cell?, h1]
    simp [show e.sh + off < c'.size by omega]
  · have := hfr (e.sh + off) (by omega)
    obtain ⟨lo, hi⟩ := fr'
    simp only [World.frozen?, h1]
    simpa using this

end AE
end Go.Proofs.YtblhndlmgibljaaDoor

/- AE, part 4: the model's small operations on memory, run beside the abstract ones. -/
namespace Go.Proofs.YtblhndlmgibljaaDoor
open Go
namespace AE
variable [Sig]

def pureRun {α : Type} (P : Program) : Sem α → Option α
  | .pure a => some a
  | .program k => pureRun P (k P)
  | .mark _ k => pureRun P k
  | _ => none

omit [Sig] in
theorem pureRun_run {α : Type} {P : Program} {s : Sem α} {a : α} (h : pureRun P s = some a) (w : World) : s.run P w = .ok a w := by
  induction s with
  | pure b => simp only [pureRun, Option.some.injEq] at h; subst h; rfl
  | program k ih => exact ih P h
  | mark m k ih => exact ih h
  | _ => cases h

def oneCell : Value → Bool
  | .agg _ | .tuple _ | .complex .f32 _ _ => false
  | _ => true

def cellsOf : Value → Option (List Value)
  | .agg ⟨l⟩ => some l
  | .tuple _ | .complex .f32 _ _ => none
  | v => some [v]

theorem VRel.oneCell {φ : Emb} {v v' : Value} (h : VRel φ v v') (h1 : oneCell v = true) : ∀ cs, v' ≠ .agg cs ∧ v' ≠ .tuple cs := by
  intro cs
  cases h
  case sym k => exact Sig.one k cs
  all_goals simp_all [AE.oneCell, AE.poison]

theorem VRel.cells {φ : Emb} {v v' : Value} {l : List Value} (h : VRel φ v v') (hl : cellsOf v = some l) :
    l.length = v'.cells.size ∧ ∀ j, j < l.length → VRel φ (l.getD j undef) (v'.cells.getD j undef) := by
  have one : ∀ {v v' : Value}, VRel φ v v' → (∀ cs, v' ≠ .agg cs) → l = [v] → l.length = v'.cells.size ∧ ∀ j, j < l.length → VRel φ (l.getD j undef) (v'.cells.getD j undef) := by
    intro v v' h hn e
    subst e
    have : v'.cells = #[v'] := by cases v' <;> first | rfl | exact absurd rfl (hn _)
    rw [this]
    refine ⟨rfl, fun j hj => ?_⟩
    have : j = 0 := by simpa using hj
    subst this
    simpa using h
  cases h with
  | poison => cases hl
  | sym k => exact one (.sym k) (fun cs => (Sig.one k cs).1) (by simpa [cellsOf, symv] using hl.symm)
  | agg cs cs' h1 h2 =>
    obtain ⟨l0⟩ := cs
    simp only [cellsOf, Option.some.injEq] at hl
    subst hl
    exact ⟨by simpa [Value.cells] using h1, fun j hj => by simpa [Value.cells] using h2 j (by simpa using hj)⟩
  | tuple => cases hl
  | bool b => exact one (.bool b) (fun _ => by simp) (by simpa [cellsOf] using hl.symm)
  | int k n => exact one (.int k n) (fun _ => by simp) (by simpa [cellsOf] using hl.symm)
  | float k b => exact one (.float k b) (fun _ => by simp) (by simpa [cellsOf] using hl.symm)
  | string s => exact one (.string s) (fun _ => by simp) (by simpa [cellsOf] using hl.symm)
  | pnil => exact one .pnil (fun _ => by simp) (by simpa [cellsOf] using hl.symm)
  | ptr h => exact one (.ptr h) (fun _ => by simp) (by simpa [cellsOf] using hl.symm)
  | slnil a b => exact one (.slnil a b) (fun _ => by simp) (by simpa [cellsOf] using hl.symm)
  | slz b h => exact one (.slz b h) (fun _ => by simp) (by simpa [cellsOf] using hl.symm)
  | slx n c h => exact one (.slx n c h) (fun _ => by simp) (by simpa [cellsOf] using hl.symm)
  | slg n c c' h a b d => exact one (.slg n c c' h a b d) (fun _ => by simp) (by simpa [cellsOf] using hl.symm)
  | mapnil => exact one .mapnil (fun _ => by simp) (by simpa [cellsOf] using hl.symm)
  | map h => exact one (.map h) (fun _ => by simp) (by simpa [cellsOf] using hl.symm)
  | chan => exact one .chan (fun _ => by simp) (by simpa [cellsOf] using hl.symm)
  | func fs fs' cs cs' a b c d e => exact one (.func fs fs' cs cs' a b c d e) (fun _ => by simp) (by simpa [cellsOf] using hl.symm)
  | yld h => exact one (.yld h) (fun _ => by simp) (by simpa [cellsOf] using hl.symm)
  | nilFunc => exact one .nilFunc (fun _ => by simp) (by simpa [cellsOf] using hl.symm)
  | nilIface => exact one .nilIface (fun _ => by simp) (by simpa [cellsOf] using hl.symm)
  | iface t h => exact one (.iface t h) (fun _ => by simp) (by simpa [cellsOf] using hl.symm)

omit [Sig] in
theorem Addr.add_at (b o i : Nat) : (⟨b, o, none⟩ : Addr).add i = ⟨b, o + i, none⟩ := by
  unfold Go.Addr.add
  split
  · rename_i h; subst h; rfl
  · rfl

/- SEVERAL CELLS -/

def AS.loadN (A : AS) (b off n : Nat) : Option (List Value) :=
  match A.bl.get b with
  | some { obj := .cells c, .. } => bif Nat.ble (off + n) c.length then some ((c.drop off).take n) else none
  | _ => none

omit [Sig] in
theorem loadN_spec {A : AS} {b off n : Nat} {vs : List Value} (h : A.loadN b off n = some vs) : vs.length = n ∧ ∀ j, j < n → A.load b (off + j) = some (vs.getD j undef) := by
  unfold AS.loadN at h
  unfold AS.load
  cases hk : A.bl.get b with
  | none => rw [hk] at h; cases h
  | some k =>
    rw [hk] at h
    obtain ⟨ob, fam, pos, st, ro, ty⟩ := k
    cases ob with
    | map es cl => cases h
    | oth x => cases h
    | cells c =>
      simp only at h ⊢
      cases hb : Nat.ble (off + n) c.length with
      | false => rw [hb] at h; cases h
      | true =>
        rw [hb, cond_true, Option.some.injEq] at h
        have hle := Nat.ble_eq.mp hb
        subst h
        refine ⟨by simp; omega, fun j hj => ?_⟩
        rw [List.getD_eq_getElem?_getD, List.getElem?_take, if_pos hj, List.getElem?_drop]
        rw [List.getElem?_eq_getElem (by omega)]
        rfl

theorem run_loadN {φ : Emb} {A : AS} {w : World} (hr : Rel φ A w) (P : Program) {b off n : Nat} {vs : List Value} {e : Em} (h : A.loadN b off n = some vs) (he : φ b = some e) :
    ∃ vs' : Array Value, (loadCells ⟨e.blk, e.sh + off, none⟩ n).run P w = .ok vs' w ∧ vs'.size = vs.length ∧ ∀ j, j < vs.length → VRel φ (vs.getD j undef) (vs'.getD j undef) := by
  obtain ⟨hl, hj⟩ := loadN_spec h
  have hex : ∀ j, j < n → ∃ v', w.cell? ⟨e.blk, e.sh + off + j, none⟩ = some v' ∧ VRel φ (vs.getD j undef) v' := fun j hjn => by
    obtain ⟨v', h1, h2⟩ := rel_load hr (hj j hjn) he
    exact ⟨v', by rw [show e.sh + off + j = e.sh + (off + j) by omega]; exact h1, h2⟩
  let f : Nat → Value := fun j => (w.cell? ⟨e.blk, e.sh + off + j, none⟩).getD undef
  have hf : ∀ j, j < n → w.cell? ((⟨e.blk, e.sh + off, none⟩ : Addr).add j) = some (f j) := fun j hjn => by
    obtain ⟨v', h1, _⟩ := hex j hjn
    rw [Addr.add_at, h1]
    simp [f, h1]
  refine ⟨_, run_loadCells _ _ n f hf, by simp [hl], fun j hjn => ?_⟩
  obtain ⟨v', h1, h2⟩ := hex j (by omega)
  have : f j = v' := by simp [f, h1]
  simp only [Array.getD_eq_getD_getElem?]
  simp [show j < n by omega, this]
  simpa using h2

def AS.storeN : AS → Nat → Nat → List Value → Option AS
  | A, _, _, [] => some A
  | A, b, off, v :: r => bif oneCell v then match A.store b off v with
      | some A1 => A1.storeN b (off + 1) r
      | none => none
    else none

omit [Sig] in
theorem run_store {P : Program} {w : World} {a : Addr} {v u : Value} (hv : ∀ cs, v ≠ .agg cs ∧ v ≠ .tuple cs) (h1 : w.cell? a = some u) (h2 : w.frozen? a = false) : (Go.store a v).run P w = .ok () (w.setCell a v) := by
  unfold Go.store
  cases v <;> first | (exfalso; exact (hv _).1 rfl) | (exfalso; exact (hv _).2 rfl) | (simp [Sem.run, h1, h2])

theorem run_storeN {φ : Emb} (P : Program) {b : Nat} {e : Em} (he : φ b = some e) : ∀ (vs : List Value) (A A' : AS) (w : World) (off i : Nat) (vs' : List Value), Rel φ A w → A.storeN b (off + i) vs = some A' →
    vs'.length = vs.length → (∀ j, j < vs.length → VRel φ (vs.getD j undef) (vs'.getD j undef)) →
    ∃ w', (storeCells ⟨e.blk, e.sh + off, none⟩ vs' i).run P w = .ok () w' ∧ Step φ A w φ A' w'
  | [], A, A', w, off, i, vs', hr, h, hl, hv => by
    simp only [AS.storeN, Option.some.injEq] at h
    subst h
    have : vs' = [] := by simpa using hl
    subst this
    exact ⟨w, rfl, Step.refl hr⟩
  | v :: r, A, A', w, off, i, vs', hr, h, hl, hv => by
    cases vs' with
    | nil => simp at hl
    | cons v' r' =>
      unfold AS.storeN at h
      cases h1 : AE.oneCell v with
      | false => rw [h1] at h; cases h
      | true =>
        rw [h1, cond_true] at h
        cases hs : A.store b (off + i) v with
        | none => rw [hs] at h; cases h
        | some A1 =>
          rw [hs] at h
          simp only at h
          have hv0 : VRel φ v v' := by simpa using hv 0 (by simp)
          obtain ⟨st, ⟨u, hu⟩, hfr⟩ := step_store hr hs he hv0
          rw [← Nat.add_assoc] at st hu hfr
          obtain ⟨w', hw', st2⟩ := run_storeN P he r A1 A' _ off (i + 1) r' (by rw [Nat.add_assoc] at st; exact st.rel) (by rw [← Nat.add_assoc]; exact h) (by simpa using hl) (fun j hj => by simpa using hv (j + 1) (by simpa using hj))
          refine ⟨w', ?_, ?_⟩
          · unfold storeCells
            rw [Addr.add_at]
            simp only [Sem.run_bind, run_store (hv0.oneCell h1) hu hfr, Result.andThen_ok]
            rw [Nat.add_assoc]
            exact hw'
          · exact Step.trans hr (by rw [Nat.add_assoc] at st; exact st) st2

/- ROWS OF NEW VARIABLES -/

theorem run_newRow {φ : Emb} {A A' : AS} {w : World} (hr : Rel φ A w) (P : Program) {c : List Value} {c' : Array Value} {r st : Nat} (t : TypeId) (hp : A.push (.cells c) st t = some (r, A')) (hl : c.length ≤ c'.size) (hx : st = 0 → c.length = c'.size)
    (hv : ∀ j, j < c.length → VRel φ (c.getD j undef) (c'.getD j undef)) :
    ∃ φ' w', (newRow t c').run P w = .ok ⟨w.heap.size, 0, none⟩ w' ∧ φ' r = some ⟨w.heap.size, 0, st, c'.size⟩ ∧ Step φ A w φ' A' w' ∧ w' = { w with heap := w.heap.push (.cells c' t) } := by
  have hr' := (hr.wf.push hp).2.1
  have hmono : ∀ b e, φ b = some e → upd φ r ⟨w.heap.size, 0, st, c'.size⟩ b = some e := fun b e hb => by
    unfold upd; rw [if_neg (by have := hr.lt hb; omega)]; exact hb
  refine ⟨upd φ r ⟨w.heap.size, 0, st, c'.size⟩, { w with heap := w.heap.push (.cells c' t) }, ?_, by simp [upd], ?_, rfl⟩
  · simp [newRow, newObj, Sem.run]
  · refine step_push hr hp rfl rfl ?_
    simp only [ORel]
    refine ⟨c', (0, 0), by simp, rfl, by simp; exact ⟨hl, hx⟩, fun j hj => ?_, fun _ i _ => by simp⟩
    simp only [Nat.zero_add]
    exact (hv j hj).mono hmono

end AE
end Go.Proofs.YtblhndlmgibljaaDoor

/- AE, part 5: operations: the plain ones, and those that move values or touch memory cell by cell. -/
namespace Go.Proofs.YtblhndlmgibljaaDoor
open Go
namespace AE
variable [Sig]

mutual
theorem VRel.eq_of_plain {φ : Emb} : ∀ (v : Value) {v' : Value}, plain v = true → VRel φ v v' → v' = v
  | .bool b, _, _, h => by cases h; rfl
  | .int k n, _, _, h => by cases h; rfl
  | .float k b, _, _, h => by cases h; rfl
  | .string s, _, _, h => by cases h; rfl
  | .pointer none, _, _, h => by cases h; rfl
  | .map none, _, _, h => by cases h; rfl
  | .chan none, _, _, h => by cases h; rfl
  | .nilFunc, _, _, h => by cases h; rfl
  | .nilIface, _, _, h => by cases h; rfl
  | .slice none l c, _, _, h => by cases h; rfl
  | .func (.func f) ⟨[]⟩ ⟨[]⟩, _, _, h => by
      cases h with
      | func fs fs' cs cs' hn h1 h2 hf hc =>
        have e1 : fs' = #[] := Array.eq_empty_of_size_eq_zero h1.symm
        have e2 : cs' = #[] := Array.eq_empty_of_size_eq_zero h2.symm
        rw [e1, e2]
  | .iface t v, _, hp, h => by
      cases h with
      | iface t h => rw [VRel.eq_of_plain v (by simpa [plain] using hp) h]
  | .agg ⟨l⟩, _, hp, h => by
      cases h with
      | agg cs cs' h1 h2 =>
        obtain ⟨l'⟩ := cs'
        rw [VRel.eq_of_plainL l l' (by simpa [plain] using hp) (by simpa using h1) (fun i hi => by simpa using h2 i (by simpa using hi))]
  | .tuple ⟨l⟩, _, hp, h => by
      cases h with
      | tuple cs cs' h1 h2 =>
        obtain ⟨l'⟩ := cs'
        rw [VRel.eq_of_plainL l l' (by simpa [plain] using hp) (by simpa using h1) (fun i hi => by simpa using h2 i (by simpa using hi))]
theorem VRel.eq_of_plainL {φ : Emb} : ∀ (l l' : List Value), plainL l = true → l.length = l'.length → (∀ i, i < l.length → VRel φ (l.getD i Go.undef) (l'.getD i Go.undef)) → l' = l
  | [], [], _, _, _ => rfl
  | [], _ :: _, _, h, _ => by simp at h
  | _ :: _, [], _, h, _ => by simp at h
  | v :: r, v' :: r', hp, hl, h => by
      have h1 := VRel.eq_of_plain v (by simp [plainL] at hp; exact hp.1) (by simpa using h 0 (by simp))
      have h2 := VRel.eq_of_plainL r r' (by simp [plainL] at hp; exact hp.2) (by simpa using hl) (fun i hi => by simpa using h (i + 1) (by simpa using hi))
      rw [h1, h2]
end

def Snd {α : Type} (R : Emb → α → Prop) (P : Program) (φ : Emb) (A : AS) (w : World) (s : Sem α) (A' : AS) : Prop :=
  ∃ φ' w' a, s.run P w = .ok a w' ∧ R φ' a ∧ Step φ A w φ' A' w'

theorem Snd.pure_run {α : Type} {R : Emb → α → Prop} {P : Program} {φ : Emb} {A : AS} {w : World} (hr : Rel φ A w) {s : Sem α} {a : α} (h : pureRun P s = some a) (hR : R φ a) : Snd R P φ A w s A :=
  ⟨φ, w, a, pureRun_run h w, hR, Step.refl hr⟩

theorem Snd.bind {α β : Type} {R : Emb → α → Prop} {S : Emb → β → Prop} {P : Program} {φ : Emb} {A A1 A2 : AS} {w : World} (hr : Rel φ A w) {s : Sem α} {k : α → Sem β} (h : Snd R P φ A w s A1)
    (hk : ∀ φ1 w1 a, Rel φ1 A1 w1 → (∀ b e, φ b = some e → φ1 b = some e) → R φ1 a → Snd S P φ1 A1 w1 (k a) A2) : Snd S P φ A w (s >>= k) A2 := by
  obtain ⟨φ1, w1, a, h1, h2, h3⟩ := h
  obtain ⟨φ2, w2, b, g1, g2, g3⟩ := hk φ1 w1 a h3.rel (h3.ext hr) h2
  exact ⟨φ2, w2, b, by rw [Sem.run_bind, h1]; exact g1, g2, Step.trans hr h3 g3⟩

theorem Snd.map {α β : Type} {R : Emb → α → Prop} {S : Emb → β → Prop} {P : Program} {φ : Emb} {A A1 : AS} {w : World} {s : Sem α} {f : α → β} (h : Snd R P φ A w s A1) (hf : ∀ φ a, R φ a → S φ (f a)) : Snd S P φ A w (s >>= fun a => pure (f a)) A1 := by
  obtain ⟨φ1, w1, a, h1, h2, h3⟩ := h
  exact ⟨φ1, w1, f a, by rw [Sem.run_bind, h1]; rfl, hf _ _ h2, h3⟩

theorem Snd.pre {α β : Type} {S : Emb → β → Prop} {P : Program} {φ : Emb} {A A2 : AS} {w : World} {s : Sem α} {a : α} {k : α → Sem β} (h : pureRun P s = some a) (hk : Snd S P φ A w (k a) A2) : Snd S P φ A w (s >>= k) A2 := by
  obtain ⟨φ2, w2, b, g1, g2, g3⟩ := hk
  exact ⟨φ2, w2, b, by rw [Sem.run_bind, pureRun_run h w]; exact g1, g2, g3⟩

theorem Snd.ret {α : Type} {R : Emb → α → Prop} {P : Program} {φ : Emb} {A : AS} {w : World} (hr : Rel φ A w) {a : α} (hR : R φ a) : Snd R P φ A w (pure a) A := ⟨φ, w, a, rfl, hR, Step.refl hr⟩

abbrev RV (v : Value) : Emb → Value → Prop := fun φ v' => VRel φ v v'
abbrev RL (l : List Value) : Emb → Array Value → Prop := fun φ a => a.size = l.length ∧ ∀ j, j < l.length → VRel φ (l.getD j undef) (a.getD j undef)
section
variable {P : Program} {φ : Emb} {A A' : AS} {w : World}

theorem snd_loadN (hr : Rel φ A w) {b off n : Nat} {vs : List Value} {e : Em} (h : A.loadN b off n = some vs) (he : φ b = some e) : Snd (RL vs) P φ A w (loadCells ⟨e.blk, e.sh + off, none⟩ n) A := by
  obtain ⟨vs', h1, h2, h3⟩ := run_loadN hr P h he
  exact ⟨φ, w, vs', h1, ⟨h2, h3⟩, Step.refl hr⟩

/- VARIABLES -/

def aLoad (P : Program) (A : AS) (t : TypeId) : Value → Option Value
  | .pointer (some ⟨b, off, none⟩) => match pureRun P (isAgg t) with
    | some true => match pureRun P (sizeOf t) with
      | some n => (A.loadN b off n).map fun l => .agg ⟨l⟩
      | none => none
    | some false => A.load b off
    | none => none
  | _ => none

theorem snd_load (hr : Rel φ A w) {t : TypeId} {p p' v : Value} (hp : VRel φ p p') (h : aLoad P A t p = some v) : Snd (RV v) P φ A w (Instr.loadAt t p') A := by
  unfold aLoad at h
  split at h
  · rename_i b off
    cases hp with
    | ptr he =>
      unfold Instr.loadAt
      refine Snd.pre (a := (⟨_, _, none⟩ : Addr)) rfl ?_
      unfold loadVar
      cases hag : pureRun P (isAgg t) with
      | none => rw [hag] at h; cases h
      | some ag =>
        rw [hag] at h
        refine Snd.pre hag ?_
        cases ag with
        | false =>
          simp only at h
          obtain ⟨v', h1, h2⟩ := rel_load hr h he
          refine ⟨φ, w, v', ?_, h2, Step.refl hr⟩
          simp [Go.load, Sem.run, h1]
        | true =>
          simp only at h
          cases hsz : pureRun P (sizeOf t) with
          | none => rw [hsz] at h; cases h
          | some n =>
            rw [hsz] at h
            simp only at h
            obtain ⟨l, hl, rfl⟩ := Option.map_eq_some_iff.1 h
            simp only [if_true]
            refine Snd.pre hsz ?_
            refine Snd.map (snd_loadN hr hl he) fun φ a ⟨h1, h2⟩ => ?_
            exact .agg _ _ (by simp [h1]) fun i hi => by simpa using h2 i (by simpa using hi)
  · cases h

def aStore (P : Program) (A : AS) (t : TypeId) (v : Value) : Value → Option AS
  | .pointer (some ⟨b, off, none⟩) => match cellsOf v, pureRun P (sizeOf t) with
    | some l, some n => bif Nat.beq l.length n then A.storeN b off l else none
    | _, _ => none
  | _ => none

theorem snd_storeVar (hr : Rel φ A w) {t : TypeId} {b off : Nat} {e : Em} {v v' : Value} (he : φ b = some e) (hv : VRel φ v v') {l : List Value} {n : Nat} (hl : cellsOf v = some l) (hn : pureRun P (sizeOf t) = some n)
    (hln : l.length = n) (h : A.storeN b off l = some A') : Snd (fun _ _ => True) P φ A w (storeVar t ⟨e.blk, e.sh + off, none⟩ v') A' := by
  obtain ⟨c1, c2⟩ := hv.cells hl
  unfold storeVar
  refine Snd.pre hn ?_
  rw [if_neg (by omega)]
  obtain ⟨w', h1, h2⟩ := run_storeN P he l A A' w off 0 v'.cells.toList hr h (by simpa using c1.symm) (fun j hj => by
    have := c2 j hj
    simp only [Array.getD_eq_getD_getElem?] at this
    simpa [List.getD_eq_getElem?_getD] using this)
  refine ⟨φ, w', (), ?_, trivial, h2⟩
  simpa using h1

theorem snd_store (hr : Rel φ A w) {t : TypeId} {p p' v v' : Value} (hp : VRel φ p p') (hv : VRel φ v v') (h : aStore P A t v p = some A') : Snd (fun _ _ => True) P φ A w (Instr.storeAt t p' v') A' := by
  unfold aStore at h
  split at h
  · rename_i b off
    split at h
    · rename_i l n hl hn
      cases hb : Nat.beq l.length n with
      | false => rw [hb] at h; cases h
      | true =>
        rw [hb, cond_true] at h
        cases hp with
        | ptr he =>
          unfold Instr.storeAt
          refine Snd.pre (a := (⟨_, _, none⟩ : Addr)) rfl ?_
          exact snd_storeVar hr he hv hl hn (Nat.eq_of_beq_eq_true hb) h
    · cases h
  · cases h

def aBox (A : AS) (t : TypeId) (v : Value) : Option (Value × AS) :=
  match cellsOf v with
  | some l => match A.push (.cells l) 0 t with
    | some (r, A1) => some (.pointer (some ⟨r, 0, none⟩), A1)
    | none => none
  | none => none

theorem snd_box (hr : Rel φ A w) {t : TypeId} {v v' p : Value} (hv : VRel φ v v') (h : aBox A t v = some (p, A')) : Snd (RV p) P φ A w (do pure (.pointer (some (← newVar t v')))) A' := by
  unfold aBox at h
  cases hl : cellsOf v with
  | none => rw [hl] at h; cases h
  | some l =>
    rw [hl] at h
    simp only at h
    cases hp : A.push (.cells l) 0 t with
    | none => rw [hp] at h; cases h
    | some q =>
      obtain ⟨r, A1⟩ := q
      rw [hp] at h
      simp only [Option.some.injEq, Prod.mk.injEq] at h
      obtain ⟨rfl, rfl⟩ := h
      obtain ⟨c1, c2⟩ := hv.cells hl
      obtain ⟨φ', w', h1, h2, h3, _⟩ := run_newRow hr P t hp (Nat.le_of_eq c1) (fun _ => c1) c2
      refine ⟨φ', w', _, by rw [Sem.run_bind, newVar, h1]; rfl, ?_, h3⟩
      have := VRel.ptr (φ := φ') (b := r) (o := 0) h2
      simpa using this

def aAlloc (P : Program) (A : AS) (t : TypeId) : Option (Value × AS) :=
  match pureRun P (zeroValue t) with
  | some z => bif plain z then aBox A t z else none
  | none => none

theorem snd_alloc (hr : Rel φ A w) {t : TypeId} {p old : Value} (h : aAlloc P A t = some (p, A')) : Snd (RV p) P φ A w (Instr.alloc t true old) A' := by
  unfold aAlloc at h
  cases hz : pureRun P (zeroValue t) with
  | none => rw [hz] at h; cases h
  | some z =>
    rw [hz] at h
    simp only at h
    cases hp : plain z with
    | false => rw [hp] at h; cases h
    | true =>
      rw [hp, cond_true] at h
      unfold Instr.alloc
      refine Snd.pre hz ?_
      exact snd_box hr (VRel.of_plain φ z hp) h

/- ADDRESSES -/

def aField (P : Program) (s : TypeId) (f : Nat) : Value → Option Value
  | .pointer (some ⟨b, off, none⟩) => match pureRun P (underlying s) with
    | some (.struct fields) => match fields[f]? with
      | some fl => match pureRun P (sizeOf fl.type) with
        | some n => bif n == 0 then none else some (.pointer (some ⟨b, off + fl.offset, none⟩))
        | none => none
      | none => none
    | _ => none
  | _ => none

theorem run_fieldAddr {s : TypeId} {f : Nat} {p p' v : Value} (hp : VRel φ p p') (h : aField P s f p = some v) : ∃ v', (∀ w, (Instr.fieldAt s p' f).run P w = .ok v' w) ∧ VRel φ v v' := by
  unfold aField at h
  split at h
  · rename_i b off
    split at h
    · rename_i fields hu
      split at h
      · rename_i fl hf
        split at h
        · rename_i n hn
          cases h0 : (n == 0) with
          | true => rw [h0] at h; cases h
          | false =>
            rw [h0, cond_false, Option.some.injEq] at h
            subst h
            cases hp with
            | ptr he =>
              rename_i e
              refine ⟨.pointer (some ⟨e.blk, e.sh + (off + fl.offset), none⟩), fun w => ?_, .ptr he⟩
              unfold Instr.fieldAt
              have hne : n ≠ 0 := by simpa using h0
              rw [Sem.run_bind, pureRun_run hu w]
              simp only [Result.andThen_ok, hf]
              rw [Sem.run_bind]
              have e1 : (Instr.sureAddr (.pointer (some ⟨e.blk, e.sh + off, none⟩))).run P w = .ok ⟨e.blk, e.sh + off, none⟩ w := rfl
              rw [e1]
              unfold fieldPlace
              simp only [Sem.run_bind, pureRun_run hn w, Result.andThen_ok, if_neg hne, Addr.add_at]
              rw [Nat.add_assoc]
              rfl
        · cases h
      · cases h
    · cases h
  · cases h

theorem snd_fieldAddr (hr : Rel φ A w) {s : TypeId} {f : Nat} {p p' v : Value} (hp : VRel φ p p') (h : aField P s f p = some v) : Snd (RV v) P φ A w (Instr.fieldAt s p' f) A := by
  obtain ⟨v', h1, h2⟩ := run_fieldAddr hp h
  exact ⟨φ, w, v', h1 w, h2, Step.refl hr⟩

def aIndexAddr (P : Program) (t : TypeId) (x : Value) (i : Value) : Option Value :=
  match i with
  | .int _ i => match pureRun P (underlying t), x with
    | some (.array len elem), .pointer (some ⟨b, off, none⟩) => match pureRun P (sizeOf elem) with
      | some n => bif decide (0 ≤ i) && decide (i < (len : Int)) then some (.pointer (some ⟨b, off + i.toNat * n, none⟩)) else none
      | none => none
    | some (.slice elem), .slice (some ⟨b, off, none⟩) len _ => match pureRun P (sizeOf elem) with
      | some n => bif decide (0 ≤ i) && decide (i < (len : Int)) then some (.pointer (some ⟨b, off + i.toNat * n, none⟩)) else none
      | none => none
    | _, _ => none
  | _ => none

theorem run_indexAddr {t : TypeId} {x x' i v : Value} (hx : VRel φ x x') (h : aIndexAddr P t x i = some v) : ∃ v', (∀ w, (Instr.indexAt t x' i).run P w = .ok v' w) ∧ VRel φ v v' := by
  unfold aIndexAddr at h
  split at h
  · rename_i k i
    unfold Instr.indexAt
    have e0 : ∀ w, (asIntOf (.int k i)).run P w = .ok (k, i) w := fun w => rfl
    have e1 : ∀ w, ∀ a : Addr, (pure a : Sem Addr).run P w = .ok a w := fun _ _ => rfl
    split at h
    · rename_i len elem b off hu
      split at h
      · rename_i n hn
        cases hb : (decide (0 ≤ i) && decide (i < (len : Int))) with
        | false => rw [hb] at h; cases h
        | true =>
          rw [hb, cond_true, Option.some.injEq] at h
          subst h
          have hbd : 0 ≤ i ∧ i < (len : Int) := by simpa using hb
          cases hx with
          | ptr he =>
            rename_i e
            refine ⟨.pointer (some ⟨e.blk, e.sh + (off + i.toNat * n), none⟩), fun w => ?_, .ptr he⟩
            simp only [Sem.run_bind, e0, pureRun_run hu w, Result.andThen_ok, Instr.sureAddr]
            simp [hbd, pureRun_run hn w, pureRun_run hu w, Addr.add_at, Nat.add_assoc, e1]
      · cases h
    · rename_i elem b off len cap hu
      split at h
      · rename_i n hn
        cases hb : (decide (0 ≤ i) && decide (i < (len : Int))) with
        | false => rw [hb] at h; cases h
        | true =>
          rw [hb, cond_true, Option.some.injEq] at h
          subst h
          have hbd : 0 ≤ i ∧ i < (len : Int) := by simpa using hb
          cases hx with
          | slx n' c' he =>
            rename_i e
            refine ⟨.pointer (some ⟨e.blk, e.sh + (off + i.toNat * n), none⟩), fun w => ?_, .ptr he⟩
            simp [e0, hbd, pureRun_run hn w, pureRun_run hu w, Addr.add_at, Nat.add_assoc]
          | slg n' c1 c2 he q1 q2 q3 =>
            rename_i e
            refine ⟨.pointer (some ⟨e.blk, e.sh + (off + i.toNat * n), none⟩), fun w => ?_, .ptr he⟩
            simp [e0, hbd, pureRun_run hn w, pureRun_run hu w, Addr.add_at, Nat.add_assoc]
          | slz => omega
      · cases h
    · cases h
  · cases h

theorem snd_indexAddr (hr : Rel φ A w) {t : TypeId} {x x' i v : Value} (hx : VRel φ x x') (h : aIndexAddr P t x i = some v) : Snd (RV v) P φ A w (Instr.indexAt t x' i) A := by
  obtain ⟨v', h1, h2⟩ := run_indexAddr hx h
  exact ⟨φ, w, v', h1 w, h2, Step.refl hr⟩

end
end AE
end Go.Proofs.YtblhndlmgibljaaDoor

/- AE, part 6: parts of values, slices, literals. -/
namespace Go.Proofs.YtblhndlmgibljaaDoor
open Go
namespace AE
variable [Sig]

omit [Sig] in
theorem pureRun_bind {α β : Type} (P : Program) (s : Sem α) (k : α → Sem β) : pureRun P (s >>= k) = (pureRun P s).bind fun a => pureRun P (k a) := by
  show pureRun P (s.bind k) = _
  induction s with
  | pure a => rfl
  | program f ih => exact ih P
  | mark m s ih => exact ih
  | _ => rfl

omit [Sig] in
theorem pureRun_pure {α : Type} (P : Program) (a : α) : pureRun P (pure a : Sem α) = some a := rfl

section
variable {P : Program} {φ : Emb} {A A' : AS} {w : World}

def aPart (P : Program) (t : TypeId) (cs : List Value) (off : Nat) : Option Value :=
  match pureRun P (isAgg t) with
  | some true => match pureRun P (sizeOf t) with
    | some n => some (.agg ⟨(cs.drop off).take n⟩)
    | none => none
  | some false => cs[off]?
  | none => none

theorem snd_part (hr : Rel φ A w) {t : TypeId} {cs : List Value} {cs' : Array Value} {off : Nat} {v : Value} (hc : RL cs φ cs') (h : aPart P t cs off = some v) : Snd (RV v) P φ A w (part t cs' off) A := by
  obtain ⟨hl, hv⟩ := hc
  unfold aPart at h
  unfold part
  cases hag : pureRun P (isAgg t) with
  | none => rw [hag] at h; cases h
  | some ag =>
    rw [hag] at h
    refine Snd.pre hag ?_
    cases ag with
    | false =>
      simp only at h
      obtain ⟨hlt, hv0⟩ := List.getElem?_eq_some_iff.1 h
      have hlt' : off < cs'.size := by omega
      refine ⟨φ, w, cs'[off], by simp [hlt', Sem.run, pure], ?_, Step.refl hr⟩
      have := hv off hlt
      rw [List.getD_eq_getElem?_getD, h] at this
      simpa [hlt'] using this
    | true =>
      simp only at h
      cases hsz : pureRun P (sizeOf t) with
      | none => rw [hsz] at h; cases h
      | some n =>
        rw [hsz] at h
        simp only [Option.some.injEq] at h
        subst h
        simp only [if_true]
        refine Snd.pre hsz (Snd.ret hr (.agg _ _ (by simp [hl]; omega) fun i hi => ?_))
        simp at hi
        have := hv (off + i) (by omega)
        simp only [Array.getD_eq_getD_getElem?, List.getD_eq_getElem?_getD, Array.getElem?_extract] at this ⊢
        rw [if_pos (by omega), List.getElem?_toArray, List.getElem?_take, if_pos (by omega), List.getElem?_drop]
        exact this

def aFieldOf (P : Program) (s : TypeId) (x : Value) (f : Nat) : Option Value :=
  match x, pureRun P (underlying s) with
  | .agg ⟨cs⟩, some (.struct fields) => match fields[f]? with
    | some fl => aPart P fl.type cs fl.offset
    | none => none
  | _, _ => none

theorem snd_field (hr : Rel φ A w) {s : TypeId} {f : Nat} {x x' v : Value} (hx : VRel φ x x') (h : aFieldOf P s x f = some v) : Snd (RV v) P φ A w (Instr.field s x' f) A := by
  unfold aFieldOf at h
  split at h
  · rename_i cs fields hu
    split at h
    · rename_i fl hf
      cases hx with
      | agg cs0 cs' h1 h2 =>
        unfold Instr.field
        refine Snd.pre hu ?_
        simp only [hf]
        refine Snd.pre (a := cs') rfl ?_
        exact snd_part hr ⟨by simpa using h1.symm, fun j hj => by simpa using h2 j (by simpa using hj)⟩ h
    · cases h
  · cases h

def aIndexOf (P : Program) (t : TypeId) (x i : Value) : Option Value :=
  match x, i, pureRun P (underlying t) with
  | .agg ⟨cs⟩, .int _ i, some (.array len elem) => match pureRun P (sizeOf elem) with
    | some n => bif decide (0 ≤ i) && decide (i < (len : Int)) then aPart P elem cs (i.toNat * n) else none
    | none => none
  | _, _, _ => none

theorem snd_index (hr : Rel φ A w) {t : TypeId} {x x' i v : Value} (hx : VRel φ x x') (h : aIndexOf P t x i = some v) : Snd (RV v) P φ A w (Instr.index t x' i) A := by
  unfold aIndexOf at h
  split at h
  · rename_i cs k i len elem hu
    split at h
    · rename_i n hn
      cases hb : (decide (0 ≤ i) && decide (i < (len : Int))) with
      | false => rw [hb] at h; cases h
      | true =>
        rw [hb, cond_true] at h
        have hbd : 0 ≤ i ∧ i < (len : Int) := by simpa using hb
        cases hx with
        | agg cs0 cs' h1 h2 =>
          unfold Instr.index
          refine Snd.pre (a := (k, i)) rfl ?_
          simp only
          refine Snd.pre hu ?_
          simp only [if_pos hbd]
          refine Snd.pre hn ?_
          exact snd_part hr ⟨by simpa using h1.symm, fun j hj => by simpa using h2 j (by simpa using hj)⟩ h
    · cases h
  · cases h

def aExtract : Value → Nat → Option Value
  | .tuple ⟨cs⟩, i => cs[i]?
  | _, _ => none

theorem snd_extract (hr : Rel φ A w) {x x' v : Value} {i : Nat} (hx : VRel φ x x') (h : aExtract x i = some v) : Snd (RV v) P φ A w (Instr.extract x' i) A := by
  unfold aExtract at h
  split at h
  · rename_i cs
    cases hx with
    | tuple cs0 cs' h1 h2 =>
      obtain ⟨hlt, _⟩ := List.getElem?_eq_some_iff.1 h
      have h1' : cs.length = cs'.size := by simpa using h1
      have hlt' : i < cs'.size := by omega
      refine ⟨φ, w, cs'[i], by simp [Instr.extract, hlt', Sem.run, pure], ?_, Step.refl hr⟩
      have := h2 i (by simpa using hlt)
      simp only [Array.getD_eq_getD_getElem?, List.getElem?_toArray, h, Option.getD_some] at this
      simpa [hlt'] using this
  · cases h

/- LITERALS -/

theorem setAll_rel (off : Nat) : ∀ (l l' : List Value) (k : Nat) (c c' : Array Value), l.length = l'.length → (∀ j, j < l.length → VRel φ (l.getD j undef) (l'.getD j undef)) → c.size = c'.size → (∀ j, j < c.size → VRel φ (c.getD j undef) (c'.getD j undef)) →
    ((l.zipIdx k).foldl (fun cs (x : Value × Nat) => cs.setIfInBounds (off + x.2) x.1) c).size = ((l'.zipIdx k).foldl (fun cs (x : Value × Nat) => cs.setIfInBounds (off + x.2) x.1) c').size ∧
    ∀ j, j < ((l.zipIdx k).foldl (fun cs (x : Value × Nat) => cs.setIfInBounds (off + x.2) x.1) c).size → VRel φ (((l.zipIdx k).foldl (fun cs (x : Value × Nat) => cs.setIfInBounds (off + x.2) x.1) c).getD j undef) (((l'.zipIdx k).foldl (fun cs (x : Value × Nat) => cs.setIfInBounds (off + x.2) x.1) c').getD j undef)
  | [], [], _, c, c', _, _, h1, h2 => ⟨h1, h2⟩
  | [], _ :: _, _, _, _, h, _, _, _ => by simp at h
  | _ :: _, [], _, _, _, h, _, _, _ => by simp at h
  | v :: r, v' :: r', k, c, c', hl, hv, h1, h2 => by
    simp only [List.zipIdx_cons, List.foldl_cons]
    refine setAll_rel off r r' (k + 1) _ _ (by simpa using hl) (fun j hj => by simpa using hv (j + 1) (by simpa using hj)) (by simpa using h1) fun j hj => ?_
    have h0 : VRel φ v v' := by simpa using hv 0 (by simp)
    simp only [Array.size_setIfInBounds] at hj
    have := h2 j hj
    simp only [Array.getD_eq_getD_getElem?, Array.getElem?_setIfInBounds] at this ⊢
    by_cases hk : off + k = j
    · rw [if_pos hk, if_pos hk, if_pos (by omega), if_pos (by omega)]
      exact h0
    · rw [if_neg hk, if_neg hk]
      exact this

omit [Sig] in
theorem cells_of {v : Value} {l : List Value} (h : cellsOf v = some l) : v.cells = ⟨l⟩ := by
  cases v <;> simp_all [cellsOf, Value.cells]
  case complex k re im => cases k <;> simp_all
  case agg cs => obtain ⟨cs⟩ := cs; simp [cellsOf] at h; rw [h]

def PRel (φ : Emb) (p p' : Nat × Value) : Prop := p.1 = p'.1 ∧ (cellsOf p.2).isSome = true ∧ VRel φ p.2 p'.2

theorem fill_rel (place : Nat → Option (Nat × Nat)) : ∀ (ps ps' : List (Nat × Value)) (c c' out : Array Value), ps.length = ps'.length → (∀ (j : Nat) (a b : Nat × Value), ps[j]? = some a → ps'[j]? = some b → PRel φ a b) → c.size = c'.size → (∀ j, j < c.size → VRel φ (c.getD j undef) (c'.getD j undef)) →
    Instr.fill place c ps = some out → ∃ out', Instr.fill place c' ps' = some out' ∧ out.size = out'.size ∧ ∀ j, j < out.size → VRel φ (out.getD j undef) (out'.getD j undef)
  | [], [], c, c', out, _, _, h1, h2, h => by
    simp only [Instr.fill, Option.some.injEq] at h
    subst h
    exact ⟨c', rfl, h1, h2⟩
  | [], _ :: _, _, _, _, h, _, _, _, _ => by simp at h
  | _ :: _, [], _, _, _, h, _, _, _, _ => by simp at h
  | (i, v) :: r, (i', v') :: r', c, c', out, hl, hp, h1, h2, h => by
    obtain ⟨e1, e2, e3⟩ := hp 0 _ _ rfl rfl
    simp only at e1 e2 e3
    subst e1
    obtain ⟨l, hlv⟩ := Option.isSome_iff_exists.1 e2
    obtain ⟨c1, c2⟩ := e3.cells hlv
    have hvl : v.cells = ⟨l⟩ := cells_of hlv
    unfold Instr.fill at h ⊢
    cases hpl : place i with
    | none => rw [hpl] at h; cases h
    | some os =>
      obtain ⟨off, size⟩ := os
      rw [hpl] at h
      simp only at h ⊢
      have hcs : v.cells.size = v'.cells.size := by rw [hvl]; simpa using c1
      split at h
      · cases h
      · rename_i hn
        rw [if_neg (by rw [← hcs, ← h1]; exact hn)]
        have key := setAll_rel (φ := φ) off l v'.cells.toList 0 c c' (by simpa using c1) (fun j hj => by simpa [Array.getD_eq_getD_getElem?, List.getD_eq_getElem?_getD] using c2 j hj) h1 h2
        refine fill_rel place r r' _ _ out (by simpa using hl) (fun j a b ha hb => hp (j + 1) a b (by simpa using ha) (by simpa using hb)) ?_ ?_ h
        · rw [hvl, ← Array.foldl_toList, ← Array.foldl_toList, Array.toList_zipIdx, Array.toList_zipIdx]
          exact key.1
        · rw [hvl, ← Array.foldl_toList, ← Array.foldl_toList, Array.toList_zipIdx, Array.toList_zipIdx]
          exact key.2

def partsOk (ps : Array (Nat × Value)) : Bool := ps.toList.all fun p => (cellsOf p.2).isSome

theorem parts_rel {ps : Array (Nat × Operand)} {ρ ρ' : Operand → Value} (hρ : ∀ p ∈ ps, VRel φ (ρ p.2) (ρ' p.2)) (hok : partsOk (ps.map fun (i, x) => (i, ρ x)) = true) :
    ∀ (j : Nat) (a b : Nat × Value), ((ps.map fun (i, x) => (i, ρ x)).toList)[j]? = some a → ((ps.map fun (i, x) => (i, ρ' x)).toList)[j]? = some b → PRel φ a b := by
  intro j a b ha hb
  have hmem := List.mem_of_getElem? ha
  simp only [Array.toList_map, List.getElem?_map, Option.map_eq_some_iff] at ha hb
  obtain ⟨p, hp, rfl⟩ := ha
  obtain ⟨p', hp', rfl⟩ := hb
  rw [hp] at hp'
  cases hp'
  refine ⟨rfl, ?_, hρ p (by simpa using List.mem_of_getElem? hp)⟩
  exact List.all_eq_true.1 hok _ hmem

def aBuild (P : Program) (t : TypeId) (parts : Array (Nat × Value)) : Option Value :=
  bif partsOk parts then
    match pureRun P (zeroValue t) with
    | some z => bif plain z && (cellsOf z).isSome then
        match pureRun P (underlying t) with
        | some (.struct fields) => match pureRun P (fields.mapM fun f => do pure (f.offset, ← sizeOf f.type)) with
          | some places => (Instr.fill (places[·]?) z.cells parts.toList).map .agg
          | none => none
        | some (.array _ elem) => match pureRun P (sizeOf elem) with
          | some size => (Instr.fill (fun i => some (i * size, size)) z.cells parts.toList).map .agg
          | none => none
        | _ => none
      else none
    | none => none
  else none

theorem plain_cells {z : Value} (h : plain z = true) (hc : (cellsOf z).isSome = true) (φ : Emb) : ∀ j, j < z.cells.size → VRel φ (z.cells.getD j undef) (z.cells.getD j undef) := by
  obtain ⟨l, hl⟩ := Option.isSome_iff_exists.1 hc
  obtain ⟨h1, h2⟩ := (VRel.of_plain φ z h).cells hl
  intro j hj
  have hvl : z.cells = ⟨l⟩ := cells_of hl
  have := h2 j (by omega)
  simp only [hvl] at this ⊢
  simpa [Array.getD_eq_getD_getElem?, List.getD_eq_getElem?_getD] using this

theorem snd_build (hr : Rel φ A w) {t : TypeId} {ps : Array (Nat × Operand)} {ρ ρ' : Operand → Value} {v : Value} (hρ : ∀ p ∈ ps, VRel φ (ρ p.2) (ρ' p.2)) (h : aBuild P t (ps.map fun (i, x) => (i, ρ x)) = some v) :
    Snd (RV v) P φ A w (Instr.build t (ps.map fun (i, x) => (i, ρ' x))) A := by
  unfold aBuild at h
  cases hok : partsOk (ps.map fun (i, x) => (i, ρ x)) with
  | false => rw [hok] at h; cases h
  | true =>
    rw [hok, cond_true] at h
    have hrel := parts_rel hρ hok
    cases hz : pureRun P (zeroValue t) with
    | none => rw [hz] at h; cases h
    | some z =>
      rw [hz] at h
      simp only at h
      cases hpz : (plain z && (cellsOf z).isSome) with
      | false => rw [hpz] at h; cases h
      | true =>
        rw [hpz, cond_true] at h
        simp only [Bool.and_eq_true] at hpz
        have hzc := plain_cells hpz.1 hpz.2 φ
        unfold Instr.build
        refine Snd.pre hz ?_
        simp only
        have fin : ∀ (place : Nat → Option (Nat × Nat)) , (Instr.fill place z.cells (ps.map fun (i, x) => (i, ρ x)).toList).map Value.agg = some v →
            ∃ out', Instr.fill place z.cells (ps.map fun (i, x) => (i, ρ' x)).toList = some out' ∧ VRel φ v (.agg out') := by
          intro place hf
          obtain ⟨out, ho, rfl⟩ := Option.map_eq_some_iff.1 hf
          obtain ⟨out', g1, g2, g3⟩ := fill_rel place _ _ _ _ out (by simp) hrel rfl hzc ho
          exact ⟨out', g1, .agg _ _ g2 g3⟩
        split at h
        · rename_i fields hu
          refine Snd.pre hu ?_
          simp only
          split at h
          · rename_i places hpl
            refine Snd.pre hpl ?_
            obtain ⟨out', g1, g2⟩ := fin _ h
            simp only [g1]
            exact Snd.ret hr g2
          · cases h
        · rename_i n elem hu
          refine Snd.pre hu ?_
          simp only
          split at h
          · rename_i size hsz
            refine Snd.pre hsz ?_
            obtain ⟨out', g1, g2⟩ := fin _ h
            simp only [g1]
            exact Snd.ret hr g2
          · cases h
        · cases h

def aBuildSlice (P : Program) (A : AS) (t : TypeId) (len : Nat) (parts : Array (Nat × Value)) : Option (Value × AS) :=
  bif partsOk parts then
    match pureRun P (underlying t) with
    | some (.slice elem) => match pureRun P (sizeOf elem) with
      | some size => bif Nat.blt 0 (len * size) && Nat.ble (len * size) 16777216 then
          match pureRun P (zeroValue elem) with
          | some z => bif plain z && (cellsOf z).isSome && Nat.blt 0 z.cells.size then
              match Instr.fill (fun i => some (i * size, size)) ((Array.range (len * size)).map (z.cells[· % z.cells.size]!)) parts.toList with
              | some out => match A.push (.cells out.toList) 0 elem with
                | some (r, A1) => some (.slice (some ⟨r, 0, none⟩) len len, A1)
                | none => none
              | none => none
            else none
          | none => none
        else none
      | none => none
    | _ => none
  else none

theorem snd_buildSlice (hr : Rel φ A w) {t : TypeId} {len : Nat} {ps : Array (Nat × Operand)} {ρ ρ' : Operand → Value} {v : Value} (hρ : ∀ p ∈ ps, VRel φ (ρ p.2) (ρ' p.2)) (h : aBuildSlice P A t len (ps.map fun (i, x) => (i, ρ x)) = some (v, A')) :
    Snd (RV v) P φ A w (Instr.buildSlice t len (ps.map fun (i, x) => (i, ρ' x))) A' := by
  unfold aBuildSlice at h
  cases hok : partsOk (ps.map fun (i, x) => (i, ρ x)) with
  | false => rw [hok] at h; cases h
  | true =>
    rw [hok, cond_true] at h
    have hrel := parts_rel hρ hok
    split at h
    · rename_i elem hu
      split at h
      · rename_i size hsz
        cases hb : (Nat.blt 0 (len * size) && Nat.ble (len * size) 16777216) with
        | false => rw [hb] at h; cases h
        | true =>
          rw [hb, cond_true] at h
          simp only [Bool.and_eq_true] at hb
          have hb1 := Nat.blt_eq.mp hb.1
          have hb2 := Nat.ble_eq.mp hb.2
          split at h
          · rename_i z hz
            cases hpz : (plain z && (cellsOf z).isSome && Nat.blt 0 z.cells.size) with
            | false => rw [hpz] at h; cases h
            | true =>
              rw [hpz, cond_true] at h
              simp only [Bool.and_eq_true] at hpz
              have hz0 := Nat.blt_eq.mp hpz.2
              have hzc := plain_cells hpz.1.1 hpz.1.2 φ
              split at h
              · rename_i out ho
                split at h
                · rename_i r A1 hp
                  simp only [Option.some.injEq, Prod.mk.injEq] at h
                  obtain ⟨rfl, rfl⟩ := h
                  unfold Instr.buildSlice
                  refine Snd.pre hu ?_
                  simp only
                  refine Snd.pre hsz ?_
                  rw [if_neg (by omega)]
                  rw [if_neg (by omega)]
                  have hsame : ∀ j, j < ((Array.range (len * size)).map (z.cells[· % z.cells.size]!)).size → VRel φ (((Array.range (len * size)).map (z.cells[· % z.cells.size]!)).getD j undef) (((Array.range (len * size)).map (z.cells[· % z.cells.size]!)).getD j undef) := by
                    intro j hj
                    simp at hj
                    have hm := Nat.mod_lt j hz0
                    have := hzc (j % z.cells.size) hm
                    simp only [Array.getD_eq_getD_getElem?] at this ⊢
                    simpa [hj, hm, getElem!_pos] using this
                  obtain ⟨out', g1, g2, g3⟩ := fill_rel (φ := φ) (fun i => some (i * size, size)) _ _ _ _ out (by simp) hrel rfl hsame ho
                  refine Snd.pre hz ?_
                  refine Snd.pre (a := z.cells) rfl ?_
                  simp only [g1]
                  obtain ⟨φ', w', q1, q2, q3, _⟩ := run_newRow hr P elem hp (c' := out') (by simpa using Nat.le_of_eq g2) (fun _ => by simpa using g2) (fun j hj => by
                    have := g3 j (by simpa using hj)
                    simp only [Array.getD_eq_getD_getElem?] at this
                    simpa [List.getD_eq_getElem?_getD] using this)
                  refine ⟨φ', w', .slice (some ⟨w.heap.size, 0, none⟩) len len, by rw [Sem.run_bind, q1]; rfl, ?_, q3⟩
                  have := VRel.slx (φ := φ') (b := r) (o := 0) len len q2
                  simpa using this
                · cases h
              · cases h
          · cases h
      · cases h
    · cases h

def aBuildEmpty (P : Program) (A : AS) (t : TypeId) : Option (Value × AS) :=
  match pureRun P (underlying t) with
  | some (.slice elem) => match pureRun P (sizeOf elem) with
    | some _ => match A.push (.cells []) 0 elem with
      | some (r, A1) => some (.slice (some ⟨r, 0, none⟩) 0 0, A1)
      | none => none
    | none => none
  | _ => none

theorem snd_buildEmpty (hr : Rel φ A w) {t : TypeId} {v : Value} (h : aBuildEmpty P A t = some (v, A')) : Snd (RV v) P φ A w (Instr.buildSlice t 0 #[]) A' := by
  unfold aBuildEmpty at h
  split at h
  · rename_i elem hu
    split at h
    · rename_i size hsz
      split at h
      · rename_i r A1 hp
        simp only [Option.some.injEq, Prod.mk.injEq] at h
        obtain ⟨rfl, rfl⟩ := h
        unfold Instr.buildSlice
        refine Snd.pre hu ?_
        simp only
        refine Snd.pre hsz ?_
        rw [if_neg (by omega), if_pos (by omega)]
        refine Snd.pre (a := (#[] : Array Value)) rfl ?_
        obtain ⟨φ', w', q1, q2, q3, _⟩ := run_newRow hr P (c' := #[]) elem hp (by simp) (fun _ => by simp) (fun j hj => by simp at hj)
        have e : ((Array.range (0 * size)).map ((#[] : Array Value)[· % (#[] : Array Value).size]!)) = #[] := by simp
        rw [e]
        simp only [Instr.fill]
        refine ⟨φ', w', .slice (some ⟨w.heap.size, 0, none⟩) 0 0, by rw [Sem.run_bind, q1]; rfl, ?_, q3⟩
        have := VRel.slx (φ := φ') (b := r) (o := 0) 0 0 q2
        simpa using this
      · cases h
    · cases h
  · cases h

end
end AE
end Go.Proofs.YtblhndlmgibljaaDoor

/- AE, part 7: a new block of an old family, slices, append. -/
namespace Go.Proofs.YtblhndlmgibljaaDoor
open Go
namespace AE
variable [Sig]

def AS.pushIn (A : AS) (b pos st : Nat) (ty : TypeId) (c : List Value) : Option (Nat × AS) :=
  match A.bl.get b with
  | some k => match k.obj, A.mem.get k.fam with
    | .cells _, some l => bif k.ro || bne k.ty ty then none else
      match Tr.set { obj := .cells c, fam := k.fam, pos := pos, stride := st, ro := false, ty := ty : ABlk } depth A.bl A.n, Tr.set (A.n :: l) depth A.mem k.fam with
      | some bl, some mem => some (A.n, { bl, mem, n := A.n + 1, low := l.foldl Nat.min A.low })
      | _, _ => none
    | _, _ => none
  | none => none

omit [Sig] in
theorem pushIn_spec {A A' : AS} {b pos st : Nat} {ty : TypeId} {c : List Value} {r : Nat} (h : A.pushIn b pos st ty c = some (r, A')) (hwf : WF A) :
    ∃ k c0 l, A.bl.get b = some k ∧ k.obj = .cells c0 ∧ k.ro = false ∧ k.ty = ty ∧ A.mem.get k.fam = some l ∧ r = A.n ∧ WF A' ∧ A'.n = A.n + 1 ∧ A'.low ≤ A.low ∧ (∀ m ∈ l, A'.low ≤ m) ∧
      (∀ j, A'.bl.get j = if j = A.n then some { obj := .cells c, fam := k.fam, pos := pos, stride := st, ro := false, ty := ty } else A.bl.get j) := by
  unfold AS.pushIn at h
  cases hk : A.bl.get b with
  | none => rw [hk] at h; cases h
  | some k =>
    rw [hk] at h
    obtain ⟨ob, fam, pos0, st0, ro, ty0⟩ := k
    simp only at h
    cases ob with
    | map es cl => cases h
    | oth x => cases h
    | cells c0 =>
      cases hm : A.mem.get fam with
      | none => rw [hm] at h; cases h
      | some l =>
        rw [hm] at h
        simp only at h
        cases hc : (ro || bne ty0 ty) with
        | true => rw [hc] at h; cases h
        | false =>
          rw [hc, cond_false] at h
          simp only [Bool.or_eq_false_iff, bne_eq_false_iff_eq] at hc
          obtain ⟨rfl, rfl⟩ := hc
          split at h
          · rename_i bl mem hb hmm
            simp only [Option.some.injEq, Prod.mk.injEq] at h
            obtain ⟨rfl, rfl⟩ := h
            have gb := fun b => Tr.get_set _ _ _ _ _ b hb
            have gm := fun b => Tr.get_set _ _ _ _ _ b hmm
            obtain ⟨f1, f2⟩ := foldl_min_le l A.low
            have hfam := hwf.famlt b _ hk
            refine ⟨_, c0, l, rfl, rfl, rfl, rfl, hm, rfl, ⟨?_, ?_, ?_, ?_⟩, rfl, f1, f2, gb⟩
            · intro j kj hj
              simp only at hj ⊢
              rw [gb] at hj
              split at hj
              · omega
              · have := hwf.lt j kj hj; omega
            · intro j kj hj
              simp only at hj ⊢ hfam
              rw [gb] at hj
              split at hj
              · cases hj; simp only; omega
              · have := hwf.famlt j kj hj; omega
            · intro j kj hj
              simp only at hj ⊢
              rw [gb] at hj
              split at hj
              · rename_i hjn
                cases hj
                exact ⟨_, by rw [gm, if_pos rfl], by simp [hjn]⟩
              · obtain ⟨l', hl', hjl⟩ := hwf.mem j kj hj
                by_cases hf : kj.fam = fam
                · rw [hf, hm] at hl'
                  cases hl'
                  exact ⟨_, by rw [gm, if_pos hf], List.mem_cons_of_mem _ hjl⟩
                · exact ⟨l', by rw [gm, if_neg hf]; exact hl', hjl⟩
            · intro j kj j' kj' hj hj' hf
              simp only at hj hj'
              rw [gb] at hj hj'
              split at hj
              · cases hj
                split at hj'
                · cases hj'; rfl
                · have := hwf.rofam b _ j' kj' hk hj' hf
                  exact this
              · split at hj'
                · cases hj'
                  have := hwf.rofam j kj b _ hj hk hf
                  exact this
                · exact hwf.rofam j kj j' kj' hj hj' hf
          · cases h

theorem step_pushIn {φ : Emb} {A A' : AS} {w w' : World} (hr : Rel φ A w) {b pos st : Nat} {ty : TypeId} {c : List Value} {r : Nat} {e : Em} (h : A.pushIn b pos st ty c = some (r, A')) (hst : e.stride = st)
    (hw : (e.blk = w.heap.size ∧ ∃ o, w' = { w with heap := w.heap.push o }) ∨ (w' = w ∧ ∃ e0 k, φ b = some e0 ∧ A.bl.get b = some k ∧ e.blk = e0.blk ∧ e.sh + k.pos = e0.sh + pos))
    (ho : ∀ k, A.bl.get b = some k → ORel (upd φ r e) w' e { obj := .cells c, fam := k.fam, pos := pos, stride := st, ro := false, ty := ty }) :
    Step φ A w (upd φ r e) A' w' := by
  obtain ⟨k, c0, l, hk, hobj, hro, hty, hmem, rfl, hwf, hn, hlow, hlowm, hget⟩ := pushIn_spec h hr.wf
  have ho := ho k hk
  have hold : ∀ b e1, φ b = some e1 → upd φ A.n e b = some e1 := fun b e1 hb => by
    unfold upd; rw [if_neg (by have := hr.lt hb; omega)]; exact hb
  have hheap : ∀ i, i < w.heap.size → w'.heap[i]? = w.heap[i]? := fun i hi => by
    rcases hw with ⟨_, o, rfl⟩ | ⟨rfl, _⟩
    · show (w.heap.push o)[i]? = _
      rw [Array.getElem?_push, if_neg (by omega)]
    · rfl
  have hsz : w.heap.size ≤ w'.heap.size := by
    rcases hw with ⟨_, o, rfl⟩ | ⟨rfl, _⟩
    · simp
    · exact Nat.le_refl _
  have hrest : w'.os = w.os ∧ w'.tape = w.tape ∧ w'.output = w.output := by
    rcases hw with ⟨_, o, rfl⟩ | ⟨rfl, _⟩ <;> exact ⟨rfl, rfl, rfl⟩
  have hcase : ∀ j e1, upd φ A.n e j = some e1 → (j = A.n ∧ e1 = e) ∨ (j ≠ A.n ∧ φ j = some e1) := fun j e1 hb => by
    unfold upd at hb
    split at hb
    · rename_i h; cases hb; exact .inl ⟨h, rfl⟩
    · rename_i h; exact .inr ⟨h, hb⟩
  have hbl : b ∈ l := by
    obtain ⟨l', hl', hb'⟩ := hr.wf.mem b k hk
    rw [hmem] at hl'; cases hl'; exact hb'
  have hap : ∀ j ej kj, φ j = some ej → A.bl.get j = some kj → (k.fam ≠ kj.fam → e.blk ≠ ej.blk) ∧ (k.fam = kj.fam → e.blk = ej.blk → e.sh + kj.pos = ej.sh + pos) := by
    intro j ej kj hj hkj
    rcases hw with ⟨he, _⟩ | ⟨_, e0, k', he0, hk', hblk, hpos⟩
    · obtain ⟨_, _, _, h2⟩ := hr.dom j ej hj
      have := h2.lt
      exact ⟨fun _ => by omega, fun _ _ => by omega⟩
    · rw [hk] at hk'; cases hk'
      refine ⟨fun hne => ?_, fun hf hb => ?_⟩
      · rw [hblk]; exact hr.apart b e0 k j ej kj he0 hj hk hkj hne
      · have := hr.along b e0 k j ej kj he0 hj hk hkj hf (by rw [← hblk]; exact hb)
        omega
  refine { rel := ⟨hwf, ?_, ?_, ?_, fun i o hi => by
      obtain ⟨h1, h2⟩ := hr.imm i o hi
      have hlt : i < w.heap.size := (Array.getElem?_eq_some_iff.1 h1).1
      refine ⟨by rw [hheap i hlt]; exact h1, fun j e1 hj => ?_⟩
      rcases hcase j e1 hj with ⟨rfl, rfl⟩ | ⟨_, hj⟩
      · rcases hw with ⟨he, _⟩ | ⟨_, e0, k', he0, hk', hblk, hpos⟩
        · omega
        · rw [hblk]; exact h2 b e0 he0
      · exact h2 j e1 hj⟩, dom := ?_, newm := ?_, new := ?_, n_le := by omega, low := hlow, same := ?_, ro := ?_, keep := ?_, hsize := hsz, os := hrest.1, tape := hrest.2.1, output := hrest.2.2, drawn := Nat.le_refl _ }
  · intro j e1 hb
    rcases hcase j e1 hb with ⟨rfl, rfl⟩ | ⟨hne, hb⟩
    · exact ⟨_, by rw [hget, if_pos rfl], hst, ho⟩
    · obtain ⟨kj, hkj, h1, h2⟩ := hr.dom j e1 hb
      exact ⟨kj, by rw [hget, if_neg hne]; exact hkj, h1, h2.mono hold (hheap _ h2.lt)⟩
  · intro j e1 kj j' e1' kj' hb hb' hk1 hk1' hne
    rw [hget] at hk1 hk1'
    rcases hcase j e1 hb with ⟨rfl, rfl⟩ | ⟨hn1, hbo⟩
    · rcases hcase j' e1' hb' with ⟨rfl, rfl⟩ | ⟨hn2, hbo'⟩
      · rw [if_pos rfl] at hk1 hk1'; cases hk1; cases hk1'; exact absurd rfl hne
      · rw [if_pos rfl] at hk1; rw [if_neg hn2] at hk1'; cases hk1
        exact (hap j' e1' kj' hbo' hk1').1 hne
    · rcases hcase j' e1' hb' with ⟨rfl, rfl⟩ | ⟨hn2, hbo'⟩
      · rw [if_pos rfl] at hk1'; rw [if_neg hn1] at hk1; cases hk1'
        exact Ne.symm ((hap j e1 kj hbo hk1).1 (Ne.symm hne))
      · rw [if_neg hn1] at hk1; rw [if_neg hn2] at hk1'
        exact hr.apart j e1 kj j' e1' kj' hbo hbo' hk1 hk1' hne
  · intro j e1 kj j' e1' kj' hb hb' hk1 hk1' hfam hblk
    rw [hget] at hk1 hk1'
    rcases hcase j e1 hb with ⟨rfl, rfl⟩ | ⟨hn1, hbo⟩
    · rcases hcase j' e1' hb' with ⟨rfl, rfl⟩ | ⟨hn2, hbo'⟩
      · rw [if_pos rfl] at hk1 hk1'; cases hk1; cases hk1'; rfl
      · rw [if_pos rfl] at hk1; rw [if_neg hn2] at hk1'; cases hk1
        exact (hap j' e1' kj' hbo' hk1').2 hfam hblk
    · rcases hcase j' e1' hb' with ⟨rfl, rfl⟩ | ⟨hn2, hbo'⟩
      · rw [if_pos rfl] at hk1'; rw [if_neg hn1] at hk1; cases hk1'
        exact ((hap j e1 kj hbo hk1).2 hfam.symm hblk.symm).symm
      · rw [if_neg hn1] at hk1; rw [if_neg hn2] at hk1'
        exact hr.along j e1 kj j' e1' kj' hbo hbo' hk1 hk1' hfam hblk
  · intro j hj
    unfold upd; rw [if_neg (by omega)]
  · intro j h1 h2
    have : j = A.n := by omega
    subst this
    simp [upd]
  · intro j e1 h1 hb
    rcases hcase j e1 hb with ⟨rfl, rfl⟩ | ⟨hn1, hb⟩
    · rcases hw with ⟨he, _⟩ | ⟨_, e0, k', he0, hk', hblk, hpos⟩
      · exact .inl (by omega)
      · exact .inr ⟨b, e0, k, he0, hblk.symm, hlowm b hbl, hk, hro⟩
    · exact absurd (hr.lt hb) (by omega)
  · intro j hj _
    rw [hget, if_neg (by omega)]
  · intro j kj hkj _
    rw [hget, if_neg (by have := hr.wf.lt j kj hkj; omega)]; exact hkj
  · intro i hi _
    exact hheap i hi

theorem step_idle {φ : Emb} {A A' : AS} {w : World} (hr : Rel φ A w) {b off : Nat} {v v' : Value} {e : Em} (h : A.store b off v = some A') (he : φ b = some e) (hv : VRel φ v v') (hc : w.cell? ⟨e.blk, e.sh + off, none⟩ = some v') :
    Step φ A w φ A' w := by
  obtain ⟨st, _, _⟩ := step_store hr h he hv
  have : w.setCell ⟨e.blk, e.sh + off, none⟩ v' = w := by
    unfold World.setCell
    have : w.heap.modify e.blk (fun
      | .cells c elem frozen => .cells (if (none : Option Nat).isSome then c else c.setIfInBounds (e.sh + off) v') elem frozen
      | o => o) = w.heap := by
      apply Array.ext_getElem?
      intro i
      rw [Array.getElem?_modify]
      split
      · rename_i hi
        subst hi
        cases hh : w.heap[e.blk]? with
        | none => rfl
        | some o =>
          cases o <;> try rfl
          rename_i c t fr
          simp only [Option.map_some, Option.isSome_none, Bool.false_eq_true, if_false, Option.some.injEq, Obj.cells.injEq, and_true]
          simp only [World.cell?, hh, Option.isSome_none, Bool.false_eq_true, if_false] at hc
          apply Array.ext_getElem?
          intro j
          rw [Array.getElem?_setIfInBounds]
          split
          · rename_i hj; subst hj
            obtain ⟨hlt, _⟩ := Array.getElem?_eq_some_iff.1 hc
            rw [if_pos hlt, hc]
          · rfl
      · rfl
    exact congrArg (fun h => { w with heap := h }) this
  rw [this] at st
  exact st

theorem step_idleN {φ : Emb} {b : Nat} {e : Em} (he : φ b = some e) {w : World} : ∀ (vs : List Value) (A A' : AS) (off : Nat), Rel φ A w → A.storeN b off vs = some A' →
    (∀ j, j < vs.length → ∃ v', w.cell? ⟨e.blk, e.sh + (off + j), none⟩ = some v' ∧ VRel φ (vs.getD j undef) v') → Step φ A w φ A' w
  | [], A, A', off, hr, h, _ => by
    simp only [AS.storeN, Option.some.injEq] at h
    subst h
    exact Step.refl hr
  | v :: r, A, A', off, hr, h, hv => by
    unfold AS.storeN at h
    cases h1 : AE.oneCell v with
    | false => rw [h1] at h; cases h
    | true =>
      rw [h1, cond_true] at h
      cases hs : A.store b off v with
      | none => rw [hs] at h; cases h
      | some A1 =>
        rw [hs] at h
        simp only at h
        obtain ⟨v', g1, g2⟩ := hv 0 (by simp)
        have st := step_idle hr hs he (by simpa using g2) (by simpa using g1)
        exact Step.trans hr st (step_idleN he r A1 A' (off + 1) st.rel h fun j hj => by
          obtain ⟨v'', q1, q2⟩ := hv (j + 1) (by simpa using hj)
          exact ⟨v'', by rw [show off + 1 + j = off + (j + 1) by omega]; exact q1, by simpa using q2⟩)

end AE
end Go.Proofs.YtblhndlmgibljaaDoor

/- AE, part 8: append. -/
namespace Go.Proofs.YtblhndlmgibljaaDoor
open Go
namespace AE
variable [Sig]

omit [Sig] in
theorem growBy_le (newLen : Nat) : ∀ (r c : Nat), Builtin.growBy newLen r c ≤ (c + 768) * 2 ^ r
  | 0, c => by simp [Builtin.growBy]
  | r + 1, c => by
    unfold Builtin.growBy
    split
    · have : 1 ≤ 2 ^ (r + 1) := Nat.one_le_two_pow
      calc c ≤ c + 768 := by omega
        _ = (c + 768) * 1 := by omega
        _ ≤ (c + 768) * 2 ^ (r + 1) := Nat.mul_le_mul_left _ this
    · have h := growBy_le newLen r (c + (c + 768) / 4)
      calc _ ≤ (c + (c + 768) / 4 + 768) * 2 ^ r := h
        _ ≤ ((c + 768) * 2) * 2 ^ r := Nat.mul_le_mul_right _ (by omega)
        _ = (c + 768) * 2 ^ (r + 1) := by rw [Nat.pow_succ, Nat.mul_assoc, Nat.mul_comm 2]

omit [Sig] in
theorem nextcap_le {need c : Nat} (h : c < need) (hn : need ≤ 1048576) : Builtin.nextslicecap need c ≤ 33554432 := by
  unfold Builtin.nextslicecap
  split
  · omega
  · split
    · omega
    · have h4 := growBy_le need 4 c
      have h16 : (c + 768) * 2 ^ 4 ≤ 33554432 := by
        rw [show (2 : Nat) ^ 4 = 16 from rfl]; omega
      exact Nat.le_trans h4 h16

omit [Sig] in
theorem zeroCells_size (z : Array Value) (n : Nat) : (Builtin.zeroCells z n).size = n * z.size := by simp [Builtin.zeroCells]

section
variable {P : Program} {φ : Emb} {A A' : AS} {w : World}

omit [Sig] in
theorem run_drawn_loadCells (a : Addr) (n : Nat) {v : Array Value} (h : (loadCells a n).run P w = .ok v w) (d : Nat) (hc : ∀ j, j < n → ∃ u, w.cell? (a.add j) = some u) : (loadCells a n).run P { w with drawn := d } = .ok v { w with drawn := d } := by
  let f : Nat → Value := fun j => (w.cell? (a.add j)).getD undef
  have hf : ∀ j, j < n → w.cell? (a.add j) = some (f j) := fun j hj => by
    obtain ⟨u, hu⟩ := hc j hj
    simp [f, hu]
  have h1 := run_loadCells (P := P) w a n f hf
  rw [h] at h1
  have h2 := run_loadCells (P := P) { w with drawn := d } a n f hf
  rw [h2]
  injection h1 with h1
  rw [h1]

def aNews (A : AS) (sz : Nat) : Value → Option (Nat × List Value)
  | .slice (some ⟨b, off, none⟩) n _ => (A.loadN b off (n * sz)).map fun l => (n, l)
  | .slice none 0 0 => some (0, [])
  | .string s => bif sz == 1 then some (s.size, s.data.toList.map fun b => .int .u8 b.toNat) else none
  | _ => none

theorem news_run (hr : Rel φ A w) {sz n : Nat} {x x' : Value} {l : List Value} (hx : VRel φ x x') (h : aNews A sz x = some (n, l)) :
    l.length = n * sz ∧ ∃ new' : Array Value, new'.size = l.length ∧ (∀ j, j < l.length → VRel φ (l.getD j undef) (new'.getD j undef)) ∧
      (∀ d, (Builtin.lenOf x').run P { w with drawn := d } = .ok n { w with drawn := d }) ∧ ∀ d, (Builtin.firstCells sz n x').run P { w with drawn := d } = .ok new' { w with drawn := d } := by
  unfold aNews at h
  split at h
  · rename_i b off n' c
    obtain ⟨l', hl', heq⟩ := Option.map_eq_some_iff.1 h
    simp only [Prod.mk.injEq] at heq
    obtain ⟨rfl, rfl⟩ := heq
    obtain ⟨hlen, hjs⟩ := loadN_spec hl'
    have main : ∀ (e : Em) (c' : Nat), φ b = some e → ∃ new' : Array Value, new'.size = l'.length ∧ (∀ j, j < l'.length → VRel φ (l'.getD j undef) (new'.getD j undef)) ∧
      (∀ d, (Builtin.lenOf (.slice (some ⟨e.blk, e.sh + off, none⟩) n' c')).run P { w with drawn := d } = .ok n' { w with drawn := d }) ∧ ∀ d, (Builtin.firstCells sz n' (.slice (some ⟨e.blk, e.sh + off, none⟩) n' c')).run P { w with drawn := d } = .ok new' { w with drawn := d } := by
      intro e c' he
      obtain ⟨vs', h1, h2, h3⟩ := run_loadN hr P hl' he
      refine ⟨vs', h2, h3, fun d => rfl, fun d => ?_⟩
      exact run_drawn_loadCells _ _ h1 d fun j hj => by
        obtain ⟨v', g1, _⟩ := rel_load hr (hjs j hj) he
        exact ⟨v', by rw [Addr.add_at, Nat.add_assoc]; exact g1⟩
    cases hx with
    | slx _ c' he => exact ⟨hlen, main _ _ he⟩
    | slg _ _ c' he _ _ _ => exact ⟨hlen, main _ _ he⟩
    | slz a' _ =>
      have : l' = [] := by simpa using hlen
      subst this
      refine ⟨by simp, #[], rfl, fun j hj => absurd hj (by simp), fun d => rfl, fun d => ?_⟩
      simp [Builtin.firstCells, loadCells, loadCellsFrom, Sem.run, pure]
  · simp only [Option.some.injEq, Prod.mk.injEq] at h
    obtain ⟨rfl, rfl⟩ := h
    cases hx with
    | slnil => exact ⟨by simp, #[], rfl, fun j hj => absurd hj (by simp), fun d => rfl, fun d => rfl⟩
  · rename_i s
    cases hs : (sz == 1) with
    | false => rw [hs] at h; cases h
    | true =>
      rw [hs, cond_true] at h
      simp only [Option.some.injEq, Prod.mk.injEq] at h
      obtain ⟨rfl, rfl⟩ := h
      have hs1 : sz = 1 := by simpa using hs
      cases hx with
      | string =>
        refine ⟨by simp [hs1], (s.data.toList.map fun b => Value.int .u8 b.toNat).toArray, by simp, fun j hj => ?_, fun d => rfl, fun d => ?_⟩
        · simp only [Array.getD_eq_getD_getElem?, List.getElem?_toArray, List.getD_eq_getElem?_getD]
          have hj' : j < s.data.toList.length := by simpa using hj
          simp only [List.getElem?_map, List.getElem?_eq_getElem hj', Option.map_some, Option.getD_some]
          exact .int _ _
        · simp only [Builtin.firstCells]
          show Result.ok _ _ = Result.ok _ _
          congr 1
          have : (s.extract 0 s.size) = s := by simp
          rw [this]
          apply Array.ext'
          simp
  · cases h

omit [Sig] in
theorem run_pre {α β : Type} {s : Sem α} {k : α → Sem β} {a : α} {w : World} {r : Result β} (h : pureRun P s = some a) (hk : (k a).run P w = r) : (s >>= k).run P w = r := by
  rw [Sem.run_bind, pureRun_run h w]; exact hk
omit [Sig] in
theorem run_then {α β : Type} {s : Sem α} {k : α → Sem β} {a : α} {w w1 : World} {r : Result β} (h : s.run P w = .ok a w1) (hk : (k a).run P w1 = r) : (s >>= k).run P w = r := by
  rw [Sem.run_bind, h]; exact hk

def isIntD : TypeDesc → Bool
  | .int _ => true
  | _ => false

omit [Sig] in
theorem run_append_fits {ts : Array TypeId} {t t2 elem ty : TypeId} {sz n sLen sCap : Nat} {base : Option Addr} {x' : Value} {new' : Array Value} (h0 : ts[0]? = some t) (h1 : ts[1]? = some t2)
    (hu : pureRun P (underlying t) = some (.slice elem)) {d2 : TypeDesc} (hu2 : pureRun P (underlying t2) = some d2) (hd : isIntD d2 = false) (hsz : pureRun P (sizeOf elem) = some sz)
    (hlen : (Builtin.lenOf x').run P w = .ok n w) (hfirst : (Builtin.firstCells sz n x').run P w = .ok new' w) (hfit : sLen + n ≤ sCap) {w' : World}
    (hst : (match base with | some a => storeCells (a.add (sLen * sz)) new'.toList | none => pure ()).run P w = .ok () w') :
    (Builtin.append_ ts ty #[.slice base sLen sCap, x']).run P w = .ok (.slice base (sLen + n) sCap) w' := by
  unfold Builtin.append_
  simp only [h0, h1, List.getElem?_toArray, List.getElem?_cons_zero, List.getElem?_cons_succ]
  refine run_pre hu ?_
  simp only
  refine run_pre hsz ?_
  refine run_pre hu2 ?_
  refine run_pre (a := false) (by cases d2 <;> first | rfl | cases hd) ?_
  simp only [Bool.false_eq_true, if_false]
  refine run_then hlen ?_
  rw [if_pos hfit]
  simp only [Bool.not_false, if_true]
  refine run_then hfirst ?_
  cases base with
  | none =>
    have : w' = w := by
      have h : Result.ok () w = Result.ok () w' := hst
      injection h with _ h
      exact h.symm
    subst this
    rfl
  | some a => exact run_then hst rfl

omit [Sig] in
theorem run_append_grows {ts : Array TypeId} {t t2 elem ty : TypeId} {info : TypeInfo} {z : Value} {sz n sLen sCap : Nat} {base : Option Addr} {x' : Value} {old' new' : Array Value} (h0 : ts[0]? = some t) (h1 : ts[1]? = some t2)
    (hu : pureRun P (underlying t) = some (.slice elem)) {d2 : TypeDesc} (hu2 : pureRun P (underlying t2) = some d2) (hd : isIntD d2 = false) (hsz : pureRun P (sizeOf elem) = some sz)
    (hi : pureRun P (typeInfo elem) = some info) (hzv : pureRun P (zeroValue elem) = some z) (hb0 : info.bytes ≠ 0) (hb : info.bytes ≤ 65536) (hneed : sLen + n ≤ 1048576)
    (hlen : (Builtin.lenOf x').run P w = .ok n w) (hfirst : ∀ d, (Builtin.firstCells sz n x').run P { w with drawn := d } = .ok new' { w with drawn := d })
    (hold : ∀ d, (Builtin.firstCells sz sLen (.slice base sLen sCap)).run P { w with drawn := d } = .ok old' { w with drawn := d }) (hfit : sCap < sLen + n) :
    ∃ newCap, sLen + n ≤ newCap ∧ (Builtin.append_ ts ty #[.slice base sLen sCap, x']).run P w =
      .ok (.slice (some ⟨w.heap.size, 0, none⟩) (sLen + n) newCap) { w with drawn := w.drawn + 1, heap := w.heap.push (.cells (old' ++ new' ++ Builtin.zeroCells z.cells (newCap - (sLen + n))) elem) } := by
  refine ⟨(Question.appendCap (sLen + n) sCap elem).cut (w.tape w.drawn (.appendCap (sLen + n) sCap elem)), by simp [Question.cut], ?_⟩
  unfold Builtin.append_
  simp only [h0, h1, List.getElem?_toArray, List.getElem?_cons_zero, List.getElem?_cons_succ]
  refine run_pre hu ?_
  simp only
  refine run_pre hsz ?_
  refine run_pre hu2 ?_
  refine run_pre (a := false) (by cases d2 <;> first | rfl | cases hd) ?_
  simp only [Bool.false_eq_true, if_false]
  refine run_then hlen ?_
  rw [if_neg (by omega)]
  refine run_pre hi ?_
  rw [if_neg (by simp [hb0])]
  refine run_pre hi ?_
  have hcap := nextcap_le hfit hneed
  have hle : ¬ (Builtin.nextslicecap (sLen + n) sCap * info.bytes > 2 ^ 48) := by
    have h := Nat.mul_le_mul hcap hb
    have h2 : 33554432 * 65536 ≤ 2 ^ 48 := by decide
    omega
  rw [if_neg hle]
  refine run_then (w1 := { w with drawn := w.drawn + 1 }) (a := (Question.appendCap (sLen + n) sCap elem).cut (w.tape w.drawn (.appendCap (sLen + n) sCap elem))) (by simp [choose, Sem.run, Question.forced]) ?_
  refine run_pre hi ?_
  refine run_then (w1 := { w with drawn := w.drawn + 1 }) (a := ()) (by unfold askRoom; split <;> rfl) ?_
  refine run_then (hold _) ?_
  simp only [Bool.not_false, if_true]
  refine run_then (hfirst _) ?_
  refine run_pre hzv ?_
  refine run_then (a := (⟨w.heap.size, 0, none⟩ : Addr)) (by simp only [newRow, newObj]; rfl) ?_
  rfl

end
end AE
end Go.Proofs.YtblhndlmgibljaaDoor

/- AE, part 9: append beside its abstract form. -/
namespace Go.Proofs.YtblhndlmgibljaaDoor
open Go
namespace AE
variable [Sig]

section
variable {P : Program} {φ : Emb} {A A' : AS} {w : World}

def aAppend (P : Program) (A : AS) (ts : Array TypeId) (s x : Value) : Option (Value × AS) :=
  match ts[0]?, ts[1]? with
  | some t, some t2 => match pureRun P (underlying t), pureRun P (underlying t2) with
    | some (.slice elem), some d2 =>
      match pureRun P (sizeOf elem), pureRun P (typeInfo elem), pureRun P (zeroValue elem) with
      | some sz, some info, some z =>
        bif isIntD d2 || Nat.beq sz 0 || Nat.beq info.bytes 0 || !Nat.ble info.bytes 65536 || !Nat.beq z.cells.size sz then none else
          match aNews A sz x with
          | some (n, news) =>
            bif !Nat.ble n 524288 then none else
            match s with
            | .slice none 0 0 => bif Nat.beq n 0 then some (.slice none 0 0, A) else
                match A.push (.cells news) sz elem with
                | some (r, A1) => some (.slice (some ⟨r, 0, none⟩) n n, A1)
                | none => none
            | .slice (some ⟨b, off, none⟩) sl sc =>
              bif !Nat.ble sl 524288 || (Nat.beq b dead && !Nat.beq off 0) then none else
                bif Nat.ble (sl + n) sc then
                  match A.storeN b (off + sl * sz) news with
                  | some A1 => some (.slice (some ⟨b, off, none⟩) (sl + n) sc, A1)
                  | none => none
                else match A.bl.get b with
                  | none => bif Nat.beq sl 0 && Nat.beq sc 0 then
                      match A.push (.cells news) sz elem with
                      | some (r, A1) => some (.slice (some ⟨r, 0, none⟩) n n, A1)
                      | none => none
                    else none
                  | some k => match A.loadN b off (sl * sz) with
                    | some old =>
                      bif Nat.beq k.stride 0 then
                        match A.push (.cells (old ++ news)) sz elem with
                        | some (r, A1) => some (.slice (some ⟨r, 0, none⟩) (sl + n) (sl + n), A1)
                        | none => none
                      else bif Nat.beq k.stride sz then
                        match A.pushIn b (k.pos + off) sz elem (old ++ List.replicate (n * sz) poison) with
                        | some (r, A1) => match A1.storeN r (sl * sz) news with
                          | some A2 => some (.slice (some ⟨r, 0, none⟩) (sl + n) (sl + n), A2)
                          | none => none
                        | none => none
                      else none
                    | none => none
            | _ => none
          | none => none
      | _, _, _ => none
    | _, _ => none
  | _, _ => none

theorem rel_drawn (hr : Rel φ A w) (d : Nat) : Rel φ A { w with drawn := d } := ⟨hr.wf, hr.dom, hr.apart, hr.along, hr.imm⟩

theorem row_cells {old news : List Value} {old' new' rest : Array Value} (h1 : old'.size = old.length) (h2 : ∀ j, j < old.length → VRel φ (old.getD j undef) (old'.getD j undef)) (h3 : new'.size = news.length)
    (h4 : ∀ j, j < news.length → VRel φ (news.getD j undef) (new'.getD j undef)) : ∀ j, j < (old ++ news).length → VRel φ ((old ++ news).getD j undef) ((old' ++ new' ++ rest).getD j undef) := by
  intro j hj
  simp only [List.length_append] at hj
  simp only [List.getD_eq_getElem?_getD, Array.getD_eq_getD_getElem?, List.getElem?_append, Array.getElem?_append, Array.size_append] at h2 h4 ⊢
  by_cases hjo : j < old.length
  · rw [if_pos hjo, if_pos (by omega), if_pos (by omega)]
    exact h2 j hjo
  · rw [if_neg hjo, if_pos (by omega), if_neg (by omega), h1]
    exact h4 (j - old.length) (by omega)

theorem append_fresh (hr : Rel φ A w) {elem : TypeId} {sz sl n : Nat} {old news : List Value} {old' new' rest : Array Value} {r newCap : Nat} (hsz : 1 ≤ sz) (hp : A.push (.cells (old ++ news)) sz elem = some (r, A'))
    (h1 : old'.size = old.length) (h2 : ∀ j, j < old.length → VRel φ (old.getD j undef) (old'.getD j undef)) (h3 : new'.size = news.length) (h4 : ∀ j, j < news.length → VRel φ (news.getD j undef) (new'.getD j undef))
    (hol : old.length = sl * sz) (hnl : news.length = n * sz) (hcap : sl + n ≤ newCap) (hrest : rest.size = (newCap - (sl + n)) * sz) :
    ∃ φ' w', w' = { w with drawn := w.drawn + 1, heap := w.heap.push (.cells (old' ++ new' ++ rest) elem) } ∧
      VRel φ' (.slice (some ⟨r, 0, none⟩) (sl + n) (sl + n)) (.slice (some ⟨w.heap.size, 0, none⟩) (sl + n) newCap) ∧ Step φ A w φ' A' w' := by
  have hr1 := rel_drawn hr (w.drawn + 1)
  obtain ⟨φ', w', g1, g2, g3, g4⟩ := run_newRow hr1 (default : Program) (c' := old' ++ new' ++ rest) elem hp (by simp; omega) (fun h => absurd (show sz = 0 from h) (by omega)) (row_cells h1 h2 h3 h4)
  refine ⟨φ', w', g4, ?_, Step.trans hr (Step.drawnTo hr (w.drawn + 1)) g3⟩
  have hlim : (old' ++ new' ++ rest).size = newCap * sz := by
    simp only [Array.size_append, h1, h3, hol, hnl, hrest]
    rw [← Nat.add_mul, ← Nat.add_mul]
    congr 1; omega
  have := VRel.slg (φ := φ') (b := r) (o := 0) (sl + n) (sl + n) newCap g2 hsz hcap (by
    simp only [Nat.zero_add]
    rw [hlim]; exact Nat.le_refl _)
  simpa using this

theorem snd_append (hr : Rel φ A w) {ts : Array TypeId} {ty : TypeId} {s s' x x' v : Value} (hs : VRel φ s s') (hx : VRel φ x x') (h : aAppend P A ts s x = some (v, A')) : Snd (RV v) P φ A w (Builtin.append_ ts ty #[s', x']) A' := by
  unfold aAppend at h
  split at h
  · rename_i t t2 ht ht2
    split at h
    · rename_i elem d2 hu hu2
      split at h
      · rename_i sz info z hsz hi hz
        cases hc : (isIntD d2 || Nat.beq sz 0 || Nat.beq info.bytes 0 || !Nat.ble info.bytes 65536 || !Nat.beq z.cells.size sz) with
        | true => rw [hc] at h; cases h
        | false =>
          rw [hc, cond_false] at h
          simp only [Bool.or_eq_false_iff, Bool.not_eq_false'] at hc
          obtain ⟨⟨⟨⟨hd, c1⟩, c2⟩, c3⟩, c4⟩ := hc
          have hsz1 : 1 ≤ sz := by
            rcases Nat.eq_zero_or_pos sz with h0 | h0
            · subst h0; simp at c1
            · exact h0
          have hb0 : info.bytes ≠ 0 := by
            intro h0; rw [h0] at c2; simp at c2
          have hb : info.bytes ≤ 65536 := Nat.ble_eq.mp c3
          have hzc : z.cells.size = sz := Nat.eq_of_beq_eq_true c4
          cases hnews : aNews A sz x with
          | none => rw [hnews] at h; cases h
          | some q =>
            obtain ⟨n, news⟩ := q
            rw [hnews] at h
            simp only at h
            obtain ⟨hnl, new', hn1, hn2, hlenr, hfirst⟩ := news_run (P := P) hr hx hnews
            cases hnb : Nat.ble n 524288 with
            | false => rw [hnb] at h; cases h
            | true =>
              rw [hnb, Bool.not_true, cond_false] at h
              have hn := Nat.ble_eq.mp hnb
              have fresh : ∀ (sl : Nat) (old : List Value) (old' : Array Value) (base : Option Addr) (sc' r : Nat), sl ≤ 524288 → old.length = sl * sz → old'.size = old.length → (∀ j, j < old.length → VRel φ (old.getD j undef) (old'.getD j undef)) →
                  (∀ d, (Builtin.firstCells sz sl (.slice base sl sc')).run P { w with drawn := d } = .ok old' { w with drawn := d }) → sc' < sl + n → A.push (.cells (old ++ news)) sz elem = some (r, A') →
                  Snd (RV (.slice (some ⟨r, 0, none⟩) (sl + n) (sl + n))) P φ A w (Builtin.append_ ts ty #[.slice base sl sc', x']) A' := by
                intro sl old old' base sc' r hsl hol ho1 ho2 hold hfit hp
                obtain ⟨newCap, hcap, hrun⟩ := run_append_grows (ty := ty) ht ht2 hu hu2 hd hsz hi hz hb0 hb (by omega) (hlenr w.drawn) hfirst hold hfit
                obtain ⟨φ', w', e1, e2, e3⟩ := append_fresh hr hsz1 hp ho1 ho2 hn1 hn2 hol hnl hcap (rest := Builtin.zeroCells z.cells (newCap - (sl + n))) (by rw [zeroCells_size, hzc])
                subst e1
                exact ⟨φ', _, _, hrun, e2, e3⟩
              split at h
              · -- nil
                cases hs
                cases hn0 : Nat.beq n 0 with
                | true =>
                  rw [hn0, cond_true] at h
                  simp only [Option.some.injEq, Prod.mk.injEq] at h
                  obtain ⟨rfl, rfl⟩ := h
                  have hn0' : n = 0 := Nat.eq_of_beq_eq_true hn0
                  subst hn0'
                  exact ⟨φ, w, _, run_append_fits ht ht2 hu hu2 hd hsz (hlenr w.drawn) (hfirst w.drawn) (Nat.le_refl _) rfl, .slnil _ _, Step.refl hr⟩
                | false =>
                  rw [hn0, cond_false] at h
                  split at h
                  · rename_i r A1 hp
                    simp only [Option.some.injEq, Prod.mk.injEq] at h
                    obtain ⟨rfl, rfl⟩ := h
                    have hn0' : n ≠ 0 := fun e => by subst e; simp at hn0
                    have := fresh 0 [] #[] none 0 r (by omega) (by simp) rfl (fun j hj => absurd hj (by simp)) (fun d => rfl) (by omega) (by simpa using hp)
                    simpa using this
                  · cases h
              · rename_i b off sl sc
                cases hslb : Nat.ble sl 524288 with
                | false => rw [hslb] at h; cases h
                | true =>
                  rw [hslb, Bool.not_true, Bool.false_or] at h
                  cases hdo : (Nat.beq b dead && !Nat.beq off 0) with
                  | true => rw [hdo] at h; cases h
                  | false =>
                  rw [hdo, cond_false] at h
                  have hdz : b = dead → off = 0 := fun e => by
                    subst e
                    rw [Nat.beq_refl, Bool.true_and, Bool.not_eq_false'] at hdo
                    exact Nat.eq_of_beq_eq_true hdo
                  have hsl := Nat.ble_eq.mp hslb
                  cases hfit : Nat.ble (sl + n) sc with
                  | true =>
                    rw [hfit, cond_true] at h
                    have hfit' := Nat.ble_eq.mp hfit
                    split at h
                    · rename_i A1 hst
                      simp only [Option.some.injEq, Prod.mk.injEq] at h
                      obtain ⟨rfl, rfl⟩ := h
                      have room : ∀ (e : Em) (sc' : Nat), φ b = some e → sl + n ≤ sc' → ∃ w', Step φ A w φ A1 w' ∧ (Builtin.append_ ts ty #[.slice (some ⟨e.blk, e.sh + off, none⟩) sl sc', x']).run P w = .ok (.slice (some ⟨e.blk, e.sh + off, none⟩) (sl + n) sc') w' := by
                        intro e sc' he hle
                        obtain ⟨w', g1, g2⟩ := run_storeN P he news A A1 w (off + sl * sz) 0 new'.toList hr hst (by simpa using hn1) (fun j hj => by
                          have := hn2 j hj
                          simp only [Array.getD_eq_getD_getElem?] at this
                          simpa [List.getD_eq_getElem?_getD] using this)
                        refine ⟨w', g2, run_append_fits ht ht2 hu hu2 hd hsz (hlenr w.drawn) (hfirst w.drawn) hle ?_⟩
                        simp only [Addr.add_at]
                        rw [Nat.add_assoc]
                        exact g1
                      cases hs with
                      | slx _ _ he =>
                        obtain ⟨w', g1, g2⟩ := room _ _ he hfit'
                        exact ⟨φ, w', _, g2, .slx _ _ he, g1⟩
                      | slg _ _ c' he q1 q2 q3 =>
                        obtain ⟨w', g1, g2⟩ := room _ c' he (by omega)
                        exact ⟨φ, w', _, g2, .slg _ _ _ he q1 q2 q3, g1⟩
                      | slz a' hz0 =>
                        have hz1 := hz0 (hdz rfl)
                        subst hz1
                        have hn0 : n = 0 := by omega
                        subst hn0
                        have hnews0 : news = [] := by simpa using hnl
                        subst hnews0
                        simp only [AS.storeN, Option.some.injEq] at hst
                        subst hst
                        have hnew0 : new' = #[] := Array.eq_empty_of_size_eq_zero hn1
                        subst hnew0
                        exact ⟨φ, w, _, run_append_fits ht ht2 hu hu2 hd hsz (hlenr w.drawn) (hfirst w.drawn) (Nat.le_refl _) rfl, .slz _ hz0, Step.refl hr⟩
                    · cases h
                  | false =>
                    rw [hfit, cond_false] at h
                    have hfit' : sc < sl + n := by
                      rcases Nat.lt_or_ge sc (sl + n) with h1 | h1
                      · exact h1
                      · rw [Nat.ble_eq.mpr h1] at hfit; cases hfit
                    cases hk : A.bl.get b with
                    | none =>
                      rw [hk] at h
                      simp only at h
                      cases h00 : (Nat.beq sl 0 && Nat.beq sc 0) with
                      | false => rw [h00] at h; cases h
                      | true =>
                        rw [h00, cond_true] at h
                        simp only [Bool.and_eq_true] at h00
                        have e1 : sl = 0 := Nat.eq_of_beq_eq_true h00.1
                        have e2 : sc = 0 := Nat.eq_of_beq_eq_true h00.2
                        subst e1; subst e2
                        split at h
                        · rename_i r A1 hp
                          simp only [Option.some.injEq, Prod.mk.injEq] at h
                          obtain ⟨rfl, rfl⟩ := h
                          have nomap : ∀ e, φ b ≠ some e := fun e he => by
                            obtain ⟨k, hk', _⟩ := hr.dom b e he
                            rw [hk] at hk'; cases hk'
                          cases hs with
                          | slx _ _ he => exact absurd he (nomap _)
                          | slg _ _ c' he q1 q2 q3 => exact absurd he (nomap _)
                          | slz a' hz0 =>
                            have hz1 := hz0 (hdz rfl)
                            subst hz1
                            have := fresh 0 [] #[] (some a') 0 r (by omega) (by simp) rfl (fun j hj => absurd hj (by simp)) (fun d => by simp [Builtin.firstCells, loadCells, loadCellsFrom, Sem.run, pure]) (by omega) (by simpa using hp)
                            simpa using this
                        · cases h
                    | some k =>
                      rw [hk] at h
                      simp only at h
                      cases hold : A.loadN b off (sl * sz) with
                      | none => rw [hold] at h; cases h
                      | some old =>
                        rw [hold] at h
                        simp only at h
                        obtain ⟨hol, hjs⟩ := loadN_spec hold
                        have oldrun : ∀ (e : Em) (sc' : Nat), φ b = some e → ∃ old' : Array Value, old'.size = old.length ∧ (∀ j, j < old.length → VRel φ (old.getD j undef) (old'.getD j undef)) ∧
                            ∀ d, (Builtin.firstCells sz sl (.slice (some ⟨e.blk, e.sh + off, none⟩) sl sc')).run P { w with drawn := d } = .ok old' { w with drawn := d } := by
                          intro e sc' he
                          obtain ⟨vs', h1, h2, h3⟩ := run_loadN hr P hold he
                          exact ⟨vs', h2, h3, fun d => run_drawn_loadCells _ _ h1 d fun j hj => by
                            obtain ⟨v', g1, _⟩ := rel_load hr (hjs j hj) he
                            exact ⟨v', by rw [Addr.add_at, Nat.add_assoc]; exact g1⟩⟩
                        have zrun : ∀ (a' : Addr), sl = 0 → ∀ d, (Builtin.firstCells sz sl (.slice (some a') sl 0)).run P { w with drawn := d } = .ok #[] { w with drawn := d } := by
                          intro a' e d
                          subst e
                          simp [Builtin.firstCells, loadCells, loadCellsFrom, Sem.run, pure]
                        cases hst0 : Nat.beq k.stride 0 with
                        | true =>
                          rw [hst0, cond_true] at h
                          have hk0 : k.stride = 0 := Nat.eq_of_beq_eq_true hst0
                          split at h
                          · rename_i r A1 hp
                            simp only [Option.some.injEq, Prod.mk.injEq] at h
                            obtain ⟨rfl, rfl⟩ := h
                            cases hs with
                            | slx _ _ he =>
                              obtain ⟨old', o1, o2, o3⟩ := oldrun _ sc he
                              exact fresh sl old old' _ sc r hsl hol o1 o2 o3 hfit' hp
                            | slg _ _ c' he q1 q2 q3 =>
                              obtain ⟨k', hk', hst, _⟩ := hr.dom b _ he
                              rw [hk] at hk'; cases hk'
                              omega
                            | slz a' hz0 =>
                              have hz1 := hz0 (hdz rfl)
                              subst hz1
                              have hol0 : old = [] := by simpa using hol
                              subst hol0
                              exact fresh 0 [] #[] (some a') 0 r (by omega) (by simp) rfl (fun j hj => absurd hj (by simp)) (zrun a' rfl) (by omega) hp
                          · cases h
                        | false =>
                          rw [hst0, cond_false] at h
                          cases hst1 : Nat.beq k.stride sz with
                          | false => rw [hst1] at h; cases h
                          | true =>
                            rw [hst1, cond_true] at h
                            have hks : k.stride = sz := Nat.eq_of_beq_eq_true hst1
                            split at h
                            · rename_i r A1 hp
                              split at h
                              · rename_i A2 hsn
                                simp only [Option.some.injEq, Prod.mk.injEq] at h
                                obtain ⟨rfl, rfl⟩ := h
                                obtain ⟨_, _, _, hk2, _, hro, _, _, rfl, _, _, _, _, _⟩ := pushIn_spec hp hr.wf
                                have hlt : ∀ b e, φ b = some e → ∀ em, upd φ A.n em b = some e := fun b e hb em => by
                                  unfold upd; rw [if_neg (by have := hr.lt hb; omega)]; exact hb
                                have newrow : ∀ (base : Option Addr) (sc' : Nat) (old' : Array Value), old'.size = old.length → (∀ j, j < old.length → VRel φ (old.getD j undef) (old'.getD j undef)) →
                                    (∀ d, (Builtin.firstCells sz sl (.slice base sl sc')).run P { w with drawn := d } = .ok old' { w with drawn := d }) → sc' < sl + n →
                                    Snd (RV (.slice (some ⟨A.n, 0, none⟩) (sl + n) (sl + n))) P φ A w (Builtin.append_ ts ty #[.slice base sl sc', x']) A2 := by
                                  intro base sc' old' o1 o2 o3 hf
                                  obtain ⟨newCap, hcap, hrun⟩ := run_append_grows (ty := ty) ht ht2 hu hu2 hd hsz hi hz hb0 hb (by omega) (hlenr w.drawn) hfirst o3 hf
                                  have hrow : (old' ++ new' ++ Builtin.zeroCells z.cells (newCap - (sl + n))).size = newCap * sz := by
                                    simp only [Array.size_append, o1, hn1, hol, hnl, zeroCells_size, hzc]
                                    rw [← Nat.add_mul, ← Nat.add_mul]
                                    congr 1; omega
                                  have hr1 := rel_drawn hr (w.drawn + 1)
                                  have hcells := row_cells (rest := Builtin.zeroCells z.cells (newCap - (sl + n))) o1 o2 hn1 hn2
                                  have hle : (sl + n) * sz ≤ newCap * sz := Nat.mul_le_mul_right _ hcap
                                  have hsn2 : sl * sz + n * sz = (sl + n) * sz := (Nat.add_mul _ _ _).symm
                                  have st1 := step_pushIn (e := ⟨w.heap.size, 0, sz, newCap * sz⟩) hr1 hp rfl (.inl ⟨rfl, .cells (old' ++ new' ++ Builtin.zeroCells z.cells (newCap - (sl + n))) elem, rfl⟩) (fun k' hk' => by
                                    simp only [ORel]
                                    refine ⟨_, (0, 0), by simp, hrow.symm, ⟨by simp only [List.length_append, List.length_replicate, Nat.zero_add, hol, hrow]; omega, fun h => absurd (show sz = 0 from h) (by omega)⟩, fun j hj => ?_, fun _ i _ => by simp⟩
                                    simp only [List.length_append, List.length_replicate] at hj
                                    simp only [Nat.zero_add]
                                    by_cases hjo : j < old.length
                                    · have := (hcells j (by simp; omega)).mono fun b1 e1 hb1 => hlt b1 e1 hb1 ⟨w.heap.size, 0, sz, newCap * sz⟩
                                      rw [List.getD_eq_getElem?_getD, List.getElem?_append_left hjo] at this ⊢
                                      exact this
                                    · rw [List.getD_eq_getElem?_getD, List.getElem?_append_right (by omega), List.getElem?_replicate, if_pos (by omega)]
                                      exact .poison _)
                                  have st2 := step_idleN (e := ⟨w.heap.size, 0, sz, newCap * sz⟩) (by simp [upd]) news A1 A2 (sl * sz) st1.rel hsn (fun j hj => by
                                    have := (hcells (sl * sz + j) (by simp; omega)).mono fun b1 e1 hb1 => hlt b1 e1 hb1 ⟨w.heap.size, 0, sz, newCap * sz⟩
                                    rw [List.getD_eq_getElem?_getD, List.getElem?_append_right (by omega), hol, Nat.add_sub_cancel_left, ← List.getD_eq_getElem?_getD] at this
                                    refine ⟨_, ?_, this⟩
                                    simp only [World.cell?, Nat.zero_add]
                                    have hin : sl * sz + j < (old' ++ new' ++ Builtin.zeroCells z.cells (newCap - (sl + n))).size := by rw [hrow]; omega
                                    simp only [Array.getElem?_push_size, Option.isSome_none, Bool.false_eq_true, if_false, Array.getD_eq_getD_getElem?]
                                    rw [Array.getElem?_eq_getElem hin]
                                    rfl)
                                  refine ⟨_, _, _, hrun, ?_, Step.trans hr (Step.drawnTo hr (w.drawn + 1)) (Step.trans hr1 st1 st2)⟩
                                  have := VRel.slg (φ := upd φ A.n ⟨w.heap.size, 0, sz, newCap * sz⟩) (b := A.n) (o := 0) (e := ⟨w.heap.size, 0, sz, newCap * sz⟩) (sl + n) (sl + n) newCap (by simp [upd]) hsz1 hcap (by simp)
                                  simpa using this
                                cases hs with
                                | slx _ _ he =>
                                  obtain ⟨old', o1, o2, o3⟩ := oldrun _ sc he
                                  exact newrow _ _ old' o1 o2 o3 hfit'
                                | slz a' hz0 =>
                                  have hz1 := hz0 (hdz rfl)
                                  subst hz1
                                  have hol0 : old = [] := by simpa using hol
                                  subst hol0
                                  exact newrow (some a') 0 #[] rfl (fun j hj => absurd hj (by simp)) (zrun a' rfl) hfit'
                                | slg _ _ c' he q1 q2 q3 =>
                                  rename_i e
                                  obtain ⟨old', o1, o2, o3⟩ := oldrun _ c' he
                                  rcases Nat.lt_or_ge c' (sl + n) with hlt' | hge
                                  · exact newrow _ _ old' o1 o2 o3 hlt'
                                  · -- in place
                                    obtain ⟨k', hk', hest, horel⟩ := hr.dom b e he
                                    rw [hk] at hk'; cases hk'
                                    have hes : e.stride = sz := hest.trans hks
                                    have hsn2 : sl * sz + n * sz = (sl + n) * sz := (Nat.add_mul _ _ _).symm
                                    have hle : (sl + n) * sz ≤ c' * sz := Nat.mul_le_mul_right _ hge
                                    rw [hes] at q3
                                    have st1 := step_pushIn (e := ⟨e.blk, e.sh + off, sz, e.lim⟩) hr hp rfl (.inr ⟨rfl, e, k, he, hk, rfl, by simp only; omega⟩) (fun k' hk' => by
                                      rw [hk] at hk'; cases hk'
                                      obtain ⟨k2, c2, l2, g1, g2, g3, g4, _⟩ := pushIn_spec hp hr.wf
                                      rw [hk] at g1; cases g1
                                      have horel2 := horel
                                      unfold ORel at horel2
                                      simp only [g2] at horel2
                                      obtain ⟨c3, fr3, r1, r2, r3, r4, r5⟩ := horel2
                                      simp only [ORel]
                                      refine ⟨c3, fr3, by rw [← g4]; exact r1, r2, ⟨by simp only [List.length_append, List.length_replicate, hol]; omega, fun h => absurd (show sz = 0 from h) (by omega)⟩, fun j hj => ?_, fun _ => r5 g3⟩
                                      simp only [List.length_append, List.length_replicate] at hj
                                      by_cases hjo : j < old.length
                                      · rw [List.getD_eq_getElem?_getD, List.getElem?_append_left hjo, ← List.getD_eq_getElem?_getD]
                                        obtain ⟨v', q4, q5⟩ := rel_load hr (hjs j (by omega)) he
                                        simp only [World.cell?, r1, Option.isSome_none, Bool.false_eq_true, if_false] at q4
                                        rw [Array.getD_eq_getD_getElem?, Nat.add_assoc, q4]
                                        exact q5.mono fun b1 e1 hb1 => hlt b1 e1 hb1 _
                                      · rw [List.getD_eq_getElem?_getD, List.getElem?_append_right (by omega), List.getElem?_replicate, if_pos (by omega)]
                                        exact .poison _)
                                    obtain ⟨w', g1, g2⟩ := run_storeN P (e := ⟨e.blk, e.sh + off, sz, e.lim⟩) (by simp [upd]) news A1 A2 w (sl * sz) 0 new'.toList st1.rel hsn (by simpa using hn1) (fun j hj => by
                                      have := (hn2 j hj).mono fun b1 e1 hb1 => hlt b1 e1 hb1 ⟨e.blk, e.sh + off, sz, e.lim⟩
                                      simp only [Array.getD_eq_getD_getElem?] at this
                                      simpa [List.getD_eq_getElem?_getD] using this)
                                    refine ⟨_, w', _, run_append_fits ht ht2 hu hu2 hd hsz (hlenr w.drawn) (hfirst w.drawn) hge (w' := w') ?_, ?_, Step.trans hr st1 g2⟩
                                    · simp only [Addr.add_at]
                                      exact g1
                                    · have := VRel.slg (φ := upd φ A.n ⟨e.blk, e.sh + off, sz, e.lim⟩) (b := A.n) (o := 0) (e := ⟨e.blk, e.sh + off, sz, e.lim⟩) (sl + n) (sl + n) c' (by simp [upd]) hsz1 hge (by simp only [Nat.add_zero]; exact q3)
                                      simpa using this
                              · cases h
                            · cases h
                          
              · cases h
      · cases h
    · cases h
  · cases h

end
end AE
end Go.Proofs.YtblhndlmgibljaaDoor

/- AE, part 10: slices of slices, copy, make, lengths, conversions, comparisons with nil, interfaces. -/
namespace Go.Proofs.YtblhndlmgibljaaDoor
open Go
namespace AE
variable [Sig]

section
variable {P : Program} {φ : Emb} {A A' : AS} {w : World}

omit [Sig] in
theorem boundsPanic_pure {α : Type} (k : IntKind) (x y : Int) (c : BoundsCode) : pureRun P (boundsPanic k x y c : Sem α) = none := by
  unfold boundsPanic
  dsimp only
  split
  · rw [pureRun_bind]
    have : pureRun P (Functor.map (fun x => x == 1) (choose (.extern "runtime.boundsError.signed" 2))) = none := rfl
    rw [this]; rfl
  · rw [pureRun_bind]; rfl

omit [Sig] in
theorem sliceBound_pure {v : Value} {y : Nat} {c : BoundsCode} {r : Nat} (h : pureRun P (Instr.sliceBound v y c) = some r) : ∃ k i, v = .int k i ∧ 0 ≤ i ∧ i ≤ y ∧ r = i.toNat := by
  unfold Instr.sliceBound at h
  rw [pureRun_bind] at h
  cases v with
  | int k i =>
    simp only [asIntOf, pureRun_pure, Option.bind_some] at h
    split at h
    · rename_i hb
      simp only [pureRun_pure, Option.some.injEq] at h
      exact ⟨k, i, rfl, hb.1, hb.2, h.symm⟩
    · rw [boundsPanic_pure] at h; cases h
  | pointer a => cases a <;> cases h
  | _ => cases h

omit [Sig] in
theorem pure_sliceBound (k : IntKind) (i : Int) (y : Nat) (c : BoundsCode) (h0 : 0 ≤ i) (h1 : i ≤ y) : pureRun P (Instr.sliceBound (.int k i) y c) = some i.toNat := by
  unfold Instr.sliceBound
  rw [pureRun_bind]
  simp only [asIntOf, pureRun_pure, Option.bind_some]
  rw [if_pos ⟨h0, h1⟩]
  rfl

omit [Sig] in
theorem sliceBounds_mono {b : Bool} {len c c' l h m : Nat} {lo hi mx : Option Value} (hc : c ≤ c') (hb : pureRun P (Instr.sliceBounds b len c lo hi mx) = some (l, h, m)) :
    pureRun P (Instr.sliceBounds b len c' lo hi mx) = some (l, h, if mx.isSome then m else c') ∧ (mx = none → m = c) ∧ m ≤ c ∧ l ≤ h ∧ (mx.isSome = true → h ≤ m) := by
  have low : ∀ (y m0 m1 : Nat) (cd : BoundsCode) {l h m : Nat}, pureRun P (do
      let l ← match lo with
        | some v => Instr.sliceBound v y cd
        | none => pure 0
      pure (l, y, m0)) = some (l, h, m) → pureRun P (do
      let l ← match lo with
        | some v => Instr.sliceBound v y cd
        | none => pure 0
      pure (l, y, m1)) = some (l, h, m1) ∧ h = y ∧ m = m0 ∧ l ≤ y := by
    intro y m0 m1 cd l h m hl
    cases lo with
    | none =>
      simp only [pureRun_bind, pureRun_pure, Option.bind_some, Option.some.injEq, Prod.mk.injEq] at hl ⊢
      obtain ⟨rfl, rfl, rfl⟩ := hl
      simp
    | some v =>
      simp only [pureRun_bind] at hl ⊢
      cases hs : pureRun P (Instr.sliceBound v y cd) with
      | none => rw [hs] at hl; cases hl
      | some r =>
        rw [hs] at hl
        simp only [Option.bind_some, pureRun_pure, Option.some.injEq, Prod.mk.injEq] at hl ⊢
        obtain ⟨k, i, _, h0, h1, h2⟩ := sliceBound_pure hs
        obtain ⟨rfl, rfl, rfl⟩ := hl
        refine ⟨by simp, rfl, rfl, by omega⟩
  cases mx with
  | none =>
    cases hi with
    | none =>
      have e : ∀ c0, Instr.sliceBounds b len c0 lo none none = (do
          let l ← match lo with
            | some v => Instr.sliceBound v len (if (none : Option Value).isSome then .slice3C else .sliceB)
            | none => pure 0
          pure (l, len, c0)) := fun c0 => by unfold Instr.sliceBounds; cases lo <;> rfl
      rw [e] at hb ⊢
      obtain ⟨g1, g2, g3, g4⟩ := low len c c' _ hb
      subst g2; subst g3
      exact ⟨by simpa using g1, fun _ => rfl, Nat.le_refl _, g4, fun h => by cases h⟩
    | some vh =>
      have e : ∀ c0, Instr.sliceBounds b len c0 lo (some vh) none = (do
          let h ← Instr.sliceBound vh c0 (if b then .sliceAcap else .sliceAlen)
          let l ← match lo with
            | some v => Instr.sliceBound v h (if (none : Option Value).isSome then .slice3C else .sliceB)
            | none => pure 0
          pure (l, h, c0)) := fun c0 => by unfold Instr.sliceBounds; cases lo <;> rfl
      rw [e] at hb ⊢
      rw [pureRun_bind] at hb ⊢
      cases hs : pureRun P (Instr.sliceBound vh c (if b = true then .sliceAcap else .sliceAlen)) with
      | none => rw [hs] at hb; cases hb
      | some r =>
        rw [hs, Option.bind_some] at hb
        obtain ⟨k, i, rfl, h0, h1, rfl⟩ := sliceBound_pure hs
        rw [pure_sliceBound k i c' _ h0 (by omega), Option.bind_some]
        obtain ⟨g1, g2, g3, g4⟩ := low i.toNat c c' _ hb
        subst g2; subst g3
        exact ⟨by simpa using g1, fun _ => rfl, Nat.le_refl _, g4, fun h => by cases h⟩
  | some vm =>
    cases hi with
    | none =>
      exfalso
      have e : Instr.sliceBounds b len c lo none (some vm) = (do
          let m ← Instr.sliceBound vm c (if b then .slice3Acap else .slice3Alen)
          let h ← (stuck "Slice: max without high" : Sem Nat)
          let l ← match lo with
            | some v => Instr.sliceBound v h (if (some vm).isSome then .slice3C else .sliceB)
            | none => pure 0
          pure (l, h, m)) := by unfold Instr.sliceBounds; cases lo <;> rfl
      rw [e, pureRun_bind] at hb
      cases hs : pureRun P (Instr.sliceBound vm c (if b = true then .slice3Acap else .slice3Alen)) with
      | none => rw [hs] at hb; cases hb
      | some r => rw [hs] at hb; cases hb
    | some vh =>
      have e : ∀ c0, Instr.sliceBounds b len c0 lo (some vh) (some vm) = (do
          let m ← Instr.sliceBound vm c0 (if b then .slice3Acap else .slice3Alen)
          let h ← Instr.sliceBound vh m .slice3B
          let l ← match lo with
            | some v => Instr.sliceBound v h (if (some vm).isSome then .slice3C else .sliceB)
            | none => pure 0
          pure (l, h, m)) := fun c0 => by unfold Instr.sliceBounds; cases lo <;> rfl
      rw [e, pureRun_bind] at hb ⊢
      cases hs : pureRun P (Instr.sliceBound vm c (if b = true then .slice3Acap else .slice3Alen)) with
      | none => rw [hs] at hb; cases hb
      | some r =>
        rw [hs, Option.bind_some] at hb
        obtain ⟨k, i, rfl, h0, h1, rfl⟩ := sliceBound_pure hs
        rw [pure_sliceBound k i c' _ h0 (by omega), Option.bind_some]
        rw [pureRun_bind] at hb ⊢
        cases hs1 : pureRun P (Instr.sliceBound vh i.toNat .slice3B) with
        | none => rw [hs1] at hb; cases hb
        | some r1 =>
          rw [hs1, Option.bind_some] at hb
          rw [Option.bind_some]
          obtain ⟨k4, i4, _, q0, q1, q2⟩ := sliceBound_pure hs1
          obtain ⟨g1, g2, g3, g4⟩ := low r1 i.toNat i.toNat _ hb
          subst g2; subst g3
          refine ⟨by simpa using g1, fun h => by simp at h, by omega, g4, fun _ => by omega⟩

def aSlice (P : Program) (A : AS) (t : TypeId) (x : Value) (lo hi mx : Option Value) : Option Value :=
  match pureRun P (underlying t), x with
  | some (.array n elem), .pointer (some ⟨b, off, none⟩) =>
    match pureRun P (Instr.sliceBounds false n n lo hi mx), pureRun P (sizeOf elem) with
    | some (l, h, m), some sz => some (.slice (some ⟨b, if m = l then off else off + l * sz, none⟩) (h - l) (m - l))
    | _, _ => none
  | some (.slice elem), .slice (some ⟨b, off, none⟩) len cap =>
    match pureRun P (Instr.sliceBounds true len cap lo hi mx), pureRun P (sizeOf elem), A.bl.get b with
    | some (l, h, m), some sz, some k =>
      bif Nat.beq k.stride 0 || Nat.beq k.stride sz then
        match mx with
        | some _ => bif Nat.beq m l then some (.slice (some ⟨dead, 0, none⟩) 0 0) else some (.slice (some ⟨b, off + l * sz, none⟩) (h - l) (m - l))
        | none => bif Nat.ble h m then (bif Nat.beq m l then some (.slice (some ⟨dead, 1, none⟩) 0 0) else some (.slice (some ⟨b, off + l * sz, none⟩) (h - l) (m - l))) else none
      else none
    | some (_, h, m), some _, none => bif Nat.beq cap 0 && Nat.beq len 0 && Nat.ble h m then some (.slice (some ⟨b, off, none⟩) 0 0) else none
    | _, _, _ => none
  | _, _ => none

theorem snd_slice (hr : Rel φ A w) {t : TypeId} {x x' v : Value} {lo hi mx : Option Value} (hx : VRel φ x x') (h : aSlice P A t x lo hi mx = some v) : Snd (RV v) P φ A w (Instr.sliceAt t x' lo hi mx) A := by
  unfold aSlice at h
  split at h
  · rename_i n elem b off hu
    split at h
    · rename_i l hh m sz hb hsz
      simp only [Option.some.injEq] at h
      subst h
      cases hx with
      | ptr he =>
        rename_i e
        unfold Instr.sliceAt
        refine Snd.pre hu ?_
        simp only
        refine Snd.pre (a := (⟨e.blk, e.sh + off, none⟩ : Addr)) rfl ?_
        refine Snd.pre hb ?_
        simp only
        refine Snd.pre hsz ?_
        have := VRel.slx (φ := φ) (b := b) (o := if m = l then off else off + l * sz) (hh - l) (m - l) he
        refine Snd.ret hr ?_
        show VRel φ _ _
        by_cases hm : m = l
        · simp only [hm, if_true] at this ⊢
          exact this
        · simp only [hm, if_false, Addr.add_at] at this ⊢
          rw [← Nat.add_assoc] at this
          exact this
    · cases h
  · rename_i elem b off len cap hu
    have run : ∀ (a : Addr) (cap' l hh m sz : Nat), pureRun P (Instr.sliceBounds true len cap' lo hi mx) = some (l, hh, m) → pureRun P (sizeOf elem) = some sz →
        (Instr.sliceAt t (.slice (some a) len cap') lo hi mx).run P w = .ok (.slice (if m = l then some a else some (a.add (l * sz))) (hh - l) (m - l)) w := by
      intro a cap' l hh m sz hb hsz
      unfold Instr.sliceAt
      refine run_pre hu ?_
      simp only
      unfold Instr.slice
      refine run_pre hu ?_
      simp only
      refine run_pre hb ?_
      simp only
      refine run_pre hsz ?_
      rfl
    split at h
    · rename_i l hh m sz k hb hsz hk
      cases hst : (Nat.beq k.stride 0 || Nat.beq k.stride sz) with
      | false => rw [hst] at h; cases h
      | true =>
        rw [hst, cond_true] at h
        have hst' : k.stride = 0 ∨ k.stride = sz := by
          simp only [Bool.or_eq_true] at hst
          exact hst.imp Nat.eq_of_beq_eq_true Nat.eq_of_beq_eq_true
        split at h
        · rename_i vm
          have both : ∀ (e : Em) (cap' : Nat), φ b = some e → cap ≤ cap' → Snd (RV v) P φ A w (Instr.sliceAt t (.slice (some ⟨e.blk, e.sh + off, none⟩) len cap') lo hi (some vm)) A := by
            intro e cap' he hle
            obtain ⟨g1, g2, g3, g4, g5⟩ := sliceBounds_mono hle hb
            simp only [Option.isSome_some, if_true] at g1 g5
            have hr1 := run ⟨e.blk, e.sh + off, none⟩ cap' l hh m sz g1 hsz
            refine ⟨φ, w, _, hr1, ?_, Step.refl hr⟩
            cases hml : Nat.beq m l with
            | true =>
              rw [hml, cond_true, Option.some.injEq] at h
              subst h
              have hml' : m = l := Nat.eq_of_beq_eq_true hml
              have h1 : hh - l = 0 := by have := g5 trivial; omega
              have h2 : m - l = 0 := by omega
              rw [if_pos hml', h1, h2]
              exact .slz _ (fun _ => rfl)
            | false =>
              rw [hml, cond_false, Option.some.injEq] at h
              subst h
              have hml' : m ≠ l := fun e => by subst e; simp at hml
              rw [if_neg hml', Addr.add_at]
              have := VRel.slx (φ := φ) (b := b) (o := off + l * sz) (hh - l) (m - l) he
              rw [← Nat.add_assoc] at this
              exact this
          cases hx with
          | slx _ _ he => exact both _ _ he (Nat.le_refl _)
          | slg _ _ c' he q1 q2 q3 => exact both _ _ he q2
          | slz a' hz =>
            rename_i c'
            obtain ⟨f1, _⟩ := sliceBounds_mono (Nat.zero_le c') hb
            have hr1 := run a' c' l hh m sz (by simpa using f1) hsz
            obtain ⟨g1, g2, g3, g4, g5⟩ := sliceBounds_mono (Nat.le_refl _) hb
            have := g5 rfl
            have e1 : l = 0 := by omega
            have e2 : hh = 0 := by omega
            have e3 : m = 0 := by omega
            subst e1; subst e2; subst e3
            refine ⟨φ, w, _, hr1, ?_, Step.refl hr⟩
            simp only [Nat.beq_refl, cond_true, Option.some.injEq] at h
            subst h
            simp only [if_true, Nat.sub_self]
            exact .slz _ (fun _ => rfl)
        · -- without
          cases hhm : Nat.ble hh m with
          | false => rw [hhm] at h; cases h
          | true =>
          rw [hhm, cond_true] at h
          have hhm' := Nat.ble_eq.mp hhm
          obtain ⟨g1, g2, g3, g4, g5⟩ := sliceBounds_mono (Nat.le_refl _) hb
          have hmc := g2 rfl
          subst hmc
          have empty : ∀ (a' : Addr) (c' : Nat), m = l → ∀ x', (x' = some a' ∨ ∃ a'', x' = some a'') → VRel φ (.slice (some ⟨dead, 1, none⟩) 0 0) (.slice x' (hh - l) (c' - l)) := by
            intro a' c' hml x' hx'
            rw [show hh - l = 0 by omega]
            rcases hx' with rfl | ⟨a'', rfl⟩ <;> exact .slz _ (fun h => absurd h (by decide))
          have ifs : ∀ (p : Prop) [Decidable p] (a b : Addr), ∃ a'', (if p then some a else some b) = some a'' := fun p _ a b => by
            by_cases hp : p
            · exact ⟨a, if_pos hp⟩
            · exact ⟨b, if_neg hp⟩
          cases hml : Nat.beq m l with
          | true =>
            have hml' : m = l := Nat.eq_of_beq_eq_true hml
            rw [hml, cond_true, Option.some.injEq] at h
            subst h
            cases hx with
            | slx _ _ he =>
              rename_i e
              refine ⟨φ, w, _, run ⟨e.blk, e.sh + off, none⟩ m l hh m sz hb hsz, empty ⟨e.blk, e.sh + off, none⟩ m hml' _ (.inr (ifs _ _ _)), Step.refl hr⟩
            | slg _ _ c' he q1 q2 q3 =>
              rename_i e
              obtain ⟨f1, _⟩ := sliceBounds_mono q2 hb
              exact ⟨φ, w, _, run ⟨e.blk, e.sh + off, none⟩ c' l hh c' sz (by simpa using f1) hsz, empty ⟨e.blk, e.sh + off, none⟩ c' hml' _ (.inr (ifs _ _ _)), Step.refl hr⟩
            | slz a' hz =>
              rename_i c'
              obtain ⟨f1, _⟩ := sliceBounds_mono (Nat.zero_le c') hb
              exact ⟨φ, w, _, run a' c' l hh c' sz (by simpa using f1) hsz, empty a' c' hml' _ (.inr (ifs _ _ _)), Step.refl hr⟩
          | false =>
            have hml' : m ≠ l := fun e => by subst e; simp at hml
            rw [hml, cond_false, Option.some.injEq] at h
            subst h
            cases hx with
            | slx _ _ he =>
              rename_i e
              have hr1 := run ⟨e.blk, e.sh + off, none⟩ m l hh m sz hb hsz
              refine ⟨φ, w, _, hr1, ?_, Step.refl hr⟩
              rw [if_neg hml', Addr.add_at]
              have := VRel.slx (φ := φ) (b := b) (o := off + l * sz) (hh - l) (m - l) he
              rw [← Nat.add_assoc] at this
              exact this
            | slg _ _ c' he q1 q2 q3 =>
              rename_i e
              obtain ⟨f1, _⟩ := sliceBounds_mono q2 hb
              have hr1 := run ⟨e.blk, e.sh + off, none⟩ c' l hh c' sz (by simpa using f1) hsz
              refine ⟨φ, w, _, hr1, ?_, Step.refl hr⟩
              rw [if_neg (by omega), Addr.add_at]
              obtain ⟨k', hk', hest, _⟩ := hr.dom b e he
              rw [hk] at hk'; cases hk'
              have hes : e.stride = sz := by
                rcases hst' with h0 | h0
                · omega
                · exact hest.trans h0
              have hsum : l * sz + (c' - l) * sz = c' * sz := by rw [← Nat.add_mul]; congr 1; omega
              have := VRel.slg (φ := φ) (b := b) (o := off + l * sz) (hh - l) (m - l) (c' - l) he q1 (by omega) (by rw [hes] at q3 ⊢; omega)
              rw [← Nat.add_assoc] at this
              exact this
            | slz a' hz => omega
    · rename_i l hh m sz hb hsz hk
      cases h00 : (Nat.beq cap 0 && Nat.beq len 0 && Nat.ble hh m) with
      | false => rw [h00] at h; cases h
      | true =>
        rw [h00, cond_true, Option.some.injEq] at h
        subst h
        simp only [Bool.and_eq_true] at h00
        have e1 : cap = 0 := Nat.eq_of_beq_eq_true h00.1.1
        have e2 : len = 0 := Nat.eq_of_beq_eq_true h00.1.2
        have e3 : hh ≤ m := Nat.ble_eq.mp h00.2
        subst e1; subst e2
        have nomap : ∀ e, φ b ≠ some e := fun e he => by
          obtain ⟨k, hk', _⟩ := hr.dom b e he
          rw [hk] at hk'; cases hk'
        cases hx with
        | slx _ _ he => exact absurd he (nomap _)
        | slg _ _ c' he q1 q2 q3 => exact absurd he (nomap _)
        | slz a' hz =>
          rename_i c'
          obtain ⟨g1, g2, g3, g4, g5⟩ := sliceBounds_mono (Nat.zero_le c') hb
          have hr1 := run a' c' l hh _ sz g1 hsz
          refine ⟨φ, w, _, hr1, ?_, Step.refl hr⟩
          have hm : m = 0 := by omega
          have e1 : l = 0 := by omega
          have e2 : hh = 0 := by omega
          subst hm; subst e1; subst e2
          have hc : off = 0 → (if mx.isSome = true then 0 else c') - 0 = 0 := fun ho => by
            by_cases hmx : mx.isSome = true
            · simp [hmx]
            · simp [hmx, hz ho]
          show VRel φ _ (.slice (if (if mx.isSome = true then 0 else c') = 0 then some a' else some (a'.add (0 * sz))) 0 ((if mx.isSome = true then 0 else c') - 0))
          by_cases hz2 : (if mx.isSome = true then 0 else c') = 0
          · rw [if_pos hz2]; exact .slz _ hc
          · rw [if_neg hz2]; exact .slz _ hc
    · cases h
  · cases h

end
end AE
end Go.Proofs.YtblhndlmgibljaaDoor

/- AE, part 11: copy, make, lengths, conversions, comparisons with nil, interfaces. -/
namespace Go.Proofs.YtblhndlmgibljaaDoor
open Go
namespace AE
variable [Sig]

section
variable {P : Program} {φ : Emb} {A A' : AS} {w : World}

def aCopy (P : Program) (A : AS) (ts : Array TypeId) (dst src : Value) : Option (Value × AS) :=
  match ts[0]? with
  | some t => match pureRun P (underlying t) with
    | some (.slice elem) => match pureRun P (sizeOf elem) with
      | some sz => match dst, src with
        | .slice (some ⟨b, off, none⟩) dl _, .slice (some ⟨b2, off2, none⟩) sl _ =>
          match A.loadN b2 off2 (Nat.min sl dl * sz) with
          | some l => match A.storeN b off l with
            | some A1 => some (.int .i64 (Nat.min sl dl), A1)
            | none => none
          | none => none
        | .slice (some _) dl _, .slice none sl _ => some (.int .i64 (Nat.min sl dl), A)
        | _, _ => none
      | none => none
    | _ => none
  | none => none

theorem snd_copy (hr : Rel φ A w) {ts : Array TypeId} {ty : TypeId} {d d' s s' v : Value} (hd : VRel φ d d') (hs : VRel φ s s') (h : aCopy P A ts d s = some (v, A')) : Snd (RV v) P φ A w (Builtin.copy_ ts ty #[d', s']) A' := by
  unfold aCopy at h
  split at h
  · rename_i t ht
    split at h
    · rename_i elem hu
      split at h
      · rename_i sz hsz
        split at h
        · rename_i b off dl dc b2 off2 sl sc
          split at h
          · rename_i l hl
            split at h
            · rename_i A1 hst
              simp only [Option.some.injEq, Prod.mk.injEq] at h
              obtain ⟨rfl, rfl⟩ := h
              unfold Builtin.copy_
              simp only [ht, List.getElem?_toArray, List.getElem?_cons_zero, List.getElem?_cons_succ]
              refine Snd.pre hu ?_
              obtain ⟨hll, hlj⟩ := loadN_spec hl
              have main : ∀ (e e2 : Em) (sc' : Nat), φ b = some e → φ b2 = some e2 → Snd (RV (.int .i64 (Nat.min sl dl))) P φ A w (do
                  let n := Nat.min (← Builtin.lenOf (.slice (some ⟨e2.blk, e2.sh + off2, none⟩) sl sc')) dl
                  let cells ← Builtin.firstCells (← sizeOf elem) n (.slice (some ⟨e2.blk, e2.sh + off2, none⟩) sl sc')
                  storeCells ⟨e.blk, e.sh + off, none⟩ cells.toList
                  pure (goInt n)) A1 := by
                intro e e2 sc' he he2
                refine Snd.pre (a := sl) rfl ?_
                refine Snd.pre hsz ?_
                refine Snd.bind hr (snd_loadN hr hl he2) fun φ1 w1 cells hr1 hmono ⟨c1, c2⟩ => ?_
                obtain ⟨w', g1, g2⟩ := run_storeN P (hmono _ _ he) l A A1 w1 off 0 cells.toList hr1 hst (by simpa using c1) (fun j hj => by
                  have := c2 j hj
                  simp only [Array.getD_eq_getD_getElem?] at this
                  simpa [List.getD_eq_getElem?_getD] using this)
                refine ⟨φ1, w', _, run_then (by simpa using g1) rfl, .int _ _, g2⟩
              have zero : ∀ (a a' : Option Addr) (dc' sc' : Nat), Nat.min sl dl * sz = 0 → Nat.min sl dl = 0 → A1 = A := by
                intro a a' dc' sc' h0 _
                rw [h0] at hll
                have : l = [] := by simpa using hll
                subst this
                simpa [AS.storeN] using hst.symm
              cases hd with
              | slx _ _ he => cases hs with
                | slx _ _ he2 => exact main _ _ _ he he2
                | slg _ _ c' he2 _ _ _ => exact main _ _ _ he he2
                | slz a' _ =>
                  have := zero none none 0 0 (by simp) (by simp)
                  subst this
                  refine ⟨φ, w, .int .i64 0, ?_, by simpa using VRel.int .i64 0, Step.refl hr⟩
                  simp [pureRun_run hsz w, Builtin.firstCells, Builtin.lenOf, loadCells, loadCellsFrom, Sem.run, pure, storeCells, goInt]
              | slg _ _ c1 he _ _ _ => cases hs with
                | slx _ _ he2 => exact main _ _ _ he he2
                | slg _ _ c' he2 _ _ _ => exact main _ _ _ he he2
                | slz a' _ =>
                  have := zero none none 0 0 (by simp) (by simp)
                  subst this
                  refine ⟨φ, w, .int .i64 0, ?_, by simpa using VRel.int .i64 0, Step.refl hr⟩
                  simp [pureRun_run hsz w, Builtin.firstCells, Builtin.lenOf, loadCells, loadCellsFrom, Sem.run, pure, storeCells, goInt]
              | slz a' _ =>
                have := zero none none 0 0 (by simp) (by simp)
                subst this
                have hlen : ∀ s', VRel φ (.slice (some ⟨b2, off2, none⟩) sl sc) s' → ∃ a2 c2, s' = .slice (some a2) sl c2 := fun s' h => by
                  cases h with
                  | slx _ _ h => exact ⟨_, _, rfl⟩
                  | slg _ _ _ h _ _ _ => exact ⟨_, _, rfl⟩
                  | slz a' _ => exact ⟨_, _, rfl⟩
                obtain ⟨a2, c2, rfl⟩ := hlen s' hs
                refine ⟨φ, w, .int .i64 0, ?_, by simpa using VRel.int .i64 0, Step.refl hr⟩
                simp [pureRun_run hsz w, Builtin.firstCells, Builtin.lenOf, loadCells, loadCellsFrom, Sem.run, pure, storeCells, goInt]
            · cases h
          · cases h
        · rename_i a dl dc sl sc
          simp only [Option.some.injEq, Prod.mk.injEq] at h
          obtain ⟨rfl, rfl⟩ := h
          have hdl : ∃ a' c', d' = .slice (some a') dl c' := by
            cases hd with
            | slx _ _ h => exact ⟨_, _, rfl⟩
            | slg _ _ _ h _ _ _ => exact ⟨_, _, rfl⟩
            | slz a' _ => exact ⟨_, _, rfl⟩
          obtain ⟨a', c', rfl⟩ := hdl
          cases hs
          refine ⟨φ, w, .int .i64 (Nat.min sl dl), ?_, .int _ _, Step.refl hr⟩
          unfold Builtin.copy_
          simp only [ht, List.getElem?_toArray, List.getElem?_cons_zero, List.getElem?_cons_succ]
          refine run_pre hu ?_
          refine run_pre (a := sl) rfl ?_
          exact run_pre hsz rfl
        · cases h
      · cases h
    · cases h
  · cases h

def aMakeSlice (P : Program) (A : AS) (t : TypeId) (len cap : Value) : Option (Value × AS) :=
  match len, cap with
  | .int _ l, .int _ c =>
    bif decide (0 ≤ l) && decide (l ≤ c) && decide (c ≤ 1048576) then
      match pureRun P (underlying t) with
      | some (.slice elem) => match pureRun P (typeInfo elem), pureRun P (sizeOf elem), pureRun P (zeroValue elem) with
        | some info, some sz, some z =>
          bif Nat.ble info.bytes 65536 && plain z && (cellsOf z).isSome && Nat.blt 0 z.cells.size then
            match A.push (.cells ((Array.range (c.toNat * sz)).map (z.cells[· % z.cells.size]!)).toList) 0 elem with
            | some (r, A1) => some (.slice (some ⟨r, 0, none⟩) l.toNat c.toNat, A1)
            | none => none
          else none
        | _, _, _ => none
      | _ => none
    else none
  | _, _ => none

theorem snd_makeSlice (hr : Rel φ A w) {t : TypeId} {len cap v : Value} (h : aMakeSlice P A t len cap = some (v, A')) : Snd (RV v) P φ A w (Instr.makeSlice t len cap) A' := by
  unfold aMakeSlice at h
  split at h
  · rename_i k1 l k2 c
    cases hb : (decide (0 ≤ l) && decide (l ≤ c) && decide (c ≤ 1048576)) with
    | false => rw [hb] at h; cases h
    | true =>
      rw [hb, cond_true] at h
      simp only [Bool.and_eq_true, decide_eq_true_eq] at hb
      obtain ⟨⟨b1, b2⟩, b3⟩ := hb
      split at h
      · rename_i elem hu
        split at h
        · rename_i info sz z hi hsz hz
          cases hpz : (Nat.ble info.bytes 65536 && plain z && (cellsOf z).isSome && Nat.blt 0 z.cells.size) with
          | false => rw [hpz] at h; cases h
          | true =>
            rw [hpz, cond_true] at h
            simp only [Bool.and_eq_true] at hpz
            obtain ⟨⟨⟨q1, q2⟩, q3⟩, q4⟩ := hpz
            have hbytes := Nat.ble_eq.mp q1
            have hz0 := Nat.blt_eq.mp q4
            have hzc := plain_cells q2 q3 φ
            split at h
            · rename_i r A1 hp
              simp only [Option.some.injEq, Prod.mk.injEq] at h
              obtain ⟨rfl, rfl⟩ := h
              have wl : IntKind.i64.wrap l = l := IntWalk.i64_in _ (by omega)
              have wc : IntKind.i64.wrap c = c := IntWalk.i64_in _ (by omega)
              unfold Instr.makeSlice
              refine Snd.pre hu ?_
              simp only
              refine Snd.pre (a := l) rfl ?_
              refine Snd.pre (a := c) rfl ?_
              refine Snd.pre hi ?_
              have hmul : (info.bytes : Int) * c ≤ 2 ^ 48 := by
                have h1 : (info.bytes : Int) * c ≤ 65536 * 1048576 := by
                  have a1 : (info.bytes : Int) ≤ 65536 := by omega
                  exact Int.mul_le_mul a1 b3 (by omega) (by omega)
                have h2 : (65536 : Int) * 1048576 ≤ 2 ^ 48 := by decide
                omega
              have hno : (decide (c < 0) || decide ((info.bytes : Int) * c > 2 ^ 48) || decide (l < 0) || decide (l > c)) = false := by
                simp only [Bool.or_eq_false_iff, decide_eq_false_iff_not]
                omega
              simp only [wl, wc]
              rw [if_neg (by rw [hno]; simp)]
              refine Snd.pre (a := ()) (by unfold askRoom; split <;> rfl) ?_
              refine Snd.pre hsz ?_
              have hsame : ∀ j, j < ((Array.range (c.toNat * sz)).map (z.cells[· % z.cells.size]!)).size → VRel φ (((Array.range (c.toNat * sz)).map (z.cells[· % z.cells.size]!)).getD j undef) (((Array.range (c.toNat * sz)).map (z.cells[· % z.cells.size]!)).getD j undef) := by
                intro j hj
                simp at hj
                have hm := Nat.mod_lt j hz0
                have := hzc (j % z.cells.size) hm
                simp only [Array.getD_eq_getD_getElem?] at this ⊢
                simpa [hj, hm, getElem!_pos] using this
              have fin : Snd (RV (.slice (some ⟨r, 0, none⟩) l.toNat c.toNat)) P φ A w (do
                  let a ← newRow elem ((Array.range (c.toNat * sz)).map (z.cells[· % z.cells.size]!))
                  pure (.slice (some a) l.toNat c.toNat)) A1 := by
                obtain ⟨φ', w', g1, g2, g3, _⟩ := run_newRow hr P elem hp (c' := (Array.range (c.toNat * sz)).map (z.cells[· % z.cells.size]!)) (by simp) (fun _ => by simp) (fun j hj => by
                  have := hsame j (by simpa using hj)
                  simp only [Array.getD_eq_getD_getElem?] at this
                  simp only [List.getD_eq_getElem?_getD, Array.getElem?_toList, Array.getD_eq_getD_getElem?]
                  exact this)
                refine ⟨φ', w', _, run_then g1 rfl, ?_, g3⟩
                have := VRel.slx (φ := φ') (b := r) (o := 0) l.toNat c.toNat g2
                simpa using this
              by_cases hn : c.toNat * sz = 0
              · simp only [hn, if_true] at fin ⊢
                refine Snd.pre (a := #[]) rfl ?_
                have e0 : ∀ f : Nat → Value, (Array.range 0).map f = #[] := fun f => by simp
                rw [e0] at fin ⊢
                exact fin
              · simp only [hn, if_false]
                refine Snd.pre hz ?_
                refine Snd.pre (a := z.cells) rfl ?_
                exact fin
            · cases h
        · cases h
      · cases h
  · cases h

def aLen (P : Program) (A : AS) (ts : Array TypeId) (x : Value) : Option Value :=
  match ts[0]? with
  | some t => match pureRun P (underlying t), x with
    | some (.slice _), .slice _ n _ => some (.int .i64 n)
    | some (.map _ _), .map none => some (.int .i64 0)
    | some (.map _ _), .map (some b) => match A.bl.get b with
      | some { obj := .map es _, .. } => some (.int .i64 es.length)
      | _ => none
    | some (.array n _), _ => some (.int .i64 n)
    | _, _ => none
  | none => none

omit [Sig] in
theorem run_getObj {o : Obj} {r : Nat} (h : w.heap[r]? = some o) (hc : ∀ c t f, o ≠ .cells c t f) : (getObj r).run P w = .ok o w := by
  unfold getObj
  simp only [Sem.run, h]

theorem snd_len (hr : Rel φ A w) {ts : Array TypeId} {ty : TypeId} {x x' v : Value} (hx : VRel φ x x') (h : aLen P A ts x = some v) : Snd (RV v) P φ A w (Builtin.len_ ts ty #[x']) A := by
  unfold aLen at h
  split at h
  · rename_i t ht
    unfold Builtin.len_
    simp only [ht, List.getElem?_toArray, List.getElem?_cons_zero]
    split at h
    · rename_i e a n c hu
      simp only [Option.some.injEq] at h
      subst h
      refine Snd.pre hu ?_
      have : ∃ a2 c2, x' = .slice a2 n c2 := by cases hx <;> exact ⟨_, _, rfl⟩
      obtain ⟨a2, c2, rfl⟩ := this
      exact Snd.ret hr (.int _ _)
    · rename_i k e hu
      simp only [Option.some.injEq] at h
      subst h
      refine Snd.pre hu ?_
      cases hx
      exact Snd.ret hr (.int _ _)
    · rename_i k e b hu
      split at h
      · rename_i es cl fam pos st ro ty' hb
        simp only [Option.some.injEq] at h
        subst h
        refine Snd.pre hu ?_
        cases hx with
        | map he =>
          obtain ⟨kk, hk, _, ho⟩ := hr.dom b _ he
          rw [hb] at hk; cases hk
          simp only [ORel] at ho
          obtain ⟨es', h1, h2, _⟩ := ho
          refine ⟨φ, w, .int .i64 es.length, run_then (run_getObj h1 (by simp)) ?_, .int _ _, Step.refl hr⟩
          simp only [goInt, h2]
          rfl
      · cases h
    · rename_i n e hu
      simp only [Option.some.injEq] at h
      subst h
      refine Snd.pre hu ?_
      exact Snd.ret hr (.int _ _)
    · cases h
  · cases h

end
end AE
end Go.Proofs.YtblhndlmgibljaaDoor

/- AE, part 12: bytes and strings, comparisons with nil, interfaces, function values, maps. -/
namespace Go.Proofs.YtblhndlmgibljaaDoor
open Go
namespace AE
variable [Sig]

section
variable {P : Program} {φ : Emb} {A A' : AS} {w : World}

/- BYTES TO STRING -/

def b2sFrom (cells : Array Value) : Sem Value := do
  let mut s := ByteArray.empty
  for c in cells do
    let .int .u8 n := c | stuck "bytesToString: byte expected"
    s := s.push (UInt8.ofNat n.toNat)
  pure (.string s)

omit [Sig] in
theorem b2s_eq (a : Addr) (len c : Nat) : Conv.bytesToString (.slice (some a) len c) = loadCells a len >>= b2sFrom := rfl

def aB2S (P : Program) (A : AS) : Value → Option Value
  | .slice none _ _ => some (.string .empty)
  | .slice (some ⟨b, off, none⟩) n _ => bif Nat.beq n 0 then some (.string .empty) else match A.loadN b off n with
    | some l => bif plainL l then match pureRun P (b2sFrom ⟨l⟩) with
      | some (.string s) => some (.string s)
      | _ => none
      else none
    | none => none
  | _ => none

theorem snd_b2s (hr : Rel φ A w) {x x' v : Value} (hx : VRel φ x x') (h : aB2S P A x = some v) : Snd (RV v) P φ A w (Conv.bytesToString x') A := by
  unfold aB2S at h
  split at h
  · simp only [Option.some.injEq] at h
    subst h
    cases hx
    exact Snd.ret hr (.string _)
  · rename_i b off n c
    have hempty : ∀ (a : Addr) (c : Nat), (Conv.bytesToString (.slice (some a) 0 c)).run P w = .ok (.string .empty) w := fun a c => by
      rw [b2s_eq]
      simp [loadCells, loadCellsFrom, b2sFrom, Sem.run, pure]
    have main : ∀ (e : Em) (c' : Nat), φ b = some e → Snd (RV v) P φ A w (Conv.bytesToString (.slice (some ⟨e.blk, e.sh + off, none⟩) n c')) A := by
      intro e c' he
      cases hn : Nat.beq n 0 with
      | true =>
        rw [hn, cond_true, Option.some.injEq] at h
        subst h
        have : n = 0 := Nat.eq_of_beq_eq_true hn
        subst this
        exact ⟨φ, w, _, hempty _ _, .string _, Step.refl hr⟩
      | false =>
        rw [hn, cond_false] at h
        split at h
        · rename_i l hl
          cases hp : plainL l with
          | false => rw [hp] at h; cases h
          | true =>
            rw [hp, cond_true] at h
            split at h
            · rename_i s hs
              simp only [Option.some.injEq] at h
              subst h
              rw [b2s_eq]
              obtain ⟨vs', h1, h2, h3⟩ := run_loadN hr P hl he
              have : vs' = ⟨l⟩ := by
                obtain ⟨l'⟩ := vs'
                have := VRel.eq_of_plainL l l' hp (by simpa using h2.symm) (fun i hi => by simpa using h3 i hi)
                rw [this]
              subst this
              exact ⟨φ, w, _, run_then h1 (pureRun_run hs w), .string _, Step.refl hr⟩
            · cases h
        · cases h
    cases hx with
    | slx _ _ he => exact main _ _ he
    | slg _ _ c' he _ _ _ => exact main _ _ he
    | slz a' _ =>
      rw [Nat.beq_refl, cond_true, Option.some.injEq] at h
      subst h
      exact ⟨φ, w, _, hempty _ _, .string _, Step.refl hr⟩
  · cases h

def aS2B (A : AS) (elem : TypeId) (s : ByteArray) : Option (Value × AS) :=
  match A.push (.cells (s.data.toList.map fun b => .int .u8 b.toNat)) 1 elem with
  | some (r, A1) => some (.slice (some ⟨r, 0, none⟩) s.size s.size, A1)
  | none => none

theorem snd_s2b (hr : Rel φ A w) {elem : TypeId} {s : ByteArray} {v : Value} (h : aS2B A elem s = some (v, A')) : Snd (RV v) P φ A w (Conv.stringToBytes elem s) A' := by
  unfold aS2B at h
  split at h
  · rename_i r A1 hp
    simp only [Option.some.injEq, Prod.mk.injEq] at h
    obtain ⟨rfl, rfl⟩ := h
    unfold Conv.stringToBytes
    let cap := (Question.appendCap s.size 0 elem).cut (w.tape w.drawn (.appendCap s.size 0 elem))
    have hcap : s.size ≤ cap := by simp [cap, Question.cut]
    let row : Array Value := (s.data.map fun b => Value.int .u8 b.toNat) ++ Array.replicate (cap - s.size) (.int .u8 0)
    have hrow : row.size = cap := by
      simp only [row, Array.size_append, Array.size_map, Array.size_replicate]
      have : s.data.size = s.size := rfl
      omega
    have hr1 := rel_drawn hr (w.drawn + 1)
    have hlr := (hr1.wf.push hp).2.1
    have st := step_push (o' := .cells row elem (cap, cap + 1)) (e := ⟨w.heap.size, 0, 1, cap⟩) hr1 hp rfl rfl (by
      simp only [ORel]
      refine ⟨row, (cap, cap + 1), by simp, hrow.symm, ⟨by simp only [List.length_map, Nat.zero_add, Array.length_toList]; rw [hrow]; exact hcap, fun h => absurd h (by decide)⟩, fun j hj => ?_, fun _ i hi => by rw [hrow] at hi; simp; omega⟩
      simp only [List.length_map, Array.length_toList] at hj
      simp only [List.getD_eq_getElem?_getD, Array.getD_eq_getD_getElem?, Nat.zero_add, row]
      rw [Array.getElem?_append_left (by simpa using hj)]
      simp only [List.getElem?_map, Array.getElem?_toList, Array.getElem?_map, Array.getElem?_eq_getElem hj, Option.map_some, Option.getD_some]
      exact .int _ _)
    refine ⟨_, _, .slice (some ⟨w.heap.size, 0, none⟩) s.size cap, ?_, ?_, Step.trans hr (Step.drawnTo hr (w.drawn + 1)) st⟩
    · refine run_then (w1 := { w with drawn := w.drawn + 1 }) (a := cap) (by simp [choose, Sem.run, Question.forced, cap]) ?_
      refine run_then (a := (⟨w.heap.size, 0, none⟩ : Addr)) (by simp only [newRow, newObj]; rfl) ?_
      have hsh : ({ w with drawn := w.drawn + 1, heap := w.heap.push (.cells row elem) } : World).shape? w.heap.size = some (elem, cap) := by
        simp [World.shape?, hrow]
      refine run_then (w1 := { w with drawn := w.drawn + 1, heap := w.heap.push (.cells row elem (cap, cap + 1)) }) (a := ()) ?_ rfl
      unfold markStringish
      refine run_then (a := some (elem, cap)) (by simp only [shape, Sem.run]; exact congrArg (Result.ok · _) hsh) ?_
      simp only [freeze, Sem.run, World.freeze]
      rw [if_neg (by omega)]
      refine congrArg (Result.ok ()) ?_
      simp only [World.mk.injEq, and_true, true_and]
      apply Array.ext_getElem?
      intro i
      rw [Array.getElem?_modify]
      split
      · rename_i hi
        subst hi
        simp [row]
      · rename_i hi
        rw [Array.getElem?_push, Array.getElem?_push]
        rw [if_neg (Ne.symm hi), if_neg (Ne.symm hi)]
    · subst hlr
      have := VRel.slg (φ := upd φ A.n ⟨w.heap.size, 0, 1, cap⟩) (b := A.n) (o := 0) (e := ⟨w.heap.size, 0, 1, cap⟩) s.size s.size cap (by simp [upd]) (Nat.le_refl _) hcap (by simp)
      simpa using this
  · cases h

/- COMPARISONS -/

def aSame (P : Program) (t : TypeId) (x y : Value) : Option Bool :=
  match pureRun P (underlying t), x, y with
  | some (.pointer _), .pointer (some _), .pointer none => some false
  | some (.pointer _), .pointer none, .pointer (some _) => some false
  | some (.pointer e), .pointer (some ⟨b, o, none⟩), .pointer (some ⟨b', o', none⟩) => match pureRun P (sizeOf e) with
    | some n => bif Nat.beq b b' && !Nat.beq n 0 then some (Nat.beq o o') else none
    | none => none
  | some (.slice _), .slice (some _) _ _, .slice none _ _ => some false
  | some (.slice _), .slice none _ _, .slice (some _) _ _ => some false
  | some (.map _ _), .map (some _), .map none => some false
  | some (.map _ _), .map none, .map (some _) => some false
  | some (.interface _), .iface _ _, .nilIface => some false
  | some (.interface _), .nilIface, .iface _ _ => some false
  | some (.func _ _ _), .func _ _ _, .nilFunc => some false
  | some (.func _ _ _), .nilFunc, .func _ _ _ => some false
  | _, _, _ => none

theorem same_run {t : TypeId} {x x' y y' : Value} {r : Bool} (hx : VRel φ x x') (hy : VRel φ y y') (h : aSame P t x y = some r) : (Op.equal t x' y').run P w = .ok r w ∧ ∀ op (o1 o2 : Operand), (eqGuard op t o1 o2 x' y').run P w = .ok () w := by
  unfold aSame at h
  have guard : ∀ (x' y' : Value), (¬ (x' = .nilIface ∧ y' = .nilIface)) → (¬ ∃ a b, x' = .agg a ∧ y' = .agg b) → ∀ op (o1 o2 : Operand), (eqGuard op t o1 o2 x' y').run P w = .ok () w := by
    intro x' y' h1 h2 op o1 o2
    unfold eqGuard
    by_cases hop : op = .eql ∨ op = .neq
    · cases x' <;> cases y' <;> rcases hop with rfl | rfl <;> first | rfl | exact absurd ⟨rfl, rfl⟩ h1 | exact absurd ⟨_, _, rfl, rfl⟩ h2
    · cases op <;> first | rfl | exact absurd (.inl rfl) hop | exact absurd (.inr rfl) hop
  split at h
  all_goals try (cases h; done)
  all_goals rename_i hu
  · simp only [Option.some.injEq] at h
    subst h
    cases hx with
    | ptr he => cases hy; exact ⟨by unfold Op.equal Op.maxDepth Op.equalIn; exact run_pre hu rfl, guard _ _ (by simp) (by simp)⟩
  · simp only [Option.some.injEq] at h
    subst h
    cases hy with
    | ptr he => cases hx; exact ⟨by unfold Op.equal Op.maxDepth Op.equalIn; exact run_pre hu rfl, guard _ _ (by simp) (by simp)⟩
  · split at h
    · rename_i b o b' o' _x n hn
      cases hb : (Nat.beq b b' && !Nat.beq n 0) with
      | false => rw [hb] at h; cases h
      | true =>
        rw [hb, cond_true, Option.some.injEq] at h
        subst h
        simp only [Bool.and_eq_true, Bool.not_eq_true'] at hb
        have hbb : b = b' := Nat.eq_of_beq_eq_true hb.1
        subst hbb
        have hn0 : n ≠ 0 := fun e => by subst e; simp at hb
        cases hx with
        | ptr he => cases hy with
          | ptr he2 =>
            rw [he] at he2; cases he2
            refine ⟨?_, guard _ _ (by simp) (by simp)⟩
            unfold Op.equal Op.maxDepth Op.equalIn
            refine run_pre hu ?_
            simp only
            refine run_pre hn ?_
            rw [if_pos hn0]
            unfold sameAddr
            simp only [beq_self_eq_true, if_true]
            show Result.ok _ w = Result.ok _ w
            congr 1
            by_cases hoo : o = o'
            · subst hoo; simp
            · have h1 : Nat.beq o o' = false := by
                cases hh : Nat.beq o o' with
                | false => rfl
                | true => exact absurd (Nat.eq_of_beq_eq_true hh) hoo
              rw [h1]
              simp [hoo]
    · cases h
  all_goals simp only [Option.some.injEq] at h
  all_goals subst h
  all_goals cases hx <;> cases hy <;> exact ⟨by unfold Op.equal Op.maxDepth Op.equalIn; exact run_pre hu rfl, guard _ _ (by simp) (by simp)⟩

def aBinOp (P : Program) (op : BinOp) (t : TypeId) (x y : Value) : Option Value :=
  match op with
  | .eql => (aSame P t x y).map .bool
  | .neq => (aSame P t x y).map fun b => .bool !b
  | _ => none

theorem snd_binOp (hr : Rel φ A w) {op : BinOp} {t : TypeId} {o1 o2 : Operand} {x x' y y' v : Value} (hx : VRel φ x x') (hy : VRel φ y y') (h : aBinOp P op t x y = some v) : Snd (RV v) P φ A w (do eqGuard op t o1 o2 x' y'; binOp op t x' y') A := by
  unfold aBinOp at h
  have shapes : ∀ r, aSame P t x y = some r → (binOp .eql t x' y' = do pure (.bool (← Op.equal t x' y'))) ∧ (binOp .neq t x' y' = do pure (.bool (!(← Op.equal t x' y')))) := by
    intro r hs
    unfold aSame at hs
    split at hs
    all_goals try (cases hs; done)
    all_goals cases hx <;> cases hy <;> exact ⟨rfl, rfl⟩
  split at h
  · obtain ⟨r, hs, rfl⟩ := Option.map_eq_some_iff.1 h
    obtain ⟨h1, h2⟩ := same_run (P := P) (w := w) hx hy hs
    refine ⟨φ, w, .bool r, run_then (h2 _ _ _) ?_, .bool _, Step.refl hr⟩
    rw [(shapes r hs).1]
    exact run_then h1 rfl
  · obtain ⟨r, hs, rfl⟩ := Option.map_eq_some_iff.1 h
    obtain ⟨h1, h2⟩ := same_run (P := P) (w := w) hx hy hs
    refine ⟨φ, w, .bool !r, run_then (h2 _ _ _) ?_, .bool _, Step.refl hr⟩
    rw [(shapes r hs).2]
    exact run_then h1 rfl
  · cases h

/- INTERFACES -/

def isIfaceD : TypeDesc → Bool
  | .interface _ => true
  | _ => false

def aMakeIface (P : Program) (t : TypeId) (x : Value) : Option Value :=
  match pureRun P (underlying t) with
  | some d => bif isIfaceD d then none else some (.iface t x)
  | none => none

theorem snd_makeIface (hr : Rel φ A w) {t : TypeId} {x x' v : Value} (hx : VRel φ x x') (h : aMakeIface P t x = some v) : Snd (RV v) P φ A w (Instr.makeInterface t x') A := by
  unfold aMakeIface at h
  split at h
  · rename_i d hu
    cases hd : isIfaceD d with
    | true => rw [hd] at h; cases h
    | false =>
      rw [hd, cond_false, Option.some.injEq] at h
      subst h
      unfold Instr.makeInterface
      refine Snd.pre hu ?_
      cases d <;> first | (cases hd; done) | exact Snd.ret hr (.iface _ hx)
  · cases h

def aAssert (P : Program) (x : Value) (asserted : TypeId) (ok : Bool) : Option Value :=
  match pureRun P (underlying asserted), x with
  | some (.interface want), .iface t _ => match pureRun P (typeInfo t) with
    | some info => match Instr.missingMethod want info.methods with
      | none => some (if ok then .tuple #[x, .bool true] else x)
      | some _ => none
    | none => none
  | some d, .iface t v => bif isIfaceD d then none else
      if t = asserted then some (if ok then .tuple #[v, .bool true] else v) else
        bif ok then match pureRun P (zeroValue asserted) with
          | some z => bif plain z then some (.tuple #[z, .bool false]) else none
          | none => none
        else none
  | _, _ => none

theorem rel_pair {a a' : Value} (h : VRel φ a a') (b : Bool) : VRel φ (.tuple #[a, .bool b]) (.tuple #[a', .bool b]) := .tuple _ _ rfl fun i hi => by
  have : i = 0 ∨ i = 1 := by simp at hi; omega
  rcases this with rfl | rfl
  · simpa using h
  · simpa using VRel.bool b

theorem snd_assert (hr : Rel φ A w) {x x' v : Value} {xt asserted : TypeId} {ok : Bool} (hx : VRel φ x x') (h : aAssert P x asserted ok = some v) : Snd (RV v) P φ A w (Instr.typeAssert x' xt asserted ok) A := by
  unfold aAssert at h
  split at h
  · rename_i want t u hu
    split at h
    · rename_i info hi
      split at h
      · rename_i hm
        simp only [Option.some.injEq] at h
        subst h
        cases hx with
        | iface t hv =>
          unfold Instr.typeAssert
          refine Snd.pre hu ?_
          simp only
          refine Snd.pre hi ?_
          simp only [hm]
          refine Snd.ret hr ?_
          cases ok
          · exact .iface t hv
          · exact rel_pair (.iface t hv) true
      · cases h
    · cases h
  · rename_i d t u _ hu
    cases hd : isIfaceD d with
    | true => rw [hd] at h; cases h
    | false =>
      rw [hd, cond_false] at h
      cases hx with
      | iface t hv =>
        unfold Instr.typeAssert
        refine Snd.pre hu ?_
        by_cases ht : t = asserted
        · rw [if_pos ht, Option.some.injEq] at h
          subst h
          cases d <;> first
            | (cases hd; done)
            | (simp only [if_pos ht]
               refine Snd.ret hr ?_
               cases ok
               · exact hv
               · exact rel_pair hv true)
        · rw [if_neg ht] at h
          cases ok with
          | false => cases h
          | true =>
            rw [cond_true] at h
            split at h
            · rename_i z hz
              cases hp : plain z with
              | false => rw [hp] at h; cases h
              | true =>
                rw [hp, cond_true, Option.some.injEq] at h
                subst h
                cases d <;> first
                  | (cases hd; done)
                  | (simp only [if_neg ht, if_true]
                     refine Snd.pre hz ?_
                     exact Snd.ret hr (rel_pair (VRel.of_plain φ z hp) false))
            · cases h
  · cases h

end
end AE
end Go.Proofs.YtblhndlmgibljaaDoor

/- AE, part U: unsafe.Pointer and back, a row of bytes as a string, rows that are not zeroed. -/
namespace Go.Proofs.YtblhndlmgibljaaDoor
open Go
namespace AE
variable [Sig]

class Lib (P : Program) where
  same : List FuncId
  sameOk : ∀ f ∈ same, ∀ x : Value, pureRun P (callFunc f #[x]) = some (.value x)
  nozero : List (FuncId × TypeId)
  nozeroOk : ∀ p ∈ nozero, ∃ ps rs t, (∀ n w, (callFunc p.1 #[.int .i64 n]).run P w = (do pure (Next.value (← Extern.BytealgMakeNoZero.makeNoZero ps rs #[.int .i64 n])) : Sem Next).run P w) ∧ rs[0]? = some t ∧ pureRun P (underlying t) = some (.slice p.2)

section
variable {P : Program} {φ : Emb} {A A' : AS} {w : World}

omit [Sig] in
theorem run_shape {r : Nat} {c : Array Value} {t : TypeId} {f : Nat × Nat} (h : w.heap[r]? = some (.cells c t f)) : (shape r).run P w = .ok (some (t, c.size)) w := by
  simp only [shape, Sem.run, World.shape?, h]

omit [Sig] in
theorem run_seenAt {a : Addr} {c : Array Value} {t : TypeId} {f : Nat × Nat} (h : w.heap[a.block]? = some (.cells c t f)) : (Conv.seenAt a).run P w = .ok a w := by
  unfold Conv.seenAt viewAt
  refine run_then (a := none) (run_then (run_shape h) rfl) rfl

def aToUnsafe (P : Program) (A : AS) (src dst : TypeId) (x : Value) : Option Value :=
  match pureRun P (underlying src), pureRun P (underlying dst), x with
  | some (.pointer t), some .unsafePointer, .pointer (some ⟨b, off, none⟩) => match pureRun P (sizeOf t), A.bl.get b with
    | some n, some k => match k.obj with
      | .cells c => bif Nat.beq n 0 || !Nat.blt off c.length then none else some (.pointer (some ⟨b, off, none⟩))
      | _ => none
    | _, _ => none
  | some .unsafePointer, some (.pointer u), .pointer (some ⟨b, off, none⟩) => match pureRun P (sizeOf u), A.bl.get b with
    | some _, some k => match k.obj with
      | .cells c => bif Nat.beq k.stride 0 && liesAt P P.depth k.ty (c.length / P.cellsOf k.ty) off u 1 then some (.pointer (some ⟨b, off, none⟩)) else none
      | _ => none
    | _, _ => none
  | _, _, _ => none

theorem snd_toUnsafe (hr : Rel φ A w) {src dst : TypeId} {x x' v : Value} (hx : VRel φ x x') (h : aToUnsafe P A src dst x = some v) : Snd (RV v) P φ A w (convert src dst x') A := by
  unfold aToUnsafe at h
  split at h
  · rename_i t b off hs hd
    split at h
    · rename_i n k hn hk
      split at h
      · rename_i c hobj
        cases hc : (Nat.beq n 0 || !Nat.blt off c.length) with
        | true => rw [hc] at h; cases h
        | false =>
          rw [hc, cond_false, Option.some.injEq] at h
          subst h
          simp only [Bool.or_eq_false_iff, Bool.not_eq_false'] at hc
          have hoff : off < c.length := Nat.blt_eq.mp hc.2
          have hn0 : n ≠ 0 := fun e => by subst e; simp at hc
          cases hx with
          | ptr he =>
            rename_i e
            obtain ⟨k', hk', _, ho⟩ := hr.dom b e he
            rw [hk] at hk'
            cases hk'
            unfold ORel at ho
            simp only [hobj] at ho
            obtain ⟨c', fr', h1, h2, h3, h4, h5⟩ := ho
            refine ⟨φ, w, .pointer (some ⟨e.blk, e.sh + off, none⟩), ?_, .ptr he, Step.refl hr⟩
            unfold convert
            refine run_pre hs (run_pre hd ?_)
            show (Conv.unsafePointer src dst (.pointer (some ⟨e.blk, e.sh + off, none⟩))).run P w = _
            unfold Conv.unsafePointer
            refine run_pre hs (run_pre hd ?_)
            simp only
            refine run_then (run_seenAt h1) ?_
            refine run_then (a := some c'.size) (by unfold cellsIn; exact run_then (run_shape h1) rfl) ?_
            refine run_pre hn ?_
            have hge : ¬ (c'.size ≤ e.sh + off) := by omega
            simp only [hn0, decide_false, ge_iff_le, hge, Bool.false_and, Bool.or_false, Bool.false_eq_true, if_false]
            rfl
      · cases h
    · cases h
  · rename_i u b off hs hd
    split at h
    · rename_i nu k hsu hk
      split at h
      · rename_i c hobj
        cases hc : (Nat.beq k.stride 0 && liesAt P P.depth k.ty (c.length / P.cellsOf k.ty) off u 1) with
        | false => rw [hc] at h; cases h
        | true =>
          rw [hc, cond_true, Option.some.injEq] at h
          subst h
          simp only [Bool.and_eq_true] at hc
          have hst : k.stride = 0 := Nat.eq_of_beq_eq_true hc.1
          cases hx with
          | ptr he =>
            rename_i e
            obtain ⟨k', hk', _, ho⟩ := hr.dom b e he
            rw [hk] at hk'
            cases hk'
            unfold ORel at ho
            simp only [hobj] at ho
            obtain ⟨c', fr', h1, h2, h3, h4, h5⟩ := ho
            obtain ⟨hsh, hsz⟩ := h3.2 hst
            have hlies : liesAt P P.depth k.ty (c'.size / P.cellsOf k.ty) (e.sh + off) u 1 = true := by rw [hsh, Nat.zero_add, ← hsz]; exact hc.2
            refine ⟨φ, w, .pointer (some ⟨e.blk, e.sh + off, none⟩), ?_, .ptr he, Step.refl hr⟩
            unfold convert
            refine run_pre hs (run_pre hd ?_)
            show (Conv.unsafePointer src dst (.pointer (some ⟨e.blk, e.sh + off, none⟩))).run P w = _
            unfold Conv.unsafePointer
            refine run_pre hs (run_pre hd ?_)
            simp only
            refine run_then (run_seenAt h1) ?_
            have hv : (variablesAt ⟨e.blk, e.sh + off, none⟩ u 1).run P w = .ok true w := by
              unfold variablesAt
              refine run_pre (a := P) rfl ?_
              refine run_then (run_shape h1) ?_
              simp only [hlies]
              rfl
            refine run_pre hsu ?_
            refine run_then hv ?_
            simp only [Bool.or_true, if_true]
            rfl
      · cases h
    · cases h
  · cases h

/- ROWS THAT ARE NOT ZEROED -/

def aNoZero (A : AS) (elem : TypeId) (n : Int) : Option (Value × AS) :=
  bif decide (0 ≤ n) && decide (n ≤ 524288) then
    match A.push (.cells (List.replicate n.toNat poison)) 1 elem with
    | some (r, A1) => some (.slice (some ⟨r, 0, none⟩) n.toNat n.toNat, A1)
    | none => none
  else none

omit [Sig] in
theorem digits_size : ∀ (n t : Nat) (acc : Array Value), (Extern.BytealgMakeNoZero.digits n t acc).size = acc.size + n
  | 0, _, _ => rfl
  | n + 1, t, acc => by
    unfold Extern.BytealgMakeNoZero.digits
    rw [digits_size n]
    simp
    omega

theorem snd_noZero (hr : Rel φ A w) {ps rs : Array TypeId} {t elem : TypeId} {n : Int} {v : Value} (ht : rs[0]? = some t) (hu : pureRun P (underlying t) = some (.slice elem)) (h : aNoZero A elem n = some (v, A')) :
    Snd (RV v) P φ A w (Extern.BytealgMakeNoZero.makeNoZero ps rs #[.int .i64 n]) A' := by
  unfold aNoZero at h
  cases hc : (decide (0 ≤ n) && decide (n ≤ 524288)) with
  | false => rw [hc] at h; cases h
  | true =>
    rw [hc, cond_true] at h
    simp only [Bool.and_eq_true, decide_eq_true_eq] at hc
    split at h
    · rename_i r A1 hp
      simp only [Option.some.injEq, Prod.mk.injEq] at h
      obtain ⟨rfl, rfl⟩ := h
      let q : Question := .appendCap n.toNat 0 elem
      let cap := q.cut (w.tape w.drawn q)
      have hcap : n.toNat ≤ cap := by simp [cap, q, Question.cut]
      let q2 : Question := .extern "internal/bytealg.MakeNoZero.bytes" 0
      have hr1 : Rel φ A { w with drawn := w.drawn + 1 + 1 } := (Step.drawnTo hr (w.drawn + 1 + 1)).rel
      let row := Extern.BytealgMakeNoZero.digits cap (q2.cut (w.tape (w.drawn + 1) q2)) #[]
      have hrow : row.size = cap := by simp [row, digits_size]
      obtain ⟨φ', w', g1, g2, g3, g4⟩ := run_newRow hr1 P (c' := row) elem hp (by rw [hrow, List.length_replicate]; exact hcap) (fun h => absurd h (by decide)) (fun j hj => by
        rw [List.getD_eq_getElem?_getD, List.getElem?_replicate, if_pos (by simpa using hj)]
        exact .poison _)
      refine ⟨φ', w', .slice (some ⟨w.heap.size, 0, none⟩) n.toNat cap, ?_, ?_, Step.trans hr (Step.drawnTo hr (w.drawn + 1 + 1)) g3⟩
      · obtain ⟨rl⟩ := rs
        obtain ⟨rest, rfl⟩ : ∃ rest, rl = t :: rest := by
          cases rl with
          | nil => simp at ht
          | cons a r => simp at ht; exact ⟨r, by rw [ht]⟩
        refine run_pre (s := underlying t) hu ?_
        simp only
        rw [if_neg (by simp; omega)]
        refine run_then (w1 := { w with drawn := w.drawn + 1 }) (a := cap) (by simp [choose, Sem.run, Question.forced, cap, q]) ?_
        refine run_then (w1 := { w with drawn := w.drawn + 1 }) (a := ()) (by unfold askRoom; split <;> rfl) ?_
        refine run_then (w1 := { w with drawn := w.drawn + 1 + 1 }) (a := q2.cut (w.tape (w.drawn + 1) q2)) (by simp only [choose, Sem.run]; rfl) ?_
        exact run_then g1 rfl
      · have := VRel.slg (φ := φ') (b := r) (o := 0) n.toNat n.toNat cap g2 (Nat.le_refl _) hcap (by simp [hrow])
        simpa using this
    · cases h

/- A ROW OF BYTES AS A STRING: the row is not written any more -/

def aBytes : List Value → ByteArray → Option ByteArray
  | [], acc => some acc
  | .int .u8 b :: r, acc => aBytes r (acc.push b.toNat.toUInt8)
  | _ :: _, _ => none

theorem run_loadBytes (hr : Rel φ A w) {b : Nat} {e : Em} (he : φ b = some e) : ∀ (l : List Value) (off : Nat) (acc s : ByteArray), (∀ j, j < l.length → A.load b (off + j) = some (l.getD j undef)) → aBytes l acc = some s →
    (loadBytes ⟨e.blk, e.sh + off, none⟩ acc l.length).run P w = .ok s w := by
  intro l
  induction l with
  | nil =>
    intro off acc s _ h
    cases h
    rfl
  | cons v r ih =>
    intro off acc s hl h
    cases v with
    | int k x =>
      cases k <;> try (cases h; done)
      have h0 := hl 0 (by simp)
      obtain ⟨v', h1, h2⟩ := rel_load hr h0 he
      simp only [List.getD_cons_zero] at h2
      cases h2
      have h1' : w.cell? ⟨e.blk, e.sh + off, none⟩ = some (.int .u8 x) := by simpa using h1
      have hrest : ∀ j, j < r.length → A.load b (off + 1 + j) = some (r.getD j undef) := fun j hj => by
        have := hl (j + 1) (by simpa using hj)
        rw [show off + (j + 1) = off + 1 + j by omega] at this
        simpa using this
      have := ih (off + 1) (acc.push x.toNat.toUInt8) s hrest h
      show (loadBytes _ acc (r.length + 1)).run P w = _
      unfold loadBytes
      refine run_then (a := .int .u8 x) (w1 := w) (by simp [Go.load, Sem.run, h1']) ?_
      simp only [Addr.add_at]
      rw [Nat.add_assoc]
      exact this
    | _ => cases h

def freezeAll (fam : Nat) : List Nat → Tr ABlk → Option (Tr ABlk)
  | [], t => some t
  | m :: r, t => match t.get m with
    | some k => bif Nat.beq k.fam fam then
        match Tr.set { k with ro := true } depth t m with
        | some t' => freezeAll fam r t'
        | none => none
      else freezeAll fam r t
    | none => freezeAll fam r t

def frz (fam : Nat) (k : ABlk) : ABlk := bif Nat.beq k.fam fam then { k with ro := true } else k

omit [Sig] in
theorem frz_frz (fam : Nat) (k : ABlk) : frz fam (frz fam k) = frz fam k := by
  unfold frz
  cases h : Nat.beq k.fam fam <;> simp [h]

omit [Sig] in
theorem freezeAll_spec (fam : Nat) : ∀ (l : List Nat) (t t' : Tr ABlk), freezeAll fam l t = some t' → ∀ j, t'.get j = if j ∈ l then (t.get j).map (frz fam) else t.get j
  | [], t, t', h, j => by cases h; simp
  | m :: r, t, t', h, j => by
    unfold freezeAll at h
    split at h
    · rename_i k hk
      cases hf : Nat.beq k.fam fam with
      | true =>
        rw [hf, cond_true] at h
        split at h
        · rename_i t1 ht1
          have hget := fun j => Tr.get_set _ _ _ _ _ j ht1
          have hk1 : ({ k with ro := true } : ABlk) = frz fam k := by simp [frz, hf]
          rw [freezeAll_spec fam r t1 t' h j, hget]
          by_cases hjm : j = m
          · subst hjm
            rw [if_pos rfl, if_pos List.mem_cons_self, hk, hk1]
            split
            · simp [frz_frz]
            · rfl
          · rw [if_neg hjm]
            have : (j ∈ m :: r) ↔ j ∈ r := by simp [hjm]
            simp only [this]
        · cases h
      | false =>
        rw [hf, cond_false] at h
        rw [freezeAll_spec fam r t t' h j]
        by_cases hjm : j = m
        · subst hjm
          rw [if_pos List.mem_cons_self, hk]
          have : frz fam k = k := by simp [frz, hf]
          split <;> simp [this]
        · have : (j ∈ m :: r) ↔ j ∈ r := by simp [hjm]
          simp only [this]
    · rename_i hk
      rw [freezeAll_spec fam r t t' h j]
      by_cases hjm : j = m
      · subst hjm
        rw [if_pos List.mem_cons_self, hk]
        split <;> rfl
      · have : (j ∈ m :: r) ↔ j ∈ r := by simp [hjm]
        simp only [this]

def AS.freeze (A : AS) (k : ABlk) : Option AS :=
  match A.mem.get k.fam with
  | some l => match freezeAll k.fam l A.bl with
    | some t => some { A with bl := t, low := l.foldl Nat.min A.low }
    | none => none
  | none => none

theorem step_freeze (hr : Rel φ A w) {b n : Nat} {k : ABlk} {c : List Value} {e : Em} (off : Nat) (hk : A.bl.get b = some k) (hobj : k.obj = .cells c) (hro : k.ro = false) (he : φ b = some e) (h : A.freeze k = some A') :
    Step φ A w φ A' (w.freeze ⟨e.blk, e.sh + off, none⟩ n) := by
  unfold AS.freeze at h
  split at h
  · rename_i l hl
    split at h
    · rename_i t ht
      cases h
      have hget := freezeAll_spec _ _ _ _ ht
      obtain ⟨hlow, hmin⟩ := foldl_min_le l A.low
      obtain ⟨k0, hk0, _, ho⟩ := hr.dom b e he
      rw [hk] at hk0
      cases hk0
      unfold ORel at ho
      simp only [hobj] at ho
      obtain ⟨c', fr', h1, h2, h3, h4, h5⟩ := ho
      have hnew : ∀ j kj', t.get j = some kj' → ∃ kj, A.bl.get j = some kj ∧ kj'.fam = kj.fam ∧ kj'.pos = kj.pos ∧ kj'.stride = kj.stride ∧ kj'.ty = kj.ty ∧ kj'.obj = kj.obj ∧ kj'.ro = (kj.ro || Nat.beq kj.fam k.fam) := by
        intro j kj' hj
        rw [hget] at hj
        by_cases hjl : j ∈ l
        · rw [if_pos hjl] at hj
          obtain ⟨kj, q1, rfl⟩ := Option.map_eq_some_iff.1 hj
          refine ⟨kj, q1, ?_⟩
          unfold frz
          cases hf : Nat.beq kj.fam k.fam <;> simp
        · rw [if_neg hjl] at hj
          refine ⟨kj', hj, rfl, rfl, rfl, rfl, rfl, ?_⟩
          cases hf : Nat.beq kj'.fam k.fam with
          | false => simp
          | true =>
            exfalso
            obtain ⟨l', q1, q2⟩ := hr.wf.mem j kj' hj
            rw [Nat.eq_of_beq_eq_true hf, hl] at q1
            cases q1
            exact hjl q2
      have hwo : ∀ i, i ≠ e.blk → (w.freeze ⟨e.blk, e.sh + off, none⟩ n).heap[i]? = w.heap[i]? := fun i hi => by
        unfold World.freeze
        split
        · rfl
        · simp only [Array.getElem?_modify]
          rw [if_neg (Ne.symm hi)]
      have hwe : ∃ fr2, (w.freeze ⟨e.blk, e.sh + off, none⟩ n).heap[e.blk]? = some (.cells c' k.ty fr2) := by
        unfold World.freeze
        split
        · exact ⟨fr', h1⟩
        · simp only [Array.getElem?_modify, if_pos, h1, Option.map_some]
          exact ⟨_, rfl⟩
      obtain ⟨fr2, hwe⟩ := hwe
      refine { rel := ⟨⟨?_, ?_, ?_, ?_⟩, ?_, ?_, ?_, fun i o hi => ⟨by rw [hwo i (Ne.symm ((hr.imm i o hi).2 _ _ he))]; exact (hr.imm i o hi).1, (hr.imm i o hi).2⟩⟩, dom := fun _ _ => rfl, newm := fun b h1 h2 => absurd h2 (by show ¬ b < A.n; omega), new := fun b e h1 h2 => absurd (hr.lt h2) (by omega), n_le := Nat.le_refl _, low := hlow, same := ?_, ro := ?_, keep := ?_, hsize := ?_, os := ?_, tape := ?_, output := ?_, drawn := ?_ }
      · intro j kj' hj
        obtain ⟨kj, q1, _⟩ := hnew j kj' hj
        exact hr.wf.lt j kj q1
      · intro j kj' hj
        obtain ⟨kj, q1, q2, _⟩ := hnew j kj' hj
        rw [q2]; exact hr.wf.famlt j kj q1
      · intro j kj' hj
        obtain ⟨kj, q1, q2, _⟩ := hnew j kj' hj
        rw [q2]; exact hr.wf.mem j kj q1
      · intro j kj1 j' kj1' hj hj' hf
        obtain ⟨kj, q1, q2, _, _, _, _, q3⟩ := hnew j kj1 hj
        obtain ⟨kj', q1', q2', _, _, _, _, q3'⟩ := hnew j' kj1' hj'
        rw [q2, q2'] at hf
        rw [q3, q3', hr.wf.rofam j kj j' kj' q1 q1' hf, hf]
      · intro j ej hj
        obtain ⟨kj, hkj, hsj, hoj⟩ := hr.dom j ej hj
        obtain ⟨kj', hkj'⟩ : ∃ kj', t.get j = some kj' := by
          rw [hget]
          split
          · rw [hkj]; exact ⟨_, rfl⟩
          · exact ⟨kj, hkj⟩
        obtain ⟨kk, q1, q2, q3, q4, q5, q6, q7⟩ := hnew j kj' hkj'
        rw [hkj] at q1
        cases q1
        refine ⟨kj', hkj', by rw [q4]; exact hsj, ?_⟩
        by_cases hblk : ej.blk = e.blk
        · have hfam : kj.fam = k.fam := by
            rcases Nat.lt_trichotomy kj.fam k.fam with h | h | h
            · exact absurd hblk (hr.apart j ej kj b e k hj he hkj hk (by omega))
            · exact h
            · exact absurd hblk (hr.apart j ej kj b e k hj he hkj hk (by omega))
          have hro' : kj'.ro = true := by rw [q7, hfam]; simp
          unfold ORel at hoj ⊢
          rw [q6]
          cases hob : kj.obj with
          | cells cj =>
            simp only [hob] at hoj ⊢
            obtain ⟨cj', frj', r1, r2, r3, r4, r5⟩ := hoj
            rw [hblk, h1] at r1
            simp only [Option.some.injEq, Obj.cells.injEq] at r1
            obtain ⟨rfl, hty, rfl⟩ := r1
            refine ⟨c', fr2, by rw [hblk, q5, ← hty]; exact hwe, r2, by rw [q4]; exact r3, r4, fun hh => ?_⟩
            rw [hro'] at hh
            cases hh
          | map es cl =>
            simp only [hob] at hoj
            obtain ⟨es', r1, _⟩ := hoj
            rw [hblk, h1] at r1; cases r1
          | oth x =>
            simp only [hob] at hoj
            obtain ⟨_, o', r1, r2⟩ := hoj
            rw [hblk, h1] at r1; cases r1
            exact absurd r2 fun h => OthRel.no_cells h
        · have := hoj.mono (w' := w.freeze ⟨e.blk, e.sh + off, none⟩ n) (fun _ _ h => h) (hwo _ hblk)
          unfold ORel at this ⊢
          rw [q6]
          cases hob : kj.obj with
          | cells cj =>
            simp only [hob] at this ⊢
            obtain ⟨cj', frj', r1, r2, r3, r4, r5⟩ := this
            refine ⟨cj', frj', by rw [q5]; exact r1, r2, by rw [q4]; exact r3, r4, fun hh => r5 ?_⟩
            rw [q7] at hh
            simp only [Bool.or_eq_false_iff] at hh
            exact hh.1
          | map es cl =>
            simp only [hob] at this ⊢
            exact this
          | oth x =>
            simp only [hob] at this ⊢
            exact this
      · intro j ej kj1 j' ej' kj1' q1 q2 hj hj' hne
        obtain ⟨kj, r1, r2, _⟩ := hnew j kj1 hj
        obtain ⟨kj', r1', r2', _⟩ := hnew j' kj1' hj'
        exact hr.apart j ej kj j' ej' kj' q1 q2 r1 r1' (by rw [← r2, ← r2']; exact hne)
      · intro j ej kj1 j' ej' kj1' q1 q2 hj hj' hf hb
        obtain ⟨kj, r1, r2, r3, _⟩ := hnew j kj1 hj
        obtain ⟨kj', r1', r2', r3', _⟩ := hnew j' kj1' hj'
        rw [r3, r3']
        exact hr.along j ej kj j' ej' kj' q1 q2 r1 r1' (by rw [← r2, ← r2']; exact hf) hb
      · intro j hj hjl
        show t.get j = _
        rw [hget, if_neg]
        intro hm
        have := hmin j hm
        exact absurd hjl (by show ¬ j < l.foldl Nat.min A.low; omega)
      · intro j kj hkj hrj
        show t.get j = _
        rw [hget]
        split
        · rw [hkj]
          simp only [Option.map_some, Option.some.injEq]
          unfold frz
          cases hf : Nat.beq kj.fam k.fam with
          | false => rfl
          | true =>
            obtain ⟨o1, f1, p1, s1, rr1, t1⟩ := kj
            simp only at hrj
            subst hrj
            rfl
        · exact hkj
      · intro i hi hall
        refine hwo i fun hie => ?_
        have := hall b e k he hie.symm hk
        rw [hro] at this
        cases this
      · unfold World.freeze; split
        · exact Nat.le_refl _
        · simp
      all_goals (unfold World.freeze; split <;> first | rfl | exact Nat.le_refl _)
    · cases h
  · cases h

def aUnsafeString (P : Program) (A : AS) (ts : Array TypeId) (x n : Value) : Option (Value × AS) :=
  match ts[0]?, x, n with
  | some pt, .pointer (some ⟨b, off, none⟩), .int _ n => match pureRun P (elemOf pt), A.bl.get b with
    | some u, some k => match k.obj with
      | .cells _ =>
        bif decide (0 < n) && decide (n ≤ 16777216) && Nat.beq (P.cellsOf k.ty) 1 && sameLayout P P.depth k.ty u && !k.ro then
          match A.loadN b off n.toNat with
          | some l => match aBytes l .empty, A.freeze k with
            | some s, some A1 => some (.string s, A1)
            | _, _ => none
          | none => none
        else none
      | _ => none
    | _, _ => none
  | _, _, _ => none

theorem snd_unsafeString (hr : Rel φ A w) {ts : Array TypeId} {ty : TypeId} {x x' n v : Value} (hx : VRel φ x x') (h : aUnsafeString P A ts x n = some (v, A')) : Snd (RV v) P φ A w (Builtin.unsafeString_ ts ty #[x', n]) A' := by
  unfold aUnsafeString at h
  split at h
  · rename_i pt b off kk n hts
    split at h
    · rename_i u k hu hk
      split at h
      · rename_i c hobj
        cases hc : (decide (0 < n) && decide (n ≤ 16777216) && Nat.beq (P.cellsOf k.ty) 1 && sameLayout P P.depth k.ty u && !k.ro) with
        | false => rw [hc] at h; cases h
        | true =>
          rw [hc, cond_true] at h
          simp only [Bool.and_eq_true, decide_eq_true_eq, Bool.not_eq_true'] at hc
          obtain ⟨⟨⟨⟨hn0, hn1⟩, hcell⟩, hlay⟩, hro⟩ := hc
          have hcell : P.cellsOf k.ty = 1 := Nat.eq_of_beq_eq_true hcell
          split at h
          · rename_i l hl
            split at h
            · rename_i s A1 hs hf
              simp only [Option.some.injEq, Prod.mk.injEq] at h
              obtain ⟨rfl, rfl⟩ := h
              cases hx with
              | ptr he =>
                rename_i e
                obtain ⟨hlen, hjs⟩ := loadN_spec hl
                obtain ⟨k', hk', _, ho⟩ := hr.dom b e he
                rw [hk] at hk'
                cases hk'
                unfold ORel at ho
                simp only [hobj] at ho
                obtain ⟨c', fr', h1, h2, h3, h4, h5⟩ := ho
                have hfit : off + n.toNat ≤ c.length := by
                  have hg := hjs (n.toNat - 1) (by omega)
                  unfold AS.load at hg
                  rw [hk] at hg
                  obtain ⟨ob, fam, pos, st, ro, ty2⟩ := k
                  simp only at hobj
                  subst hobj
                  simp only at hg
                  have := (List.getElem?_eq_some_iff.1 hg).1
                  omega
                have hrun := run_loadBytes (P := P) hr he l off .empty s (fun j hj => hjs j (by omega)) hs
                have hstep := step_freeze (n := n.toNat) hr off hk hobj hro he hf
                refine ⟨φ, _, .string s, ?_, .string s, hstep⟩
                have hlies : liesAt P P.depth k.ty (c'.size / P.cellsOf k.ty) (e.sh + off) u n.toNat = true := by
                  obtain ⟨d, hd⟩ : ∃ d, P.depth = d + 1 := ⟨_, rfl⟩
                  rw [hd] at hlay ⊢
                  unfold liesAt rowAt
                  rw [hd]
                  simp only [hcell, Nat.div_one, Nat.mod_one, beq_self_eq_true, Bool.true_and]
                  have : decide (e.sh + off + n.toNat ≤ c'.size) = true := decide_eq_true (by omega)
                  simp [this, hlay]
                have hv : (variablesAt ⟨e.blk, e.sh + off, none⟩ u n.toNat).run P w = .ok true w := by
                  unfold variablesAt
                  refine run_pre (a := P) rfl ?_
                  refine run_then (run_shape h1) ?_
                  simp only [hlies]
                  rfl
                refine run_pre (s := asInt (.int kk n)) (a := n) rfl ?_
                have hmax : ¬ n > IntKind.i64.max := by
                  have : (16777216 : Int) ≤ IntKind.i64.max := by decide
                  omega
                simp only [hts]
                rw [if_neg (by omega), if_neg hmax, if_neg (by omega)]
                refine run_pre hu ?_
                refine run_then hv ?_
                rw [if_pos rfl]
                refine run_then (by rw [← hlen]; exact hrun) ?_
                rfl
            · cases h
          · cases h
        
      · cases h
    · cases h
  · cases h

/- CLEAR -/

def aClear (P : Program) (A : AS) (ts : Array TypeId) (x : Value) : Option AS :=
  match ts[0]? with
  | some t => match pureRun P (underlying t), x with
    | some (.slice _), .slice none _ _ => some A
    | some (.slice elem), .slice (some ⟨b, off, none⟩) n _ => bif Nat.beq n 0 then some A else
        match pureRun P (zeroValue elem) with
        | some z => bif plain z && (cellsOf z).isSome && Nat.blt 0 z.cells.size then A.storeN b off (Builtin.zeroCells z.cells n).toList else none
        | none => none
    | _, _ => none
  | none => none

theorem snd_clear (hr : Rel φ A w) {ts : Array TypeId} {ty : TypeId} {x x' : Value} (hx : VRel φ x x') (h : aClear P A ts x = some A') : Snd (RV undef) P φ A w (Builtin.clear_ ts ty #[x']) A' := by
  unfold aClear at h
  split at h
  · rename_i t ht
    split at h
    · rename_i e l c hu
      cases h
      cases hx
      refine ⟨φ, w, undef, ?_, VRel.undef_refl φ, Step.refl hr⟩
      unfold Builtin.clear_
      simp only [ht, List.getElem?_toArray, List.getElem?_cons_zero]
      exact run_pre hu rfl
    · rename_i elem b off n c hu
      have hform : ∃ a' c', x' = .slice (some a') n c' := by
        cases hx with
        | slx _ _ h => exact ⟨_, _, rfl⟩
        | slg _ _ _ h _ _ _ => exact ⟨_, _, rfl⟩
        | slz a' _ => exact ⟨_, _, rfl⟩
      cases hn : Nat.beq n 0 with
      | true =>
        rw [hn] at h
        cases h
        have hn0 : n = 0 := Nat.eq_of_beq_eq_true hn
        subst hn0
        obtain ⟨a', c', rfl⟩ := hform
        refine ⟨φ, w, undef, ?_, VRel.undef_refl φ, Step.refl hr⟩
        unfold Builtin.clear_
        simp only [ht, List.getElem?_toArray, List.getElem?_cons_zero]
        exact run_pre hu rfl
      | false =>
        rw [hn, cond_false] at h
        have hn0 : n ≠ 0 := fun e => by subst e; simp at hn
        split at h
        · rename_i z hz
          cases hc : (plain z && (cellsOf z).isSome && Nat.blt 0 z.cells.size) with
          | false => rw [hc] at h; cases h
          | true =>
            rw [hc, cond_true] at h
            simp only [Bool.and_eq_true] at hc
            have hz0 := Nat.blt_eq.mp hc.2
            have hzc := plain_cells hc.1.1 hc.1.2 φ
            have hcells : ∀ j, j < (Builtin.zeroCells z.cells n).toList.length → VRel φ ((Builtin.zeroCells z.cells n).toList.getD j undef) ((Builtin.zeroCells z.cells n).toList.getD j undef) := by
              intro j hj
              unfold Builtin.zeroCells at hj ⊢
              simp at hj
              have hm := Nat.mod_lt j hz0
              have := hzc (j % z.cells.size) hm
              simp only [Array.getD_eq_getD_getElem?] at this
              simpa [List.getD_eq_getElem?_getD, hj, hm, getElem!_pos] using this
            have main : ∀ (e : Em) (c' : Nat), φ b = some e → x' = .slice (some ⟨e.blk, e.sh + off, none⟩) n c' → Snd (RV undef) P φ A w (Builtin.clear_ ts ty #[x']) A' := by
              intro e c' he hx'
              obtain ⟨w', g1, g2⟩ := run_storeN P he _ A A' w off 0 (Builtin.zeroCells z.cells n).toList hr (by simpa using h) rfl hcells
              refine ⟨φ, w', undef, ?_, VRel.undef_refl φ, g2⟩
              subst hx'
              unfold Builtin.clear_
              simp only [ht, List.getElem?_toArray, List.getElem?_cons_zero]
              refine run_pre hu ?_
              obtain ⟨n', rfl⟩ : ∃ n', n = n' + 1 := ⟨n - 1, by omega⟩
              refine run_pre hz ?_
              exact run_then (by simpa using g1) rfl
            cases hx with
            | slx _ _ he => exact main _ _ he rfl
            | slg _ _ _ he _ _ _ => exact main _ _ he rfl
            | slz a' _ => exact absurd rfl hn0
        · cases h
    · cases h
  · cases h

end
end AE
end Go.Proofs.YtblhndlmgibljaaDoor

/- AE, maps with plain keys; a string that is ranged over. -/
namespace Go.Proofs.YtblhndlmgibljaaDoor
open Go
namespace AE
variable [Sig]

def AS.getMap (A : AS) (b : Nat) : Option (List Ent × Nat) :=
  match A.bl.get b with
  | some k => match k.obj with
    | .map es cl => some (es, cl)
    | _ => none
  | none => none

def AS.setMap (A : AS) (b : Nat) (es : List Ent) (cl : Nat) : Option AS :=
  match A.bl.get b with
  | some k => match k.obj, A.mem.get k.fam with
    | .map _ _, some [m] => bif Nat.beq m b && !k.ro then
        match Tr.set { k with obj := .map es cl } depth A.bl b with
        | some t => some { A with bl := t, low := Nat.min A.low b }
        | none => none
      else none
    | _, _ => none
  | none => none

def AS.getIter (A : AS) (b : Nat) : Option (ByteArray × Nat) :=
  match A.bl.get b with
  | some k => match k.obj with
    | .oth (.siter s p) => some (s, p)
    | _ => none
  | none => none

def AS.setIter (A : AS) (b : Nat) (s : ByteArray) (p : Nat) : Option AS :=
  match A.bl.get b with
  | some k => match k.obj, A.mem.get k.fam with
    | .oth _, some [m] => bif Nat.beq m b && !k.ro then
        match Tr.set { k with obj := .oth (.siter s p) } depth A.bl b with
        | some t => some { A with bl := t, low := Nat.min A.low b }
        | none => none
      else none
    | _, _ => none
  | none => none

def MRelE (φ : Emb) (es : List Ent) (es' : Array MapEntry) : Prop :=
  es.length = es'.size ∧ ∀ (j : Nat) (a : Ent) (b : MapEntry), es[j]? = some a → es'[j]? = some b → plain a.key = true ∧ a.key = b.key ∧ VRel φ a.val b.val ∧ a.born = b.born

section
variable {P : Program} {φ : Emb} {A A' : AS} {w : World}

theorem rel_getMap (hr : Rel φ A w) {b : Nat} {es : List Ent} {cl : Nat} {e : Em} (h : A.getMap b = some (es, cl)) (he : φ b = some e) : ∃ es', w.heap[e.blk]? = some (.map es' cl) ∧ MRelE φ es es' := by
  unfold AS.getMap at h
  split at h
  · rename_i k hk
    obtain ⟨k', hk', _, ho⟩ := hr.dom b e he
    rw [hk] at hk'
    cases hk'
    split at h
    · rename_i es0 cl0 hobj
      cases h
      simp only [ORel, hobj] at ho
      obtain ⟨es', h1, h2, h3⟩ := ho
      exact ⟨es', h1, h2, h3⟩
    · cases h
  · cases h

theorem rel_getIter (hr : Rel φ A w) {b p : Nat} {s : ByteArray} {e : Em} (h : A.getIter b = some (s, p)) (he : φ b = some e) : e.sh = 0 ∧ w.heap[e.blk]? = some (.stringIter s p) := by
  unfold AS.getIter at h
  split at h
  · rename_i k hk
    obtain ⟨k', hk', _, ho⟩ := hr.dom b e he
    rw [hk] at hk'
    cases hk'
    split at h
    · rename_i s0 p0 hobj
      cases h
      simp only [ORel, hobj] at ho
      obtain ⟨h0, o', h1, h2⟩ := ho
      simp only [OthRel] at h2
      exact ⟨h0, by rw [h1, h2]⟩
    · cases h
  · cases h

theorem step_setObj (hr : Rel φ A w) {b : Nat} {k : ABlk} {o : AObj} {t : Tr ABlk} {e : Em} {o' : Obj} (he : φ b = some e) (hk : A.bl.get b = some k) (hmem : A.mem.get k.fam = some [b]) (hro : k.ro = false) (ht : Tr.set { k with obj := o } depth A.bl b = some t)
    (ho : ∀ w', w'.heap[e.blk]? = some o' → ORel φ w' e k → ORel φ w' e { k with obj := o } ∨ True) (ho2 : ∀ w', w'.heap[e.blk]? = some o' → ORel φ w' e { k with obj := o }) :
    Step φ A w φ { A with bl := t, low := Nat.min A.low b } { w with heap := w.heap.setIfInBounds e.blk o' } := by
  have hget := fun j => Tr.get_set _ _ _ _ _ j ht
  obtain ⟨k0, hk0, hst, hor⟩ := hr.dom b e he
  rw [hk] at hk0
  cases hk0
  have hlt := hor.lt
  have halone : ∀ j kj, A.bl.get j = some kj → kj.fam = k.fam → j = b := by
    intro j kj hj hf
    obtain ⟨l, q1, q2⟩ := hr.wf.mem j kj hj
    rw [hf, hmem] at q1
    cases q1
    simpa using q2
  have hne : ∀ j ej, j ≠ b → φ j = some ej → ej.blk ≠ e.blk := by
    intro j ej hj hφ
    obtain ⟨kj, hkj, _, _⟩ := hr.dom j ej hφ
    exact hr.apart j ej kj b e k hφ he hkj hk fun hf => hj (halone j kj hkj hf)
  have hwo : ∀ i, i ≠ e.blk → (w.heap.setIfInBounds e.blk o')[i]? = w.heap[i]? := fun i hi => by
    rw [Array.getElem?_setIfInBounds_ne (Ne.symm hi)]
  have hnew : ∀ j kj', t.get j = some kj' → ∃ kj, A.bl.get j = some kj ∧ kj'.fam = kj.fam ∧ kj'.pos = kj.pos ∧ kj'.ro = kj.ro := by
    intro j kj' hj
    rw [hget] at hj
    by_cases hjm : j = b
    · rw [if_pos hjm] at hj
      cases hj
      subst hjm
      exact ⟨k, hk, rfl, rfl, rfl⟩
    · rw [if_neg hjm] at hj
      exact ⟨kj', hj, rfl, rfl, rfl⟩
  refine { rel := ⟨⟨?_, ?_, ?_, ?_⟩, ?_, ?_, ?_, fun i o hi => ⟨by rw [hwo i (Ne.symm ((hr.imm i o hi).2 _ _ he))]; exact (hr.imm i o hi).1, (hr.imm i o hi).2⟩⟩, dom := fun _ _ => rfl, newm := fun b h1 h2 => absurd h2 (by show ¬ b < A.n; omega), new := fun b e h1 h2 => absurd (hr.lt h2) (by omega), n_le := Nat.le_refl _, low := Nat.min_le_left _ _, same := ?_, ro := ?_, keep := ?_, hsize := by simp, os := rfl, tape := rfl, output := rfl, drawn := Nat.le_refl _ }
  · intro j kj' hj
    obtain ⟨kj, q1, _⟩ := hnew j kj' hj
    exact hr.wf.lt j kj q1
  · intro j kj' hj
    obtain ⟨kj, q1, q2, _⟩ := hnew j kj' hj
    rw [q2]; exact hr.wf.famlt j kj q1
  · intro j kj' hj
    obtain ⟨kj, q1, q2, _⟩ := hnew j kj' hj
    rw [q2]; exact hr.wf.mem j kj q1
  · intro j kj1 j' kj1' hj hj' hf
    obtain ⟨kj, q1, q2, _, q3⟩ := hnew j kj1 hj
    obtain ⟨kj', q1', q2', _, q3'⟩ := hnew j' kj1' hj'
    rw [q3, q3']
    exact hr.wf.rofam j kj j' kj' q1 q1' (by rw [← q2, ← q2']; exact hf)
  · intro j ej hj
    by_cases hjm : j = b
    · subst hjm
      rw [he] at hj
      cases hj
      exact ⟨{ k with obj := o }, by rw [hget, if_pos rfl], hst, ho2 _ (by show (w.heap.setIfInBounds e.blk o')[e.blk]? = _; rw [Array.getElem?_setIfInBounds_self_of_lt hlt])⟩
    · obtain ⟨kj, hkj, hsj, hoj⟩ := hr.dom j ej hj
      exact ⟨kj, by rw [hget, if_neg hjm]; exact hkj, hsj, hoj.mono (fun _ _ h => h) (hwo _ (hne j ej hjm hj))⟩
  · intro j ej kj1 j' ej' kj1' q1 q2 hj hj' hnf
    obtain ⟨kj, r1, r2, _⟩ := hnew j kj1 hj
    obtain ⟨kj', r1', r2', _⟩ := hnew j' kj1' hj'
    exact hr.apart j ej kj j' ej' kj' q1 q2 r1 r1' (by rw [← r2, ← r2']; exact hnf)
  · intro j ej kj1 j' ej' kj1' q1 q2 hj hj' hf hb
    obtain ⟨kj, r1, r2, r3, _⟩ := hnew j kj1 hj
    obtain ⟨kj', r1', r2', r3', _⟩ := hnew j' kj1' hj'
    rw [r3, r3']
    exact hr.along j ej kj j' ej' kj' q1 q2 r1 r1' (by rw [← r2, ← r2']; exact hf) hb
  · intro j hj hjl
    show t.get j = _
    rw [hget, if_neg]
    intro hjm
    subst hjm
    exact absurd (Nat.lt_of_lt_of_le hjl (Nat.min_le_right A.low j)) (Nat.lt_irrefl j)
  · intro j kj hkj hrj
    show t.get j = _
    rw [hget, if_neg]
    · exact hkj
    · intro hjm
      subst hjm
      rw [hk] at hkj
      cases hkj
      rw [hro] at hrj
      cases hrj
  · intro i hi hall
    refine hwo i fun hie => ?_
    have := hall b e k he hie.symm hk
    rw [hro] at this
    cases this

theorem step_setMap (hr : Rel φ A w) {b : Nat} {es : List Ent} {es' : Array MapEntry} {cl : Nat} {e : Em} (he : φ b = some e) (h : A.setMap b es cl = some A') (hE : MRelE φ es es') : Step φ A w φ A' { w with heap := w.heap.setIfInBounds e.blk (.map es' cl) } := by
  unfold AS.setMap at h
  split at h
  · rename_i k hk
    split at h
    · rename_i x0 y0 m hobj hmem
      cases hc : (Nat.beq m b && !k.ro) with
      | false => rw [hc] at h; cases h
      | true =>
        rw [hc, cond_true] at h
        simp only [Bool.and_eq_true, Bool.not_eq_true'] at hc
        have hmb : m = b := Nat.eq_of_beq_eq_true hc.1
        subst hmb
        split at h
        · rename_i t ht
          cases h
          exact step_setObj hr he hk hmem hc.2 ht (fun _ _ _ => .inr trivial) fun w' hw' => by
            simp only [ORel]
            exact ⟨es', hw', hE.1, hE.2⟩
        · cases h
    · cases h
  · cases h

theorem step_setIter (hr : Rel φ A w) {b p : Nat} {s : ByteArray} {e : Em} (he : φ b = some e) (h0 : e.sh = 0) (h : A.setIter b s p = some A') : Step φ A w φ A' { w with heap := w.heap.setIfInBounds e.blk (.stringIter s p) } := by
  unfold AS.setIter at h
  split at h
  · rename_i k hk
    split at h
    · rename_i x0 m hobj hmem
      cases hc : (Nat.beq m b && !k.ro) with
      | false => rw [hc] at h; cases h
      | true =>
        rw [hc, cond_true] at h
        simp only [Bool.and_eq_true, Bool.not_eq_true'] at hc
        have hmb : m = b := Nat.eq_of_beq_eq_true hc.1
        subst hmb
        split at h
        · rename_i t ht
          cases h
          exact step_setObj hr he hk hmem hc.2 ht (fun _ _ _ => .inr trivial) fun w' hw' => by
            simp only [ORel]
            exact ⟨h0, _, hw', rfl⟩
        · cases h
    · cases h
  · cases h

/- KEYS -/

def keysOnly (es : List Ent) : List MapEntry := es.map fun e => { key := e.key, val := .bool false, born := 0 }

omit [Sig] in
theorem findNow_keys (kind : TypeDesc) (key : Value) : ∀ (es : List Ent) (es' : List MapEntry) (i : Nat), es.map (·.key) = es'.map (·.key) →
    match Instr.findNow kind key (keysOnly es) i with
    | none => Instr.findNow kind key es' i = none
    | some none => Instr.findNow kind key es' i = some none
    | some (some (j, _)) => ∃ b, i ≤ j ∧ es'[j - i]? = some b ∧ Instr.findNow kind key es' i = some (some (j, b.val))
  | [], [], i, _ => by simp [keysOnly, Instr.findNow]
  | [], _ :: _, _, h => by simp at h
  | _ :: _, [], _, h => by simp at h
  | a :: r, b :: r', i, h => by
    simp only [List.map_cons, List.cons.injEq] at h
    have ih := findNow_keys kind key r r' (i + 1) h.2
    have hd : keysOnly (a :: r) = { key := a.key, val := .bool false, born := 0 } :: keysOnly r := rfl
    rw [hd]
    unfold Instr.findNow
    simp only
    rw [h.1]
    cases hs : Instr.sameNow kind key b.key with
    | none => simp
    | some t =>
      cases t with
      | true =>
        simp only
        exact ⟨b, Nat.le_refl _, by simp, rfl⟩
      | false =>
        simp only
        cases hf : Instr.findNow kind key (keysOnly r) (i + 1) with
        | none => rw [hf] at ih; exact ih
        | some o => cases o with
          | none => rw [hf] at ih; exact ih
          | some p =>
            obtain ⟨j, u⟩ := p
            rw [hf] at ih
            obtain ⟨b', h1, h2, h3⟩ := ih
            exact ⟨b', by omega, by rw [show j - i = (j - (i + 1)) + 1 by omega]; exact h2, h3⟩

omit [Sig] in
theorem findAsking_keys (kt : TypeId) (key : Value) : ∀ (es : List Ent) (es' : List MapEntry) (i : Nat) (r : Option (Nat × Value)), es.map (·.key) = es'.map (·.key) → pureRun P (Instr.findAsking kt key (keysOnly es) i) = some r →
    match r with
    | none => ∀ w, (Instr.findAsking kt key es' i).run P w = .ok none w
    | some (j, _) => ∃ b, i ≤ j ∧ es'[j - i]? = some b ∧ ∀ w, (Instr.findAsking kt key es' i).run P w = .ok (some (j, b.val)) w
  | [], [], i, r, _, h => by
    simp only [keysOnly, List.map_nil, Instr.findAsking] at h
    cases h
    exact fun w => rfl
  | [], _ :: _, _, _, h, _ => by simp at h
  | _ :: _, [], _, _, h, _ => by simp at h
  | a :: l, b :: l', i, r, hk, h => by
    simp only [List.map_cons, List.cons.injEq] at hk
    have hd : keysOnly (a :: l) = { key := a.key, val := .bool false, born := 0 } :: keysOnly l := rfl
    rw [hd] at h
    unfold Instr.findAsking at h
    rw [pureRun_bind] at h
    cases he : pureRun P (Op.equal kt key a.key) with
    | none => rw [he] at h; cases h
    | some t =>
      rw [he] at h
      simp only [Option.bind_some] at h
      have he' := pureRun_run (hk.1 ▸ he)
      cases t with
      | true =>
        simp only [if_true] at h
        cases h
        refine ⟨b, Nat.le_refl _, by simp, fun w => ?_⟩
        unfold Instr.findAsking
        exact run_then (he' w) (by simp only [if_true]; rfl)
      | false =>
        simp only [Bool.false_eq_true, if_false] at h
        have ih := findAsking_keys kt key l l' (i + 1) r hk.2 h
        cases r with
        | none =>
          intro w
          unfold Instr.findAsking
          exact run_then (he' w) (by simp only [Bool.false_eq_true, if_false]; exact ih w)
        | some p =>
          obtain ⟨j, u⟩ := p
          obtain ⟨b', h1, h2, h3⟩ := ih
          refine ⟨b', by omega, by rw [show j - i = (j - (i + 1)) + 1 by omega]; exact h2, fun w => ?_⟩
          unfold Instr.findAsking
          exact run_then (he' w) (by simp only [Bool.false_eq_true, if_false]; exact h3 w)

def keyAt (P : Program) (kt : TypeId) (key : Value) (es : List Ent) : Option (Option Nat) := (pureRun P (Instr.findKey kt key (keysOnly es))).map (Option.map (·.1))

omit [Sig] in
theorem keyAt_spec {kt : TypeId} {key : Value} {es : List Ent} {es' : List MapEntry} (hk : es.map (·.key) = es'.map (·.key)) {r : Option Nat} (h : keyAt P kt key es = some r) :
    match (generalizing := false) r with
    | none => ∀ w, (Instr.findKey kt key es').run P w = .ok none w
    | some j => ∃ b, es'[j]? = some b ∧ ∀ w, (Instr.findKey kt key es').run P w = .ok (some (j, b.val)) w := by
  unfold keyAt at h
  rw [Option.map_eq_some_iff] at h
  obtain ⟨q, h, rfl⟩ := h
  unfold Instr.findKey at h
  rw [pureRun_bind] at h
  cases hu : pureRun P (underlying kt) with
  | none => rw [hu] at h; cases h
  | some d =>
    rw [hu] at h
    simp only [Option.bind_some] at h
    have hn := findNow_keys d key es es' 0 hk
    have hur := pureRun_run hu
    cases hf : Instr.findNow d key (keysOnly es) 0 with
    | none =>
      rw [hf] at h hn
      simp only at h hn
      have ha := findAsking_keys (P := P) kt key es es' 0 q hk h
      cases q with
      | none =>
        intro w
        unfold Instr.findKey
        exact run_then (hur w) (by rw [hn]; exact ha w)
      | some p =>
        obtain ⟨j, u⟩ := p
        obtain ⟨b, _, h2, h3⟩ := ha
        refine ⟨b, by simpa using h2, fun w => ?_⟩
        unfold Instr.findKey
        exact run_then (hur w) (by rw [hn]; exact h3 w)
    | some o =>
      rw [hf] at h hn
      simp only at h
      have h' : o = q := by
        have : some o = some q := h
        cases this; rfl
      subst h'
      cases o with
      | none =>
        intro w
        unfold Instr.findKey
        exact run_then (hur w) (by rw [hn]; rfl)
      | some p =>
        obtain ⟨j, u⟩ := p
        obtain ⟨b, _, h2, h3⟩ := hn
        refine ⟨b, by simpa using h2, fun w => ?_⟩
        unfold Instr.findKey
        exact run_then (hur w) (by rw [h3]; rfl)

theorem MRelE.keys {es : List Ent} {es' : Array MapEntry} (h : MRelE φ es es') : es.map (·.key) = es'.toList.map (·.key) := by
  refine List.ext_getElem? fun j => ?_
  simp only [List.getElem?_map, Array.getElem?_toList]
  cases h1 : es[j]? with
  | none =>
    have : es'[j]? = none := by
      rw [Array.getElem?_eq_none_iff, ← h.1]
      exact List.getElem?_eq_none_iff.1 h1
    rw [this]; rfl
  | some a =>
    have hlt : j < es'.size := by rw [← h.1]; exact (List.getElem?_eq_some_iff.1 h1).1
    obtain ⟨b, hb⟩ : ∃ b, es'[j]? = some b := ⟨_, Array.getElem?_eq_getElem hlt⟩
    rw [hb]
    simp only [Option.map_some, Option.some.injEq]
    exact (h.2 j a b h1 hb).2.1

theorem MRelE.isEmpty {es : List Ent} {es' : Array MapEntry} (h : MRelE φ es es') : es.isEmpty = es'.isEmpty := by
  have := h.1
  cases es with
  | nil => simp at this; simp [Array.isEmpty, ← this]
  | cons a r => simp at this; simp [Array.isEmpty, ← this]

theorem MRelE.nil : MRelE φ [] #[] := ⟨rfl, fun j a b h => by simp at h⟩

/- OPERATIONS -/

def aMakeMap (P : Program) (A : AS) (t : TypeId) (r : Option Value) : Option (Value × AS) :=
  match (match r with
    | none => some ()
    | some h => match pureRun P (underlying t), pureRun P (asInt h) with
      | some (.map _ _), some _ => some ()
      | _, _ => none) with
  | some _ => match A.push (.map [] 0) 0 0 with
    | some (b, A1) => some (.map (some b), A1)
    | none => none
  | none => none

theorem snd_makeMap (hr : Rel φ A w) {t : TypeId} {r : Option Value} {v : Value} (h : aMakeMap P A t r = some (v, A')) : Snd (RV v) P φ A w (Instr.makeMap t r) A' := by
  unfold aMakeMap at h
  split at h
  · rename_i hc
    split at h
    · rename_i b A1 hp
      cases h
      have hst := step_push (e := ⟨w.heap.size, 0, 0, 0⟩) (o' := .map #[] 0) hr hp rfl rfl (by simp only [ORel]; exact ⟨#[], by simp, rfl, fun j a b h => by simp at h⟩)
      have hv : VRel (upd φ b ⟨w.heap.size, 0, 0, 0⟩) (.map (some b)) (.map (some w.heap.size)) := .map (e := ⟨w.heap.size, 0, 0, 0⟩) (by simp [upd])
      refine ⟨_, _, .map (some w.heap.size), ?_, hv, hst⟩
      unfold Instr.makeMap
      cases r with
      | none => rfl
      | some hint =>
        simp only at hc
        split at hc
        · rename_i a b' hu hi
          refine run_pre hu ?_
          simp only
          refine run_pre hi ?_
          rfl
        · cases hc
    · cases h
  · cases h

def mapOf (A : AS) : Value → Option (List Ent)
  | .map none => some []
  | .map (some b) => (A.getMap b).map (·.1)
  | _ => none

def aLookup (P : Program) (A : AS) (t : TypeId) (x ix : Value) (ok : Bool) : Option Value :=
  bif plain ix then match pureRun P (underlying t) with
    | some (.map kt elem) => match mapOf A x with
      | some es => match pureRun P (Instr.checkKey es.isEmpty 10000 kt ix) with
        | some _ => match keyAt P kt ix es with
          | some (some j) => match es[j]? with
            | some e => some (bif ok then .tuple ⟨[e.val, .bool true]⟩ else e.val)
            | none => none
          | some none => match pureRun P (zeroValue elem) with
            | some z => bif plain z then some (bif ok then .tuple ⟨[z, .bool false]⟩ else z) else none
            | none => none
          | none => none
        | none => none
      | none => none
    | _ => none
  else none

theorem vrel_pair {a a' : Value} (h : VRel φ a a') (b : Bool) : VRel φ (.tuple ⟨[a, .bool b]⟩) (.tuple #[a', .bool b]) := .tuple _ _ rfl fun i hi => by
  have : i < 2 := by simpa using hi
  rcases (by omega : i = 0 ∨ i = 1) with rfl | rfl
  · simpa using h
  · simpa using VRel.bool b

omit [Sig] in
theorem run_lookup {t kt elem : TypeId} {x' ix z : Value} {ok : Bool} {es' : Array MapEntry} {u : Unit} {fo : Option (Nat × Value)} (hx : (x' = .map none ∧ es' = #[]) ∨ ∃ r cl, x' = .map (some r) ∧ w.heap[r]? = some (.map es' cl)) (hu : pureRun P (underlying t) = some (.map kt elem))
    (hck : pureRun P (Instr.checkKey es'.isEmpty 10000 kt ix) = some u) (hf : (Instr.findKey kt ix es'.toList).run P w = .ok fo w) (hz : fo = none → pureRun P (zeroValue elem) = some z) :
    (Instr.lookup t x' ix ok).run P w = .ok (match (generalizing := false) fo with | some p => (if ok then .tuple #[p.2, .bool true] else p.2) | none => (if ok then .tuple #[z, .bool false] else z)) w := by
  unfold Instr.lookup
  refine run_pre hu ?_
  rcases hx with ⟨rfl, rfl⟩ | ⟨r, cl, rfl, hg⟩
  · simp only
    refine run_then (a := (#[] : Array MapEntry)) (w1 := w) rfl ?_
    refine run_pre hck ?_
    refine run_then hf ?_
    cases fo with
    | some p =>
      obtain ⟨j, v⟩ := p
      simp only
      refine run_then (a := (v, true)) (w1 := w) rfl ?_
      cases ok <;> rfl
    | none =>
      simp only
      refine run_pre (hz rfl) ?_
      refine run_then (a := (z, false)) (w1 := w) rfl ?_
      cases ok <;> rfl
  · simp only
    refine run_then (run_getObj hg (by simp)) ?_
    simp only
    refine run_then (a := es') (w1 := w) rfl ?_
    refine run_pre hck ?_
    refine run_then hf ?_
    cases fo with
    | some p =>
      obtain ⟨j, v⟩ := p
      simp only
      refine run_then (a := (v, true)) (w1 := w) rfl ?_
      cases ok <;> rfl
    | none =>
      simp only
      refine run_pre (hz rfl) ?_
      refine run_then (a := (z, false)) (w1 := w) rfl ?_
      cases ok <;> rfl

theorem snd_lookup (hr : Rel φ A w) {t : TypeId} {x x' ix v : Value} {ok : Bool} (hx : VRel φ x x') (h : aLookup P A t x ix ok = some v) : Snd (RV v) P φ A w (Instr.lookup t x' ix ok) A := by
  unfold aLookup at h
  cases hpl : plain ix with
  | false => rw [hpl] at h; cases h
  | true =>
    rw [hpl, cond_true] at h
    split at h
    · rename_i kt elem hu
      split at h
      · rename_i es hes
        split at h
        · rename_i hck
          have hent : ∃ es' : Array MapEntry, MRelE φ es es' ∧ ((x' = .map none ∧ es' = #[]) ∨ ∃ r cl, x' = .map (some r) ∧ w.heap[r]? = some (.map es' cl)) := by
            unfold mapOf at hes
            split at hes
            · cases hes
              cases hx
              exact ⟨#[], MRelE.nil, .inl ⟨rfl, rfl⟩⟩
            · rw [Option.map_eq_some_iff] at hes
              obtain ⟨⟨es0, cl⟩, hg, rfl⟩ := hes
              cases hx with
              | map he =>
                obtain ⟨es', h1, h2⟩ := rel_getMap hr hg he
                exact ⟨es', h2, .inr ⟨_, _, rfl, h1⟩⟩
            · cases hes
          obtain ⟨es', hE, hx'⟩ := hent
          have hck' : pureRun P (Instr.checkKey es'.isEmpty 10000 kt ix) = some () := by rw [← hE.isEmpty]; exact hck
          split at h
          · rename_i j hj
            split at h
            · rename_i e hej
              simp only [Option.some.injEq] at h
              subst h
              obtain ⟨b, hb, hf⟩ := keyAt_spec hE.keys hj
              rw [Array.getElem?_toList] at hb
              have hv := (hE.2 j e b hej hb).2.2.1
              refine ⟨φ, w, (if ok then .tuple #[b.val, .bool true] else b.val), run_lookup (z := undef) hx' hu hck' (hf w) (fun h => by cases h), ?_, Step.refl hr⟩
              cases ok with
              | true => exact vrel_pair hv true
              | false => exact hv
            · cases h
          · rename_i hj
            split at h
            · rename_i z hz
              cases hpz : plain z with
              | false => rw [hpz] at h; cases h
              | true =>
                rw [hpz, cond_true, Option.some.injEq] at h
                subst h
                have hf := keyAt_spec hE.keys hj
                refine ⟨φ, w, (if ok then .tuple #[z, .bool false] else z), run_lookup hx' hu hck' (hf w) (fun _ => hz), ?_, Step.refl hr⟩
                cases ok with
                | true => exact vrel_pair (VRel.of_plain φ z hpz) false
                | false => exact VRel.of_plain φ z hpz
            · cases h
          · cases h
        · cases h
      · cases h
    · cases h

def aMapUpdate (P : Program) (A : AS) (t : TypeId) (m key val : Value) : Option AS :=
  bif plain key then match pureRun P (underlying t), m with
    | some (.map kt _), .map (some b) => match A.getMap b with
      | some (es, cl) => match pureRun P (Instr.checkKey false 10000 kt key), keyAt P kt key es with
        | some _, some (some j) => match es[j]? with
          | some e => bif Instr.sameBits 10000 e.key key then A.setMap b (es.set j { e with key := key, val := val }) cl else none
          | none => none
        | some _, some none => A.setMap b (es ++ [{ key := key, val := val, born := cl }]) (cl + 1)
        | _, _ => none
      | none => none
    | _, _ => none
  else none

theorem MRelE.push {es : List Ent} {es' : Array MapEntry} (h : MRelE φ es es') {key val val' : Value} {cl : Nat} (hk : plain key = true) (hv : VRel φ val val') : MRelE φ (es ++ [{ key := key, val := val, born := cl }]) (es'.push { key := key, val := val', born := cl }) := by
  refine ⟨by simp [h.1], fun j a b ha hb => ?_⟩
  rw [List.getElem?_append] at ha
  rw [Array.getElem?_push] at hb
  by_cases hj : j < es.length
  · rw [if_pos hj] at ha
    rw [if_neg (by rw [← h.1]; omega)] at hb
    exact h.2 j a b ha hb
  · rw [if_neg hj] at ha
    by_cases hj' : j = es'.size
    · rw [if_pos hj'] at hb
      cases hb
      rw [show j - es.length = 0 by rw [h.1]; omega] at ha
      simp only [List.getElem?_cons_zero, Option.some.injEq] at ha
      subst ha
      exact ⟨hk, rfl, hv, rfl⟩
    · rw [if_neg hj'] at hb
      have := (Array.getElem?_eq_some_iff.1 hb).1
      have := h.1
      omega

theorem MRelE.modify {es : List Ent} {es' : Array MapEntry} (h : MRelE φ es es') {j : Nat} {e : Ent} (hj : es[j]? = some e) {key val val' : Value} (hk : plain key = true) (hv : VRel φ val val') :
    MRelE φ (es.set j { e with key := key, val := val }) (es'.modify j fun e => { e with key := key, val := val' }) := by
  refine ⟨by simp [h.1], fun i a b ha hb => ?_⟩
  rw [List.getElem?_set] at ha
  rw [Array.getElem?_modify] at hb
  by_cases hij : j = i
  · subst hij
    rw [if_pos rfl, if_pos (List.getElem?_eq_some_iff.1 hj).1] at ha
    rw [if_pos rfl] at hb
    cases ha
    rw [Option.map_eq_some_iff] at hb
    obtain ⟨b0, hb0, rfl⟩ := hb
    exact ⟨hk, rfl, hv, (h.2 j e b0 hj hb0).2.2.2⟩
  · rw [if_neg hij] at ha
    rw [if_neg hij] at hb
    exact h.2 i a b ha hb

omit [Sig] in
theorem run_setObj {o o' : Obj} {r : Nat} (h : w.heap[r]? = some o) (hc : ∀ c t f, o ≠ .cells c t f) : (setObj r o').run P w = .ok () { w with heap := w.heap.setIfInBounds r o' } := by
  unfold setObj
  simp only [Sem.run, h]

theorem snd_mapUpdate (hr : Rel φ A w) {t : TypeId} {m m' key val val' : Value} (hm : VRel φ m m') (hv : VRel φ val val') (h : aMapUpdate P A t m key val = some A') : Snd (fun _ _ => True) P φ A w (Instr.mapUpdate t m' key val') A' := by
  unfold aMapUpdate at h
  cases hpl : plain key with
  | false => rw [hpl] at h; cases h
  | true =>
    rw [hpl, cond_true] at h
    split at h
    · rename_i kt elem b hu
      split at h
      · rename_i es cl hg
        cases hm with
        | map he =>
          rename_i em
          obtain ⟨es', h1, hE⟩ := rel_getMap hr hg he
          split at h
          · rename_i j hck hj
            split at h
            · rename_i e hej
              cases hsb : Instr.sameBits 10000 e.key key with
              | false => rw [hsb] at h; cases h
              | true =>
                rw [hsb, cond_true] at h
                obtain ⟨b0, hb, hf⟩ := keyAt_spec hE.keys hj
                rw [Array.getElem?_toList] at hb
                have hke := (hE.2 j e b0 hej hb).2.1
                refine ⟨φ, _, (), ?_, trivial, step_setMap hr he h (hE.modify hej hpl hv)⟩
                unfold Instr.mapUpdate
                refine run_pre hu ?_
                simp only
                refine run_then (run_getObj h1 (by simp)) ?_
                simp only
                refine run_pre hck ?_
                refine run_then (hf w) ?_
                simp only
                rw [show (((es'[j]?).map (·.key)).getD key) = e.key by rw [hb]; exact hke.symm]
                refine run_then (a := key) (w1 := w) (by unfold Instr.keyThatStays; rw [if_pos hsb]; rfl) ?_
                exact run_setObj h1 (by simp)
            · cases h
          · rename_i hck hj
            have hf := keyAt_spec hE.keys hj
            refine ⟨φ, _, (), ?_, trivial, step_setMap hr he h (hE.push hpl hv)⟩
            unfold Instr.mapUpdate
            refine run_pre hu ?_
            simp only
            refine run_then (run_getObj h1 (by simp)) ?_
            simp only
            refine run_pre hck ?_
            refine run_then (hf w) ?_
            simp only
            exact run_setObj h1 (by simp)
          · cases h
        | _ => simp [symv, poison] at *
      · cases h
    · cases h

def aMapEntry (P : Program) (A : AS) (t : TypeId) (m key : Value) : Option (Value × AS) :=
  bif plain key then match pureRun P (underlying t), m with
    | some (.map kt elem), .map (some b) => match A.getMap b with
      | some (es, cl) => match pureRun P (Instr.checkKey false 10000 kt key), keyAt P kt key es with
        | some _, some (some j) => match es[j]? with
          | some e => bif Instr.sameBits 10000 e.key key then match A.setMap b (es.set j { e with key := key, val := e.val }) cl with
              | some A1 => some (.tuple ⟨[e.val, .int .i64 e.born]⟩, A1)
              | none => none
            else none
          | none => none
        | some _, some none => match pureRun P (zeroValue elem) with
          | some z => bif plain z then match A.setMap b (es ++ [{ key := key, val := z, born := cl }]) (cl + 1) with
              | some A1 => some (.tuple ⟨[z, .int .i64 cl]⟩, A1)
              | none => none
            else none
          | none => none
        | _, _ => none
      | none => none
    | _, _ => none
  else none

theorem vrel_pairI {a a' : Value} (h : VRel φ a a') (n : Int) : VRel φ (.tuple ⟨[a, .int .i64 n]⟩) (.tuple #[a', .int .i64 n]) := .tuple _ _ rfl fun i hi => by
  have : i < 2 := by simpa using hi
  rcases (by omega : i = 0 ∨ i = 1) with rfl | rfl
  · simpa using h
  · simpa using VRel.int .i64 n

theorem MRelE.rekey {es : List Ent} {es' : Array MapEntry} (h : MRelE φ es es') {j : Nat} {e : Ent} (hj : es[j]? = some e) {key : Value} (hk : plain key = true) :
    MRelE φ (es.set j { e with key := key, val := e.val }) (es'.modify j fun e => { e with key := key }) := by
  refine ⟨by simp [h.1], fun i a b ha hb => ?_⟩
  rw [List.getElem?_set] at ha
  rw [Array.getElem?_modify] at hb
  by_cases hij : j = i
  · subst hij
    rw [if_pos rfl, if_pos (List.getElem?_eq_some_iff.1 hj).1] at ha
    rw [if_pos rfl] at hb
    cases ha
    rw [Option.map_eq_some_iff] at hb
    obtain ⟨b0, hb0, rfl⟩ := hb
    exact ⟨hk, rfl, (h.2 j e b0 hj hb0).2.2.1, (h.2 j e b0 hj hb0).2.2.2⟩
  · rw [if_neg hij] at ha
    rw [if_neg hij] at hb
    exact h.2 i a b ha hb

theorem snd_mapEntry (hr : Rel φ A w) {t : TypeId} {m m' key v : Value} (hm : VRel φ m m') (h : aMapEntry P A t m key = some (v, A')) : Snd (RV v) P φ A w (Instr.mapEntry t m' key) A' := by
  unfold aMapEntry at h
  cases hpl : plain key with
  | false => rw [hpl] at h; cases h
  | true =>
    rw [hpl, cond_true] at h
    split at h
    · rename_i kt elem b hu
      split at h
      · rename_i es cl hg
        cases hm with
        | map he =>
          rename_i em
          obtain ⟨es', h1, hE⟩ := rel_getMap hr hg he
          split at h
          · rename_i j hck hj
            split at h
            · rename_i e hej
              cases hsb : Instr.sameBits 10000 e.key key with
              | false => rw [hsb] at h; cases h
              | true =>
                rw [hsb, cond_true] at h
                split at h
                · rename_i A1 hset
                  cases h
                  obtain ⟨b0, hb, hf⟩ := keyAt_spec hE.keys hj
                  rw [Array.getElem?_toList] at hb
                  obtain ⟨_, hke, hve, hbo⟩ := hE.2 j e b0 hej hb
                  refine ⟨φ, _, .tuple #[b0.val, .int .i64 e.born], ?_, vrel_pairI hve _, step_setMap hr he hset (hE.rekey hej hpl)⟩
                  unfold Instr.mapEntry
                  refine run_pre hu ?_
                  simp only
                  refine run_then (run_getObj h1 (by simp)) ?_
                  simp only
                  refine run_pre hck ?_
                  refine run_then (hf w) ?_
                  simp only
                  rw [show (((es'[j]?).map (·.key)).getD key) = e.key by rw [hb]; exact hke.symm]
                  refine run_then (a := key) (w1 := w) (by unfold Instr.keyThatStays; rw [if_pos hsb]; rfl) ?_
                  refine run_then (run_setObj h1 (by simp)) ?_
                  rw [show ((es'[j]?).map fun x => (x.born : Int)).getD 0 = (e.born : Int) by rw [hb, hbo]; rfl]
                  rfl
                · cases h
            · cases h
          · rename_i hck hj
            split at h
            · rename_i z hz
              cases hpz : plain z with
              | false => rw [hpz] at h; cases h
              | true =>
                rw [hpz, cond_true] at h
                split at h
                · rename_i A1 hset
                  cases h
                  have hf := keyAt_spec hE.keys hj
                  refine ⟨φ, _, .tuple #[z, .int .i64 cl], ?_, vrel_pairI (VRel.of_plain φ z hpz) _, step_setMap hr he hset (hE.push hpl (VRel.of_plain φ z hpz))⟩
                  unfold Instr.mapEntry
                  refine run_pre hu ?_
                  simp only
                  refine run_then (run_getObj h1 (by simp)) ?_
                  simp only
                  refine run_pre hck ?_
                  refine run_then (hf w) ?_
                  simp only
                  refine run_pre hz ?_
                  refine run_then (run_setObj h1 (by simp)) ?_
                  rfl
                · cases h
            · cases h
          · cases h
        | _ => simp [symv, poison] at *
      · cases h
    · cases h

def bornAt (es : List Ent) (born : Int) : Option Nat := es.findIdx? fun e => (e.born : Int) == born

def aEntryStore (P : Program) (A : AS) (m stamp val : Value) : Option AS :=
  match m with
  | .map (some b) => match A.getMap b with
    | some (es, cl) => bif plain stamp then match pureRun P (asInt stamp) with
      | some born => match bornAt es born with
        | some j => match es[j]? with
          | some e => A.setMap b (es.set j { e with val := val }) cl
          | none => none
        | none => none
      | none => none
      else none
    | none => none
  | _ => none

theorem MRelE.reval {es : List Ent} {es' : Array MapEntry} (h : MRelE φ es es') {j : Nat} {e : Ent} (hj : es[j]? = some e) {val val' : Value} (hv : VRel φ val val') :
    MRelE φ (es.set j { e with val := val }) (es'.modify j fun e => { e with val := val' }) := by
  refine ⟨by simp [h.1], fun i a b ha hb => ?_⟩
  rw [List.getElem?_set] at ha
  rw [Array.getElem?_modify] at hb
  by_cases hij : j = i
  · subst hij
    rw [if_pos rfl, if_pos (List.getElem?_eq_some_iff.1 hj).1] at ha
    rw [if_pos rfl] at hb
    cases ha
    rw [Option.map_eq_some_iff] at hb
    obtain ⟨b0, hb0, rfl⟩ := hb
    obtain ⟨q1, q2, _, q4⟩ := h.2 j e b0 hj hb0
    exact ⟨q1, q2, hv, q4⟩
  · rw [if_neg hij] at ha
    rw [if_neg hij] at hb
    exact h.2 i a b ha hb

theorem MRelE.born {es : List Ent} {es' : Array MapEntry} (h : MRelE φ es es') (born : Int) : es'.findIdx? (fun e => (e.born : Int) == born) = bornAt es born := by
  unfold bornAt
  rw [show es'.findIdx? (fun e => (e.born : Int) == born) = es'.toList.findIdx? (fun e => (e.born : Int) == born) by obtain ⟨l⟩ := es'; simp]
  have hb : es.map (·.born) = es'.toList.map (·.born) := by
    refine List.ext_getElem? fun j => ?_
    simp only [List.getElem?_map, Array.getElem?_toList]
    cases h1 : es[j]? with
    | none =>
      have : es'[j]? = none := by
        rw [Array.getElem?_eq_none_iff, ← h.1]
        exact List.getElem?_eq_none_iff.1 h1
      rw [this]; rfl
    | some a =>
      have hlt : j < es'.size := by rw [← h.1]; exact (List.getElem?_eq_some_iff.1 h1).1
      obtain ⟨b, hb⟩ : ∃ b, es'[j]? = some b := ⟨_, Array.getElem?_eq_getElem hlt⟩
      rw [hb]
      simp only [Option.map_some, Option.some.injEq]
      exact (h.2 j a b h1 hb).2.2.2
  have e1 : ∀ l : List MapEntry, l.findIdx? (fun e => (e.born : Int) == born) = (l.map (·.born)).findIdx? fun (n : Nat) => (n : Int) == born := fun l => by rw [List.findIdx?_map]; rfl
  have e2 : ∀ l : List Ent, l.findIdx? (fun e => (e.born : Int) == born) = (l.map (·.born)).findIdx? fun (n : Nat) => (n : Int) == born := fun l => by rw [List.findIdx?_map]; rfl
  rw [e1, e2, hb]

theorem snd_entryStore (hr : Rel φ A w) {t : TypeId} {m m' stamp val val' : Value} (hm : VRel φ m m') (hv : VRel φ val val') (h : aEntryStore P A m stamp val = some A') : Snd (fun _ _ => True) P φ A w (Instr.entryStore t m' stamp val') A' := by
  unfold aEntryStore at h
  split at h
  · rename_i b
    split at h
    · rename_i es cl hg
      cases hpl : plain stamp with
      | false => rw [hpl] at h; cases h
      | true =>
        rw [hpl, cond_true] at h
        cases hm with
        | map he =>
          rename_i em
          obtain ⟨es', h1, hE⟩ := rel_getMap hr hg he
          split at h
          · rename_i born hs
            split at h
            · rename_i j hj
              split at h
              · rename_i e hej
                refine ⟨φ, _, (), ?_, trivial, step_setMap hr he h (hE.reval hej hv)⟩
                unfold Instr.entryStore
                simp only
                refine run_then (run_getObj h1 (by simp)) ?_
                simp only
                refine run_pre hs ?_
                rw [hE.born, hj]
                simp only
                exact run_setObj h1 (by simp)
              · cases h
            · cases h
          · cases h
    · cases h
  · cases h

def aDelete (P : Program) (A : AS) (ts : Array TypeId) (m key : Value) : Option AS :=
  match ts[0]?, m with
  | some t, .map (some b) => bif plain key then match pureRun P (underlying t) with
    | some (.map kt _) => match A.getMap b with
      | some (es, cl) => match pureRun P (Instr.checkKey es.isEmpty 10000 kt key), keyAt P kt key es with
        | some _, some (some j) => A.setMap b (es.eraseIdx j) cl
        | some _, some none => A.setMap b es cl
        | _, _ => none
      | none => none
    | _ => none
    else none
  | _, _ => none

theorem MRelE.erase {es : List Ent} {es' : Array MapEntry} (h : MRelE φ es es') (j : Nat) : MRelE φ (es.eraseIdx j) (es'.eraseIdxIfInBounds j) := by
  have hl : (es'.eraseIdxIfInBounds j).toList = es'.toList.eraseIdx j := by
    unfold Array.eraseIdxIfInBounds
    split
    · simp
    · rename_i hge
      rw [List.eraseIdx_of_length_le]
      simpa using hge
  refine ⟨?_, fun i a b ha hb => ?_⟩
  · have h2 : (es'.eraseIdxIfInBounds j).size = (es'.toList.eraseIdx j).length := by rw [← hl, Array.length_toList]
    rw [h2]
    simp only [List.length_eraseIdx, h.1, Array.length_toList]
  · rw [← Array.getElem?_toList, hl] at hb
    rw [List.getElem?_eraseIdx] at ha hb
    split at ha
    · rename_i hlt
      rw [if_pos hlt] at hb
      exact h.2 i a b ha (by simpa using hb)
    · rename_i hge
      rw [if_neg hge] at hb
      exact h.2 (i + 1) a b ha (by simpa using hb)

theorem snd_delete (hr : Rel φ A w) {ts : Array TypeId} {ty : TypeId} {m m' key : Value} (hm : VRel φ m m') (h : aDelete P A ts m key = some A') : Snd (RV (.tuple ⟨[]⟩)) P φ A w (Builtin.delete_ ts ty #[m', key]) A' := by
  unfold aDelete at h
  split at h
  · rename_i t b ht
    cases hpl : plain key with
    | false => rw [hpl] at h; cases h
    | true =>
      rw [hpl, cond_true] at h
      split at h
      · rename_i kt elem hu
        split at h
        · rename_i es cl hg
          cases hm with
          | map he =>
            rename_i em
            obtain ⟨es', h1, hE⟩ := rel_getMap hr hg he
            split at h
            · rename_i j hck hj
              obtain ⟨b0, hb, hf⟩ := keyAt_spec hE.keys hj
              refine ⟨φ, _, .tuple #[], ?_, .tuple _ _ rfl (fun i hi => absurd hi (by simp)), step_setMap hr he h (hE.erase j)⟩
              unfold Builtin.delete_
              simp only [ht, List.getElem?_toArray, List.getElem?_cons_zero, List.getElem?_cons_succ]
              refine run_pre hu ?_
              simp only
              refine run_then (run_getObj h1 (by simp)) ?_
              simp only
              refine run_pre (by rw [← hE.isEmpty]; exact hck) ?_
              refine run_then (hf w) ?_
              simp only
              exact run_then (run_setObj h1 (by simp)) rfl
            · rename_i hck hj
              have hf := keyAt_spec hE.keys hj
              refine ⟨φ, _, .tuple #[], ?_, .tuple _ _ rfl (fun i hi => absurd hi (by simp)), step_setMap hr he h hE⟩
              unfold Builtin.delete_
              simp only [ht, List.getElem?_toArray, List.getElem?_cons_zero, List.getElem?_cons_succ]
              refine run_pre hu ?_
              simp only
              refine run_then (run_getObj h1 (by simp)) ?_
              simp only
              refine run_pre (by rw [← hE.isEmpty]; exact hck) ?_
              refine run_then (hf w) ?_
              simp only
              exact run_then (run_setObj h1 (by simp)) rfl
            · cases h
        · cases h
      · cases h
  · cases h

/- A STRING THAT IS RANGED OVER -/

def aRange (P : Program) (A : AS) (t : TypeId) : Value → Option (Value × AS)
  | .string s => match pureRun P (underlying t) with
    | some .string => match A.push (.oth (.siter s 0)) 0 0 with
      | some (b, A1) => some (.pointer (some ⟨b, 0, none⟩), A1)
      | none => none
    | _ => none
  | _ => none

theorem snd_range (hr : Rel φ A w) {t : TypeId} {x x' v : Value} (hx : VRel φ x x') (h : aRange P A t x = some (v, A')) : Snd (RV v) P φ A w (Instr.range t x') A' := by
  unfold aRange at h
  split at h
  · rename_i s
    cases hx
    split at h
    · rename_i hu
      split at h
      · rename_i b A1 hp
        cases h
        have hst := step_push (e := ⟨w.heap.size, 0, 0, 0⟩) (o' := .stringIter s 0) hr hp rfl rfl (by simp only [ORel]; exact ⟨trivial, _, by simp, rfl⟩)
        have hv : VRel (upd φ b ⟨w.heap.size, 0, 0, 0⟩) (.pointer (some ⟨b, 0, none⟩)) (.pointer (some ⟨w.heap.size, 0, none⟩)) := .ptr (e := ⟨w.heap.size, 0, 0, 0⟩) (by simp [upd])
        refine ⟨_, _, .pointer (some ⟨w.heap.size, 0, none⟩), ?_, hv, hst⟩
        unfold Instr.range
        refine run_pre hu ?_
        rfl
      · cases h
    · cases h
  · cases h

def aNext (A : AS) (it : Value) (isString : Bool) : Option (Value × AS) :=
  match it, isString with
  | .pointer (some ⟨b, 0, none⟩), true => match A.getIter b with
    | some (s, p) => bif Nat.blt p s.size then match A.setIter b s (p + (Utf8.decode s p).2) with
        | some A1 => some (.tuple ⟨[.bool true, .int .i64 p, .int .i32 (Utf8.decode s p).1]⟩, A1)
        | none => none
      else some (.tuple ⟨[.bool false]⟩, A)
    | none => none
  | _, _ => none

theorem snd_next (hr : Rel φ A w) {it it' v : Value} {st : Bool} {ty : TypeId} (hx : VRel φ it it') (h : aNext A it st = some (v, A')) : Snd (RV v) P φ A w (Instr.next it' st ty) A' := by
  unfold aNext at h
  split at h
  · rename_i b
    split at h
    · rename_i s p hg
      cases hx with
      | ptr he =>
        rename_i e
        obtain ⟨h0, h1⟩ := rel_getIter hr hg he
        rw [h0, Nat.zero_add]
        have hgo : (getObj e.blk).run P w = .ok (.stringIter s p) w := run_getObj h1 (by simp)
        cases hb : Nat.blt p s.size with
        | true =>
          rw [hb, cond_true] at h
          have hlt : p < s.size := Nat.blt_eq.mp hb
          split at h
          · rename_i A1 hset
            cases h
            refine ⟨φ, _, _, ?_, VRel.of_plain φ _ (by simp [plain, plainL]), step_setIter hr he h0 hset⟩
            unfold Instr.next
            simp only
            refine run_then hgo ?_
            simp only [hlt, if_true]
            refine run_then (run_setObj h1 (by simp)) ?_
            rfl
          · cases h
        | false =>
          rw [hb, cond_false] at h
          cases h
          have hge : ¬ p < s.size := fun hlt => by rw [Nat.blt_eq.mpr hlt] at hb; cases hb
          refine ⟨φ, w, .tuple #[.bool false], ?_, VRel.of_plain φ _ (by simp [plain, plainL]), Step.refl hr⟩
          unfold Instr.next
          simp only
          refine run_then hgo ?_
          simp only [hge, if_false]
          rfl
    · cases h
  · cases h
end
end AE
end Go.Proofs.YtblhndlmgibljaaDoor

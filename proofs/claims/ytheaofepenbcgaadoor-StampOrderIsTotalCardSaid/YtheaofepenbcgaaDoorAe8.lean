/- AE, part 8: append. -/
import Derived.Test.YtheaofepenbcgaaDoorAe7
namespace Go.Proofs.YtheaofepenbcgaaDoor
open Go
namespace AE
variable [Sig]

omit [Sig] in
theorem growBy_le (newLen : Nat) : ∀ (r c : Nat), Builtin.growBy newLen r c ≤ (c + 768) * 2 ^ r
  | 0, c => by simp [Builtin.growBy]
  | r + 1, c => by
    unfold Builtin.growBy
    split
    · have : 1 ≤ 2 ^ (r + 1) := Nat.one_le_two_pow
      calc c ≤ c + 768 := by omega
        _ = (c + 768) * 1 := by omega
        _ ≤ (c + 768) * 2 ^ (r + 1) := Nat.mul_le_mul_left _ this
    · have h := growBy_le newLen r (c + (c + 768) / 4)
      calc _ ≤ (c + (c + 768) / 4 + 768) * 2 ^ r := h
        _ ≤ ((c + 768) * 2) * 2 ^ r := Nat.mul_le_mul_right _ (by omega)
        _ = (c + 768) * 2 ^ (r + 1) := by rw [Nat.pow_succ, Nat.mul_assoc, Nat.mul_comm 2]

omit [Sig] in
theorem nextcap_le {need c : Nat} (h : c < need) (hn : need ≤ 1048576) : Builtin.nextslicecap need c ≤ 33554432 := by
  unfold Builtin.nextslicecap
  split
  · omega
  · split
    · omega
    · have h4 := growBy_le need 4 c
      have h16 : (c + 768) * 2 ^ 4 ≤ 33554432 := by
        rw [show (2 : Nat) ^ 4 = 16 from rfl]; omega
      exact Nat.le_trans h4 h16

omit [Sig] in
theorem zeroCells_size (z : Array Value) (n : Nat) : (Builtin.zeroCells z n).size = n * z.size := by simp [Builtin.zeroCells]

section
variable {P : Program} {φ : Emb} {A A' : AS} {w : World}

omit [Sig] in
/-- A computation that reads cells alone: run in a world with the same heap. -/
theorem run_drawn_loadCells (a : Addr) (n : Nat) {v : Array Value} (h : (loadCells a n).run P w = .ok v w) (d : Nat) (hc : ∀ j, j < n → ∃ u, w.cell? (a.add j) = some u) : (loadCells a n).run P { w with drawn := d } = .ok v { w with drawn := d } := by
  let f : Nat → Value := fun j => (w.cell? (a.add j)).getD undef
  have hf : ∀ j, j < n → w.cell? (a.add j) = some (f j) := fun j hj => by
    obtain ⟨u, hu⟩ := hc j hj
    simp [f, hu]
  have h1 := run_loadCells (P := P) w a n f hf
  rw [h] at h1
  have h2 := run_loadCells (P := P) { w with drawn := d } a n f hf
  rw [h2]
  injection h1 with h1
  rw [h1]

/-- What is appended. -/
def aNews (A : AS) (sz : Nat) : Value → Option (Nat × List Value)
  | .slice (some ⟨b, off, none⟩) n _ => (A.loadN b off (n * sz)).map fun l => (n, l)
  | .slice none 0 0 => some (0, [])
  | .string s => bif sz == 1 then some (s.size, s.data.toList.map fun b => .int .u8 b.toNat) else none
  | _ => none

theorem news_run (hr : Rel φ A w) {sz n : Nat} {x x' : Value} {l : List Value} (hx : VRel φ x x') (h : aNews A sz x = some (n, l)) :
    l.length = n * sz ∧ ∃ new' : Array Value, new'.size = l.length ∧ (∀ j, j < l.length → VRel φ (l.getD j undef) (new'.getD j undef)) ∧
      (∀ d, (Builtin.lenOf x').run P { w with drawn := d } = .ok n { w with drawn := d }) ∧ ∀ d, (Builtin.firstCells sz n x').run P { w with drawn := d } = .ok new' { w with drawn := d } := by
  unfold aNews at h
  split at h
  · rename_i b off n' c
    obtain ⟨l', hl', heq⟩ := Option.map_eq_some_iff.1 h
    simp only [Prod.mk.injEq] at heq
    obtain ⟨rfl, rfl⟩ := heq
    obtain ⟨hlen, hjs⟩ := loadN_spec hl'
    have main : ∀ (e : Em) (c' : Nat), φ b = some e → ∃ new' : Array Value, new'.size = l'.length ∧ (∀ j, j < l'.length → VRel φ (l'.getD j undef) (new'.getD j undef)) ∧
      (∀ d, (Builtin.lenOf (.slice (some ⟨e.blk, e.sh + off, none⟩) n' c')).run P { w with drawn := d } = .ok n' { w with drawn := d }) ∧ ∀ d, (Builtin.firstCells sz n' (.slice (some ⟨e.blk, e.sh + off, none⟩) n' c')).run P { w with drawn := d } = .ok new' { w with drawn := d } := by
      intro e c' he
      obtain ⟨vs', h1, h2, h3⟩ := run_loadN hr P hl' he
      refine ⟨vs', h2, h3, fun d => rfl, fun d => ?_⟩
      exact run_drawn_loadCells _ _ h1 d fun j hj => by
        obtain ⟨v', g1, _⟩ := rel_load hr (hjs j hj) he
        exact ⟨v', by rw [Addr.add_at, Nat.add_assoc]; exact g1⟩
    cases hx with
    | slx _ c' he => exact ⟨hlen, main _ _ he⟩
    | slg _ _ c' he _ _ _ => exact ⟨hlen, main _ _ he⟩
    | slz a' _ =>
      have : l' = [] := by simpa using hlen
      subst this
      refine ⟨by simp, #[], rfl, fun j hj => absurd hj (by simp), fun d => rfl, fun d => ?_⟩
      simp [Builtin.firstCells, loadCells, loadCellsFrom, Sem.run, pure]
  · simp only [Option.some.injEq, Prod.mk.injEq] at h
    obtain ⟨rfl, rfl⟩ := h
    cases hx with
    | slnil => exact ⟨by simp, #[], rfl, fun j hj => absurd hj (by simp), fun d => rfl, fun d => rfl⟩
  · rename_i s
    cases hs : (sz == 1) with
    | false => rw [hs] at h; cases h
    | true =>
      rw [hs, cond_true] at h
      simp only [Option.some.injEq, Prod.mk.injEq] at h
      obtain ⟨rfl, rfl⟩ := h
      have hs1 : sz = 1 := by simpa using hs
      cases hx with
      | string =>
        refine ⟨by simp [hs1], (s.data.toList.map fun b => Value.int .u8 b.toNat).toArray, by simp, fun j hj => ?_, fun d => rfl, fun d => ?_⟩
        · simp only [Array.getD_eq_getD_getElem?, List.getElem?_toArray, List.getD_eq_getElem?_getD]
          have hj' : j < s.data.toList.length := by simpa using hj
          simp only [List.getElem?_map, List.getElem?_eq_getElem hj', Option.map_some, Option.getD_some]
          exact .int _ _
        · simp only [Builtin.firstCells]
          show Result.ok _ _ = Result.ok _ _
          congr 1
          have : (s.extract 0 s.size) = s := by simp
          rw [this]
          apply Array.ext'
          simp
  · cases h

omit [Sig] in
theorem run_pre {α β : Type} {s : Sem α} {k : α → Sem β} {a : α} {w : World} {r : Result β} (h : pureRun P s = some a) (hk : (k a).run P w = r) : (s >>= k).run P w = r := by
  rw [Sem.run_bind, pureRun_run h w]; exact hk
omit [Sig] in
theorem run_then {α β : Type} {s : Sem α} {k : α → Sem β} {a : α} {w w1 : World} {r : Result β} (h : s.run P w = .ok a w1) (hk : (k a).run P w1 = r) : (s >>= k).run P w = r := by
  rw [Sem.run_bind, h]; exact hk

def isIntD : TypeDesc → Bool
  | .int _ => true
  | _ => false

omit [Sig] in
/-- The run of append, in two cases. -/
theorem run_append_fits {ts : Array TypeId} {t t2 elem ty : TypeId} {sz n sLen sCap : Nat} {base : Option Addr} {x' : Value} {new' : Array Value} (h0 : ts[0]? = some t) (h1 : ts[1]? = some t2)
    (hu : pureRun P (underlying t) = some (.slice elem)) {d2 : TypeDesc} (hu2 : pureRun P (underlying t2) = some d2) (hd : isIntD d2 = false) (hsz : pureRun P (sizeOf elem) = some sz)
    (hlen : (Builtin.lenOf x').run P w = .ok n w) (hfirst : (Builtin.firstCells sz n x').run P w = .ok new' w) (hfit : sLen + n ≤ sCap) {w' : World}
    (hst : (match base with | some a => storeCells (a.add (sLen * sz)) new'.toList | none => pure ()).run P w = .ok () w') :
    (Builtin.append_ ts ty #[.slice base sLen sCap, x']).run P w = .ok (.slice base (sLen + n) sCap) w' := by
  unfold Builtin.append_
  simp only [h0, h1, List.getElem?_toArray, List.getElem?_cons_zero, List.getElem?_cons_succ]
  refine run_pre hu ?_
  simp only
  refine run_pre hsz ?_
  refine run_pre hu2 ?_
  refine run_pre (a := false) (by cases d2 <;> first | rfl | cases hd) ?_
  simp only [Bool.false_eq_true, if_false]
  refine run_then hlen ?_
  rw [if_pos hfit]
  simp only [Bool.not_false, if_true]
  refine run_then hfirst ?_
  cases base with
  | none =>
    have : w' = w := by
      have h : Result.ok () w = Result.ok () w' := hst
      injection h with _ h
      exact h.symm
    subst this
    rfl
  | some a => exact run_then hst rfl

omit [Sig] in
theorem run_append_grows {ts : Array TypeId} {t t2 elem ty : TypeId} {info : TypeInfo} {z : Value} {sz n sLen sCap : Nat} {base : Option Addr} {x' : Value} {old' new' : Array Value} (h0 : ts[0]? = some t) (h1 : ts[1]? = some t2)
    (hu : pureRun P (underlying t) = some (.slice elem)) {d2 : TypeDesc} (hu2 : pureRun P (underlying t2) = some d2) (hd : isIntD d2 = false) (hsz : pureRun P (sizeOf elem) = some sz)
    (hi : pureRun P (typeInfo elem) = some info) (hzv : pureRun P (zeroValue elem) = some z) (hb0 : info.bytes ≠ 0) (hb : info.bytes ≤ 65536) (hneed : sLen + n ≤ 1048576)
    (hlen : (Builtin.lenOf x').run P w = .ok n w) (hfirst : ∀ d, (Builtin.firstCells sz n x').run P { w with drawn := d } = .ok new' { w with drawn := d })
    (hold : ∀ d, (Builtin.firstCells sz sLen (.slice base sLen sCap)).run P { w with drawn := d } = .ok old' { w with drawn := d }) (hfit : sCap < sLen + n) :
    ∃ newCap, sLen + n ≤ newCap ∧ (Builtin.append_ ts ty #[.slice base sLen sCap, x']).run P w =
      .ok (.slice (some ⟨w.heap.size, 0, none⟩) (sLen + n) newCap) { w with drawn := w.drawn + 1, heap := w.heap.push (.cells (old' ++ new' ++ Builtin.zeroCells z.cells (newCap - (sLen + n))) elem) } := by
  refine ⟨(Question.appendCap (sLen + n) sCap elem).cut (w.tape w.drawn (.appendCap (sLen + n) sCap elem)), by simp [Question.cut], ?_⟩
  unfold Builtin.append_
  simp only [h0, h1, List.getElem?_toArray, List.getElem?_cons_zero, List.getElem?_cons_succ]
  refine run_pre hu ?_
  simp only
  refine run_pre hsz ?_
  refine run_pre hu2 ?_
  refine run_pre (a := false) (by cases d2 <;> first | rfl | cases hd) ?_
  simp only [Bool.false_eq_true, if_false]
  refine run_then hlen ?_
  rw [if_neg (by omega)]
  refine run_pre hi ?_
  rw [if_neg (by simp [hb0])]
  refine run_pre hi ?_
  have hcap := nextcap_le hfit hneed
  have hle : ¬ (Builtin.nextslicecap (sLen + n) sCap * info.bytes > 2 ^ 48) := by
    have h := Nat.mul_le_mul hcap hb
    have h2 : 33554432 * 65536 ≤ 2 ^ 48 := by decide
    omega
  rw [if_neg hle]
  refine run_then (w1 := { w with drawn := w.drawn + 1 }) (a := (Question.appendCap (sLen + n) sCap elem).cut (w.tape w.drawn (.appendCap (sLen + n) sCap elem))) (by simp [choose, Sem.run, Question.forced]) ?_
  refine run_pre hi ?_
  refine run_then (w1 := { w with drawn := w.drawn + 1 }) (a := ()) (by unfold askRoom; split <;> rfl) ?_
  refine run_then (hold _) ?_
  simp only [Bool.not_false, if_true]
  refine run_then (hfirst _) ?_
  refine run_pre hzv ?_
  refine run_then (a := (⟨w.heap.size, 0, none⟩ : Addr)) (by simp only [newRow, newObj]; rfl) ?_
  rfl

end
end AE
end Go.Proofs.YtheaofepenbcgaaDoor

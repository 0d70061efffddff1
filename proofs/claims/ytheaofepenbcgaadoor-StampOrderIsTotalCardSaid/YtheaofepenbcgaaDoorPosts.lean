/- A law for a region that draws its order of evaluation: each of its operations is shown once, from what the operations that it needs have left; what they leave is stable under a preorder G on worlds. -/
import Derived.WalkKit
import Derived.Orders
namespace Go.Proofs.YtheaofepenbcgaaDoor
open Go

section
variable {P : Program} {ops : Array Oper}

def dstOf (ops : Array Oper) (j : Nat) : Option Tmp := (ops[j]?).bind (·.dst)

/-- The frame a with the values v of the operations js. -/
def putAll (ops : Array Oper) (v : Nat → Value) : List Nat → Act → Act
  | [], a => a
  | j :: r, a => putAll ops v r (a.put (dstOf ops j) (v j))

/-- The first m operations that write what o looks at. -/
def needs (ops : Array Oper) (m : Nat) (o : Oper) : List Nat := (List.range m).filter fun j => match dstOf ops j with
  | some d => (o.looksAt ops).contains d
  | none => false

def direct (ops : Array Oper) (i j : Nat) : Bool := match ops[i]? with
  | some o => o.after.any fun e => Region.binds .any e && e.on == j
  | none => false

def anc (ops : Array Oper) : Nat → Nat → Nat → Bool
  | 0, i, j => direct ops i j
  | n + 1, i, j => direct ops i j || (List.range ops.size).any fun k => direct ops i k && anc ops n k j

def freeOk (ops : Array Oper) (m N : Nat) : Bool :=
  decide (m ≤ ops.size) && Region.noSelect ops &&
  ((List.range m).all fun i => (List.range m).all fun j => i == j || dstOf ops i == none || dstOf ops i != dstOf ops j) &&
  ((List.range m).all fun i => match dstOf ops i with | some d => decide (d < N) | none => true) &&
  ((List.range m).all fun i => match ops[i]? with | some o => (needs ops m o).all (direct ops i ·) | none => false) &&
  ((List.range ops.size).all fun i => match ops[i]? with | some o => o.after.all (fun e => !Region.binds .any e || decide (e.on < i)) | none => false) &&
  ((List.range ops.size).all fun i => decide (i < m) || (List.range i).all fun j => anc ops 8 i j)

/-- What one operation is to leave. -/
def QPost (Q : Exit → Act → World → Prop) (G : World → World → Prop) (post : Value → World → Prop) (sep : Bool) (dst : Option Tmp) (ds : List Deferred) (w : World) : Exit → Act → World → Prop
  | .normal, a', w' => a'.defers = ds ∧ G w w' ∧ match dst with
    | none => True
    | some t => post (a'.tmps.getD t undef) w' ∧ (sep = true → ∃ b o s, a'.tmps.getD t undef = .pointer (some ⟨b, o, s⟩) ∧ w.heap.size ≤ b)
  | .outgrown, a', w' => Q .outgrown a' w'
  | _, _, _ => False

theorem wp_transfer {o : Oper} {a c : Act} {w : World} {Q : Exit → Act → World → Prop} {G : World → World → Prop} {post : Value → World → Prop} {sep : Bool} {ds : List Deferred} {K : Act → World → Prop}
    (he : execOp a.eval o = execOp c.eval o) (hd : c.defers = ds)
    (hK : ∀ v w', QPost Q G post sep o.dst ds w .normal (c.put o.dst v) w' → K (a.put o.dst v) w')
    (h : o.wp P c w (fun a' w' => QPost Q G post sep o.dst ds w .normal a' w') (QPost Q G post sep o.dst ds w)) : o.wp P a w K Q := by
  unfold Oper.wp at *
  rw [he]
  generalize (execOp c.eval o).run P w = r at *
  cases r with
  | ok n w' =>
    cases n <;> simp only [Oper.upon] at h ⊢
    case value v => exact hK _ _ h
    case skip => exact hK _ _ h
    case defer d =>
      have hdd := h.1
      exfalso
      have : (({ tmps := c.tmps, defers := d :: c.defers } : Act).put o.dst undef).defers = d :: c.defers := by cases o.dst <;> rfl
      rw [this, hd] at hdd
      have := congrArg List.length hdd
      simp at this
    case enter f args =>
      refine Calls.mono h fun e w'' he => ?_
      cases e with
      | returned v => exact hK _ _ he
      | panicked ch => exact he.elim
      | outgrown => exact he
    case row row args => exact Rows.mono h fun v w'' he => hK _ _ he
    all_goals exact h
  | halt x w' => cases x <;> simp only [Oper.upon] at h ⊢ <;> first | exact h.elim | exact h

theorem asks_congr {o : Oper} {a c : Act} {w : World} (he : execOp a.eval o = execOp c.eval o) (h : o.asks P c w) : o.asks P a w := by
  unfold Oper.asks at *
  rw [he]
  exact h


theorem Act.size_put (a : Act) (d : Option Tmp) (v : Value) : (a.put d v).tmps.size = a.tmps.size := by cases d <;> simp [Act.put]
theorem Act.defers_put (a : Act) (d : Option Tmp) (v : Value) : (a.put d v).defers = a.defers := by cases d <;> rfl
theorem Act.get_put (a : Act) (d : Option Tmp) (v : Value) (t : Nat) (ht : t < a.tmps.size) : (a.put d v).tmps.getD t undef = if d = some t then v else a.tmps.getD t undef := by
  cases d with
  | none => simp [Act.put]
  | some d =>
    simp only [Act.put, Option.some.injEq, Array.getD_eq_getD_getElem?, Array.getElem?_setIfInBounds]
    by_cases h : d = t
    · subst h; simp [ht]
    · simp [h]

theorem putAll_size (v : Nat → Value) : ∀ (js : List Nat) (a : Act), (putAll ops v js a).tmps.size = a.tmps.size
  | [], _ => rfl
  | j :: r, a => by rw [putAll, putAll_size v r, Act.size_put]
theorem putAll_defers (v : Nat → Value) : ∀ (js : List Nat) (a : Act), (putAll ops v js a).defers = a.defers
  | [], _ => rfl
  | j :: r, a => by rw [putAll, putAll_defers v r, Act.defers_put]

/-- The values of the operations in a frame. -/
def valsOf (ops : Array Oper) (a : Act) (j : Nat) : Value := match dstOf ops j with
  | some t => a.tmps.getD t undef
  | none => undef

theorem putAll_get (a : Act) (t : Nat) : ∀ (js : List Nat) (c : Act), t < c.tmps.size →
    (putAll ops (valsOf ops a) js c).tmps.getD t undef = if ∃ j ∈ js, dstOf ops j = some t then a.tmps.getD t undef else c.tmps.getD t undef
  | [], c, _ => by simp [putAll]
  | j :: r, c, ht => by
    rw [putAll, putAll_get a t r _ (by rw [Act.size_put]; exact ht), Act.get_put _ _ _ _ ht]
    by_cases h : ∃ j ∈ r, dstOf ops j = some t
    · rw [if_pos h, if_pos (by obtain ⟨k, hk, hd⟩ := h; exact ⟨k, List.mem_cons_of_mem _ hk, hd⟩)]
    · rw [if_neg h]
      by_cases hj : dstOf ops j = some t
      · rw [if_pos hj, if_pos ⟨j, List.mem_cons_self, hj⟩]
        simp [valsOf, hj]
      · rw [if_neg hj, if_neg]
        rintro ⟨k, hk, hd⟩
        rcases List.mem_cons.1 hk with rfl | hk
        · exact hj hd
        · exact h ⟨k, hk, hd⟩

theorem Act.ext_get {a c : Act} (hs : a.tmps.size = c.tmps.size) (hd : a.defers = c.defers) (h : ∀ t, t < a.tmps.size → a.tmps.getD t undef = c.tmps.getD t undef) : a = c := by
  obtain ⟨at_, ad⟩ := a
  obtain ⟨ct, cd⟩ := c
  simp only at hd hs h
  subst hd
  congr 1
  apply Array.ext hs
  intro i h1 h2
  have := h i h1
  simpa [Array.getD_eq_getD_getElem?, h1, h2] using this

structure Inv (ops : Array Oper) (m : Nat) (G : World → World → Prop) (Post : Nat → Value → World → Prop) (sepF : Nat → Bool) (a0 : Act) (w0 : World) (listed : Array Bool) (a : Act) (w : World) : Prop where
  size : listed.size = ops.size
  down : ∀ i j, listed.getD i false = true → direct ops i j = true → listed.getD j false = true
  tailoff : ∀ i, m ≤ i → listed.getD i false = false
  defers : a.defers = a0.defers
  tsize : a.tmps.size = a0.tmps.size
  g : G w0 w
  other : ∀ t, (∀ i, i < m → listed.getD i false = true → dstOf ops i ≠ some t) → a.tmps.getD t undef = a0.tmps.getD t undef
  post : ∀ i t, i < m → listed.getD i false = true → dstOf ops i = some t → Post i (a.tmps.getD t undef) w
  sep : ∀ i j t u b o s b' o' s', i < m → j < m → i ≠ j → listed.getD i false = true → listed.getD j false = true → sepF i = true → sepF j = true → dstOf ops i = some t → dstOf ops j = some u →
    a.tmps.getD t undef = .pointer (some ⟨b, o, s⟩) → a.tmps.getD u undef = .pointer (some ⟨b', o', s'⟩) → b ≠ b'

theorem anc_listed {listed : Array Bool} (down : ∀ i j, listed.getD i false = true → direct ops i j = true → listed.getD j false = true) :
    ∀ (n i j : Nat), (∀ k, direct ops i k = true → listed.getD k false = true) → anc ops n i j = true → listed.getD j false = true
  | 0, i, j, h, ha => h j ha
  | n + 1, i, j, h, ha => by
    simp only [anc, Bool.or_eq_true, List.any_eq_true, Bool.and_eq_true] at ha
    rcases ha with ha | ⟨k, _, hk, ha⟩
    · exact h j ha
    · exact anc_listed down n k j (fun l hl => down k l (h k hk) hl) ha

theorem ready_direct {listed : Array Bool} {i : Nat} (h : i ∈ Region.ready .any ops listed) : ∀ k, direct ops i k = true → listed.getD k false = true := by
  intro k hk
  obtain ⟨_, o, ho, hall⟩ := mem_ready.1 h
  simp only [direct, ho] at hk
  obtain ⟨e, he, hb⟩ := Array.any_eq_true'.1 hk
  simp only [Bool.and_eq_true, beq_iff_eq] at hb
  exact hb.2 ▸ hall e he hb.1

def unl (listed : Array Bool) : Nat := listed.toList.count false

theorem count_set_false : ∀ (l : List Bool) (i : Nat), l[i]? = some false → (l.set i true).count false + 1 = l.count false
  | [], i, h => by simp at h
  | b :: r, 0, h => by simp at h; subst h; simp
  | b :: r, i + 1, h => by
    have := count_set_false r i (by simpa using h)
    simp only [List.set_cons_succ, List.count_cons]
    omega

theorem unl_set {listed : Array Bool} {i : Nat} (hi : i < listed.size) (h : listed.getD i true = false) : unl (listed.setIfInBounds i true) + 1 = unl listed := by
  unfold unl
  rw [Array.toList_setIfInBounds]
  refine count_set_false _ _ ?_
  have : listed[i]? = some listed[i] := Array.getElem?_eq_getElem hi
  simp only [Array.getD_eq_getD_getElem?, this, Option.getD_some] at h
  rw [Array.getElem?_toList, this, h]


theorem getD_true_of_lt {listed : Array Bool} {i : Nat} (h : i < listed.size) : listed.getD i true = listed.getD i false := by
  simp [Array.getD_eq_getD_getElem?, h]

theorem freeOk_spec {m N : Nat} (h : freeOk ops m N = true) : m ≤ ops.size ∧ Region.noSelect ops = true ∧
    (∀ i j, i < m → j < m → i ≠ j → ∀ t, dstOf ops i = some t → dstOf ops j ≠ some t) ∧ (∀ i t, i < m → dstOf ops i = some t → t < N) ∧
    (∀ i o, i < m → ops[i]? = some o → ∀ j ∈ needs ops m o, direct ops i j = true) ∧ (∀ i j, i < ops.size → direct ops i j = true → j < i) ∧
    (∀ i j, i < ops.size → m ≤ i → j < i → anc ops 8 i j = true) := by
  simp only [freeOk, Bool.and_eq_true, decide_eq_true_eq, List.all_eq_true, List.mem_range] at h
  obtain ⟨⟨⟨⟨⟨⟨h1, h2⟩, h3⟩, h4⟩, h5⟩, h6⟩, h7⟩ := h
  refine ⟨h1, h2, ?_, ?_, ?_, ?_, ?_⟩
  · intro i j hi hj hne t ht ht'
    have := h3 i hi j hj
    simp [hne, ht, ht'] at this
  · intro i t hi ht
    have := h4 i hi
    simpa [ht] using this
  · intro i o hi ho j hj
    have := h5 i hi
    simp only [ho, List.all_eq_true] at this
    exact this j hj
  · intro i j hi hd
    have := h6 i hi
    unfold direct at hd
    have ho : ops[i]? = some ops[i] := Array.getElem?_eq_getElem hi
    simp only [ho] at this hd
    obtain ⟨e, he, hb⟩ := Array.any_eq_true'.1 hd
    simp only [Bool.and_eq_true, beq_iff_eq] at hb
    have h' := Array.all_eq_true_iff_forall_mem.1 this e he
    simp only [hb.1, Bool.not_true, Bool.false_or, decide_eq_true_eq] at h'
    exact hb.2 ▸ h'
  · intro i j hi hm hj
    have := h7 i hi
    simp only [Bool.or_eq_true, decide_eq_true_eq, List.all_eq_true, List.mem_range] at this
    exact this.resolve_left (by omega) j hj

theorem tail_phase {Q : Exit → Act → World → Prop} {m N : Nat} (hok : freeOk ops m N = true) :
    ∀ (fuel k : Nat) (listed : Array Bool) (a : Act) (w : World), m ≤ k → listed.size = ops.size → (∀ i, listed.getD i false = decide (i < k ∧ i < ops.size)) →
      unl listed ≤ fuel → wpList P ops Q (ops.toList.drop k) a w → wpAny P .any ops Q fuel listed a w := by
  obtain ⟨hm, hsel, hdst, hlt, hneed, hback, hanc⟩ := freeOk_spec hok
  intro fuel
  induction fuel with
  | zero =>
    intro k listed a w hmk hs hl hf h
    have hk : ops.size ≤ k := by
      rcases Nat.lt_or_ge k ops.size with hk | hk
      · exfalso
        have h1 := hl k
        simp only [Nat.lt_irrefl, false_and, decide_false] at h1
        have := unl_set (i := k) (listed := listed) (by omega) (by rw [getD_true_of_lt (by omega)]; exact h1)
        omega
      · exact hk
    have hr : Region.ready .any ops listed = [] := by
      apply List.eq_nil_iff_forall_not_mem.2
      intro i hi
      obtain ⟨h0, o, ho, _⟩ := mem_ready.1 hi
      have hio : i < ops.size := (Array.getElem?_eq_some_iff.1 ho).1
      rw [getD_true_of_lt (by omega), hl i] at h0
      simp [hio] at h0
      omega
    rw [List.drop_of_length_le (by simpa using hk)] at h
    exact ⟨hr, h⟩
  | succ fuel ih =>
    intro k listed a w hmk hs hl hf h
    rcases Nat.lt_or_ge k ops.size with hk | hk
    · have hkf : listed.getD k false = false := by rw [hl k]; simp
      have ho : ops[k]? = some ops[k] := Array.getElem?_eq_getElem hk
      have hready : k ∈ Region.ready .any ops listed := by
        refine mem_ready.2 ⟨by rw [getD_true_of_lt (by omega)]; exact hkf, ops[k], ho, fun e he hb => ?_⟩
        have : direct ops k e.on = true := by
          simp only [direct, ho]
          exact Array.any_eq_true'.2 ⟨e, he, by simp [hb]⟩
        have := hback k e.on hk this
        rw [hl e.on]
        simp; omega
      refine ⟨fun h0 => absurd (h0 ▸ hready) (by simp), fun i hi => ?_⟩
      have hik : i = k := by
        obtain ⟨h0, o, ho', _⟩ := mem_ready.1 hi
        have hio : i < ops.size := (Array.getElem?_eq_some_iff.1 ho').1
        rw [getD_true_of_lt (by omega), hl i] at h0
        simp only [hio, and_true, decide_eq_false_iff_not, Nat.not_lt] at h0
        rcases Nat.lt_or_eq_of_le h0 with hki | hki
        · exfalso
          have down : ∀ i j, listed.getD i false = true → direct ops i j = true → listed.getD j false = true := by
            intro i j h1 h2
            rw [hl i] at h1
            simp only [decide_eq_true_eq] at h1
            have := hback i j h1.2 h2
            rw [hl j]
            simp; omega
          have := anc_listed down 8 i k (ready_direct hi) (hanc i k hio (by omega) hki)
          rw [hkf] at this
          cases this
        · exact hki.symm
      subst hik
      have hdrop : ops.toList.drop i = ops[i] :: ops.toList.drop (i + 1) := by
        rw [List.drop_eq_getElem_cons (by simpa using hk)]
        simp
      rw [hdrop] at h
      have hnext : ∀ a' w', wpList P ops Q (ops.toList.drop (i + 1)) a' w' → wpAny P .any ops Q fuel (listed.setIfInBounds i true) a' w' := by
        intro a' w' h'
        refine ih (i + 1) _ a' w' (by omega) (by simpa using hs) ?_ ?_ h'
        · intro j
          by_cases hj : j = i
          · subst hj
            simp [Array.getD_eq_getD_getElem?, hs, hk]
          · rw [getD_set_ne false (Ne.symm hj), hl j]
            congr 1
            simp only [eq_iff_iff]
            omega
        · have := unl_set (i := i) (listed := listed) (by omega) (by rw [getD_true_of_lt (by omega)]; exact hkf)
          omega
      unfold wpOp
      simp only [ho]
      unfold wpList at h
      split at h
      · rename_i hw
        rw [if_pos hw]
        exact h.imp (Oper.wp_mono hnext) id
      · rename_i hw
        rw [if_neg hw]
        exact hnext _ _ h
    · refine ⟨fun _ => ?_, fun i hi => ?_⟩
      · rw [List.drop_of_length_le (by simpa using hk)] at h
        exact h
      · exfalso
        obtain ⟨h0, o, ho, _⟩ := mem_ready.1 hi
        have hio : i < ops.size := (Array.getElem?_eq_some_iff.1 ho).1
        rw [getD_true_of_lt (by omega), hl i] at h0
        simp [hio] at h0
        omega


theorem eval_agree {m N : Nat} (hok : freeOk ops m N = true) {G : World → World → Prop} {Post : Nat → Value → World → Prop} {sepF : Nat → Bool} {a0 : Act} {w0 : World} (hN : a0.tmps.size = N) {listed : Array Bool} {a : Act} {w : World}
    (hI : Inv ops m G Post sepF a0 w0 listed a w) {o : Oper} :
    (∀ t : Nat, t ∈ o.looksAt ops → t < N → a.tmps.getD t undef = (putAll ops (valsOf ops a) (needs ops m o) a0).tmps.getD t undef) := by
  obtain ⟨hm, hsel, hdst, hlt, hneed, hback, hanc⟩ := freeOk_spec hok
  intro t ht htN
  rw [putAll_get a t _ _ (by rw [hN]; exact htN)]
  by_cases h : ∃ j ∈ needs ops m o, dstOf ops j = some t
  · rw [if_pos h]
  · rw [if_neg h]
    refine hI.other t fun j hj hlj hd => h ⟨j, ?_, hd⟩
    unfold needs
    rw [List.mem_filter, List.mem_range]
    exact ⟨hj, by simp [hd, ht]⟩

theorem free_phase {Q : Exit → Act → World → Prop} {m N : Nat} (hok : freeOk ops m N = true)
    {G : World → World → Prop} (htrans : ∀ a b c, G a b → G b c → G a c) {Post : Nat → Value → World → Prop} (hstab : ∀ i v w w', Post i v w → G w w' → Post i v w')
    {sepF : Nat → Bool} (hsep : ∀ i v w b o s, sepF i = true → Post i v w → v = .pointer (some ⟨b, o, s⟩) → b < w.heap.size) {a0 : Act} {w0 : World} (hN : a0.tmps.size = N)
    (hops : ∀ i o, i < m → ops[i]? = some o → ∀ (v : Nat → Value) (w1 : World), G w0 w1 → (∀ j, j ∈ needs ops m o → Post j (v j) w1) →
      wpList P ops (QPost Q G (Post i) (sepF i) o.dst a0.defers w1) [o] (putAll ops v (needs ops m o) a0) w1)
    (htail : ∀ v w1, G w0 w1 → (∀ j, j < m → dstOf ops j ≠ none → Post j (v j) w1) →
      (∀ i j b o s b' o' s', i < m → j < m → i ≠ j → sepF i = true → sepF j = true → v i = .pointer (some ⟨b, o, s⟩) → v j = .pointer (some ⟨b', o', s'⟩) → b ≠ b') →
      wpList P ops Q (ops.toList.drop m) (putAll ops v (List.range m) a0) w1) :
    ∀ (fuel : Nat) (listed : Array Bool) (a : Act) (w : World), Inv ops m G Post sepF a0 w0 listed a w → unl listed ≤ fuel → wpAny P .any ops Q fuel listed a w := by
  obtain ⟨hm, hsel, hdst, hlt, hneed, hback, hanc⟩ := freeOk_spec hok
  intro fuel
  induction fuel with
  | zero =>
    intro listed a w hI hf
    -- nothing is left unlisted: so there is no operation behind the free ones, and all of them are listed
    have hall : ∀ i, i < ops.size → listed.getD i false = true := by
      intro i hi
      cases h : listed.getD i false with
      | true => rfl
      | false =>
        exfalso
        have := unl_set (i := i) (listed := listed) (by have := hI.size; omega) (by rw [getD_true_of_lt (by have := hI.size; omega)]; exact h)
        omega
    have hms : m = ops.size := by
      rcases Nat.lt_or_ge m ops.size with h | h
      · have h1 := hall m h
        rw [hI.tailoff m (Nat.le_refl _)] at h1
        cases h1
      · omega
    exact tail_phase hok 0 m listed a w (Nat.le_refl _) hI.size (fun i => by
      by_cases hi : i < ops.size
      · rw [hall i hi]; simp; omega
      · rw [hI.tailoff i (by omega)]; simp; omega) hf (by
      have e : a = putAll ops (valsOf ops a) (List.range m) a0 := Act.ext_get (by rw [putAll_size]; exact hI.tsize) (by rw [putAll_defers]; exact hI.defers) fun t ht => by
        rw [putAll_get a t _ _ (by rw [← hI.tsize]; exact ht)]
        by_cases h : ∃ j ∈ List.range m, dstOf ops j = some t
        · rw [if_pos h]
        · rw [if_neg h]
          exact hI.other t fun j hj _ hd => h ⟨j, List.mem_range.2 hj, hd⟩
      rw [e]
      refine htail _ w hI.g (fun j hj hd => ?_) (fun i j b o s b' o' s' hi hj hne hsi hsj hvi hvj => ?_)
      · cases hdj : dstOf ops j with
        | none => exact absurd hdj hd
        | some t =>
          have := hI.post j t hj (hall j (by omega)) hdj
          simpa [valsOf, hdj] using this
      · unfold valsOf at hvi hvj
        cases hdi : dstOf ops i with
        | none => rw [hdi] at hvi; simp [undef] at hvi
        | some t =>
          cases hdj : dstOf ops j with
          | none => rw [hdj] at hvj; simp [undef] at hvj
          | some u =>
            rw [hdi] at hvi
            rw [hdj] at hvj
            exact hI.sep i j t u b o s b' o' s' hi hj hne (hall i (by omega)) (hall j (by omega)) hsi hsj hdi hdj hvi hvj)
  | succ fuel ih =>
    intro listed a w hI hf
    by_cases hdone : ∀ i, i < m → listed.getD i false = true
    · refine tail_phase hok (fuel + 1) m listed a w (Nat.le_refl _) hI.size (fun i => ?_) hf ?_
      · by_cases hi : i < m
        · rw [hdone i hi]; simp; omega
        · rw [hI.tailoff i (by omega)]; simp; omega
      · have e : a = putAll ops (valsOf ops a) (List.range m) a0 := Act.ext_get (by rw [putAll_size]; exact hI.tsize) (by rw [putAll_defers]; exact hI.defers) fun t ht => by
          rw [putAll_get a t _ _ (by rw [← hI.tsize]; exact ht)]
          by_cases h : ∃ j ∈ List.range m, dstOf ops j = some t
          · rw [if_pos h]
          · rw [if_neg h]
            exact hI.other t fun j hj _ hd => h ⟨j, List.mem_range.2 hj, hd⟩
        rw [e]
        refine htail _ w hI.g (fun j hj hd => ?_) (fun i j b o s b' o' s' hi hj hne hsi hsj hvi hvj => ?_)
        · cases hdj : dstOf ops j with
          | none => exact absurd hdj hd
          | some t =>
            have := hI.post j t hj (hdone j hj) hdj
            simpa [valsOf, hdj] using this
        · unfold valsOf at hvi hvj
          cases hdi : dstOf ops i with
          | none => rw [hdi] at hvi; simp [undef] at hvi
          | some t =>
            cases hdj : dstOf ops j with
            | none => rw [hdj] at hvj; simp [undef] at hvj
            | some u =>
              rw [hdi] at hvi
              rw [hdj] at hvj
              exact hI.sep i j t u b o s b' o' s' hi hj hne (hdone i hi) (hdone j hj) hsi hsj hdi hdj hvi hvj
    · obtain ⟨i0, hi0⟩ := Classical.not_forall.1 hdone
      obtain ⟨hi0m, hi0f⟩ := Classical.not_imp.1 hi0
      have hi0f : listed.getD i0 false = false := by simpa using hi0f
      -- the least free operation that is not listed is ready
      have hready : Region.ready .any ops listed ≠ [] := by
        have key : ∀ n i, i < n → i < m → listed.getD i false = false → ∃ k, k ∈ Region.ready .any ops listed := by
          intro n
          induction n with
          | zero => intro i hi; omega
          | succ n ihn =>
            intro i hi him hif
            by_cases hp : ∀ k, direct ops i k = true → listed.getD k false = true
            · refine ⟨i, mem_ready.2 ⟨by rw [getD_true_of_lt (by have := hI.size; omega)]; exact hif, ops[i]'(by omega), Array.getElem?_eq_getElem _, fun e he hb => hp _ ?_⟩⟩
              have ho : ops[i]? = some (ops[i]'(by omega)) := Array.getElem?_eq_getElem _
              simp only [direct, ho]
              exact Array.any_eq_true'.2 ⟨e, he, by simp [hb]⟩
            · obtain ⟨k, hk⟩ := Classical.not_forall.1 hp
              obtain ⟨hd, hkf⟩ := Classical.not_imp.1 hk
              have := hback i k (by omega) hd
              exact ihn k (by omega) (by omega) (by simpa using hkf)
        obtain ⟨k, hk⟩ := key (i0 + 1) i0 (by omega) hi0m hi0f
        intro h
        rw [h] at hk
        cases hk
      refine ⟨fun h0 => absurd h0 hready, fun i hi => ?_⟩
      obtain ⟨hun, o, ho, _⟩ := mem_ready.1 hi
      have hio : i < ops.size := (Array.getElem?_eq_some_iff.1 ho).1
      have hlf : listed.getD i false = false := by rw [← getD_true_of_lt (by have := hI.size; omega)]; exact hun
      have him : i < m := by
        rcases Nat.lt_or_ge i m with h | h
        · exact h
        · exfalso
          have := anc_listed hI.down 8 i i0 (ready_direct hi) (hanc i i0 hio h (by omega))
          rw [hi0f] at this
          cases this
      have hag := eval_agree hok hN hI (o := o)
      have hcs : (putAll ops (valsOf ops a) (needs ops m o) a0).tmps.size = a.tmps.size := by rw [putAll_size]; exact hI.tsize.symm
      have hexec : execOp a.eval o = execOp (putAll ops (valsOf ops a) (needs ops m o) a0).eval o := by
        refine execOp_congr o (fun cs b => Region.noSelect_spec hsel i o cs b ho) fun x hx => ?_
        cases x with
        | tmp t =>
          rcases Nat.lt_or_ge t N with htN | htN
          · exact hag t (List.mem_append_left _ (List.mem_filterMap.2 ⟨.tmp t, by simpa using hx, rfl⟩)) htN
          · have h1 : a.tmps.size = N := hI.tsize.trans hN
            simp [Act.eval, Array.getD_eq_getD_getElem?, Array.getElem?_eq_none (show a.tmps.size ≤ t by omega), Array.getElem?_eq_none (show (putAll ops (valsOf ops a) (needs ops m o) a0).tmps.size ≤ t by omega)]
        | _ => rfl
      have hwant : Region.wanted o (yielded ops a.tmps) = Region.wanted o (yielded ops (putAll ops (valsOf ops a) (needs ops m o) a0).tmps) := by
        unfold Region.wanted
        cases hg : o.guard with
        | none => rfl
        | some gw =>
          obtain ⟨g, want⟩ := gw
          simp only
          congr 1
          unfold yielded
          cases hdg : (ops[g]?).bind (·.dst) with
          | none => rfl
          | some t =>
            have hmem : t ∈ o.looksAt ops := List.mem_append_right _ (by rw [hg]; simp [hdg])
            have h1 : a.tmps.size = N := hI.tsize.trans hN
            have : a.tmps[t]? = (putAll ops (valsOf ops a) (needs ops m o) a0).tmps[t]? := by
              rcases Nat.lt_or_ge t N with htN | htN
              · have := hag t hmem htN
                have e1 : a.tmps[t]? = some (a.tmps[t]'(by omega)) := Array.getElem?_eq_getElem _
                have e2 : (putAll ops (valsOf ops a) (needs ops m o) a0).tmps[t]? = some ((putAll ops (valsOf ops a) (needs ops m o) a0).tmps[t]'(by omega)) := Array.getElem?_eq_getElem _
                rw [Array.getD_eq_getD_getElem?, Array.getD_eq_getD_getElem?, e1, e2] at this
                rw [e1, e2]
                exact congrArg some this
              · rw [Array.getElem?_eq_none (by omega), Array.getElem?_eq_none (by omega)]
            simp only [Option.bind_some, this]
      have hob := hops i o him ho (valsOf ops a) w hI.g (fun j hj => by
        have hd := hneed i o him ho j hj
        have hlj := ready_direct hi j hd
        have hjm : j < m := List.mem_range.1 (List.mem_filter.1 hj).1
        cases hdj : dstOf ops j with
        | none => have := (List.mem_filter.1 hj).2; simp [hdj] at this
        | some t =>
          have := hI.post j t hjm hlj hdj
          simpa [valsOf, hdj] using this)
      -- what the operation has left gives the invariant
      have hnext : ∀ v w', QPost Q G (Post i) (sepF i) o.dst a0.defers w .normal ((putAll ops (valsOf ops a) (needs ops m o) a0).put o.dst v) w' → wpAny P .any ops Q fuel (listed.setIfInBounds i true) (a.put o.dst v) w' := by
        intro v w' hq
        obtain ⟨_, hg, hq⟩ := hq
        have hdi : dstOf ops i = o.dst := by simp [dstOf, ho]
        refine ih _ _ _ ?_ (by
          have := unl_set (i := i) (listed := listed) (by have := hI.size; omega) hun
          omega)
        have hset : ∀ j, (listed.setIfInBounds i true).getD j false = true ↔ j = i ∨ listed.getD j false = true := by
          intro j
          by_cases hj : j = i
          · subst hj
            have := hI.size
            simp [Array.getD_eq_getD_getElem?, show j < listed.size by omega]
          · rw [getD_set_ne false (Ne.symm hj)]
            simp [hj]
        have hvt : ∀ t, o.dst = some t → (a.put o.dst v).tmps.getD t undef = v ∧ ((putAll ops (valsOf ops a) (needs ops m o) a0).put o.dst v).tmps.getD t undef = v := by
          intro t ht
          have htN : (t : Nat) < N := hlt i t him (hdi.trans ht)
          have h1 : a.tmps.size = N := hI.tsize.trans hN
          exact ⟨by rw [Act.get_put _ _ _ _ (by rw [h1]; exact htN), if_pos ht], by rw [Act.get_put _ _ _ _ (by rw [hcs, h1]; exact htN), if_pos ht]⟩
        have hqv : ∀ t, o.dst = some t → Post i v w' ∧ (sepF i = true → ∃ b ob s, v = .pointer (some ⟨b, ob, s⟩) ∧ w.heap.size ≤ b) := by
          intro t ht
          have e2 := (hvt t ht).2
          rw [ht] at hq e2
          simp only [e2] at hq
          exact hq
        have hold : ∀ j t, j < m → j ≠ i → dstOf ops j = some t → (a.put o.dst v).tmps.getD t undef = a.tmps.getD t undef := by
          intro j t hj hne ht
          have h1 : a.tmps.size = N := hI.tsize.trans hN
          have h2 : (t : Nat) < N := hlt j t hj ht
          rw [Act.get_put _ _ _ _ (by rw [h1]; exact h2), if_neg]
          intro hh
          exact hdst i j him hj (Ne.symm hne) t (hdi.trans hh) ht
        refine ⟨by simpa using hI.size, ?_, ?_, ?_, ?_, htrans _ _ _ hI.g hg, ?_, ?_, ?_⟩
        · intro j k hj hd
          rw [hset] at hj ⊢
          rcases hj with rfl | hj
          · exact .inr (ready_direct hi k hd)
          · exact .inr (hI.down j k hj hd)
        · intro j hj
          rw [getD_set_ne false (by omega)]
          exact hI.tailoff j hj
        · rw [Act.defers_put]; exact hI.defers
        · rw [Act.size_put]; exact hI.tsize
        · intro t h
          have h1 : a.tmps.size = N := hI.tsize.trans hN
          have hti : o.dst ≠ some t := fun hh => h i him ((hset i).2 (.inl rfl)) (hdi.trans hh)
          have : (a.put o.dst v).tmps.getD t undef = a.tmps.getD t undef := by
            rcases Nat.lt_or_ge t N with htN | htN
            · rw [Act.get_put _ _ _ _ (by rw [h1]; exact htN), if_neg hti]
            · simp [Array.getD_eq_getD_getElem?, Array.getElem?_eq_none (show a.tmps.size ≤ t by omega), Array.getElem?_eq_none (show (a.put o.dst v).tmps.size ≤ t by rw [Act.size_put]; omega)]
          rw [this]
          exact hI.other t fun j hj hl => h j hj ((hset j).2 (.inr hl))
        · intro j t hj hl hd
          by_cases hji : j = i
          · subst hji
            have ht := hdi.symm.trans hd
            rw [(hvt t ht).1]
            exact (hqv t ht).1
          · rw [hold j t hj hji hd]
            exact hstab _ _ _ _ (hI.post j t hj (((hset j).1 hl).resolve_left hji) hd) hg
        · intro j k t u b ob s b' o' s' hj hk hne hlj hlk hsj hsk hdj hdk hvj hvk
          by_cases hji : j = i
          · subst hji
            have hki : k ≠ j := Ne.symm hne
            rw [hold k u hk hki hdk] at hvk
            have hkl := ((hset k).1 hlk).resolve_left hki
            have hb' := hsep k _ w b' o' s' hsk (hI.post k u hk hkl hdk) hvk
            have ht := hdi.symm.trans hdj
            obtain ⟨b1, o1, s1, e1, h1⟩ := (hqv t ht).2 hsj
            rw [(hvt t ht).1, e1] at hvj
            simp only [Value.pointer.injEq, Option.some.injEq, Addr.mk.injEq] at hvj
            omega
          · rw [hold j t hj hji hdj] at hvj
            have hjl := ((hset j).1 hlj).resolve_left hji
            by_cases hki : k = i
            · subst hki
              have hb := hsep j _ w b ob s hsj (hI.post j t hj hjl hdj) hvj
              have ht := hdi.symm.trans hdk
              obtain ⟨b1, o1, s1, e1, h1⟩ := (hqv u ht).2 hsk
              rw [(hvt u ht).1, e1] at hvk
              simp only [Value.pointer.injEq, Option.some.injEq, Addr.mk.injEq] at hvk
              omega
            · rw [hold k u hk hki hdk] at hvk
              have hkl := ((hset k).1 hlk).resolve_left hki
              exact hI.sep j k t u b ob s b' o' s' hj hk hne hjl hkl hsj hsk hdj hdk hvj hvk
      unfold wpOp
      simp only [ho]
      unfold wpList at hob
      rw [hwant]
      split at hob
      · rename_i hw
        rw [if_pos hw]
        rcases hob with hob | ⟨has, a1, w1, hq⟩
        · refine .inl (wp_transfer hexec (by rw [putAll_defers]) hnext ?_)
          exact Oper.wp_mono (fun a' w' h' => by unfold wpList at h'; exact h') hob
        · exact .inr ⟨asks_congr hexec has, a1, w1, hq⟩
      · rename_i hw
        rw [if_neg hw]
        unfold wpList at hob
        exact hnext undef w hob

end
end Go.Proofs.YtheaofepenbcgaaDoor

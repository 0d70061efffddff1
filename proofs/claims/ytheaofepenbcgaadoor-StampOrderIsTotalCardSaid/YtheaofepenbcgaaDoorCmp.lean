/- stamp.Compare for all stamps: the engine at symbols, cmp.Compare by its contract. Equality of stamps. -/
import Derived.Test.YtheaofepenbcgaaDoorSan
import Derived.WalkKit
import Derived.Laws.StructEq
namespace Go.Proofs.YtheaofepenbcgaaDoor
open Go Go.Proofs Go.RowKit
namespace AE

def signI (a b : Int) : Int := if a < b then -1 else if b < a then 1 else 0

theorem isNaN_any (a : Int) (w : World) :
    Calls Tryd.prog 33 #[.int .i64 a] w fun e w' => e = .returned (.bool false) ∧ w = w' := by
  go_enter Tryd.func33, Tryd.ntmps33
  go_wp2
  go_ret; exact ⟨by simp, rfl⟩

theorem ret_int {k : IntKind} {a b : Int} (h : a = b) : Ending.returned (.int k a) = .returned (.int k b) := by rw [h]

theorem cmpCompare_any (a b : Int) (w : World) :
    Calls Tryd.prog 20 #[.int .i64 a, .int .i64 b] w fun e w' => e = .returned (.int .i64 (signI a b)) ∧ w = w' := by
  go_enter Tryd.func20, Tryd.ntmps20
  go_wp2_with (go_at_call 33; refine (isNaN_any _ _).mono ?_; rintro e w' ⟨rfl, rfl⟩)
  all_goals (go_ret; exact ⟨ret_int (by unfold signI; (repeat' split) <;> omega), rfl⟩)

/-- Symbols that are all ints. -/
@[reducible] def sgI (x : Nat → Int) : Sig := ⟨fun k => .int .i64 (x k), fun _ _ => ⟨fun h => (by cases h), fun h => (by cases h)⟩, fun _ => none⟩

theorem immW_sgI (x : Nat → Int) (w : World) : letI := sgI x; ImmW w := fun i o h => by cases h

/-- A stamp as a value. -/
abbrev stV (t c s q : Int) : Value := .agg #[.int .i64 t, .int .i64 c, .int .i64 s, .int .i64 q]
def stS (k : Nat) : Value := .agg ⟨[symv k, symv (k + 1), symv (k + 2), symv (k + 3)]⟩

def signS (t : List (Option Int)) (i : Nat) : Value :=
  match t.getD i none with
  | some s => .int .i64 s
  | none => symv (8 + i)

/-- The signs of the four pairs, where they are known. -/
@[reducible] def tabC (t : List (Option Int)) : CallTab Tryd.prog :=
  ⟨[(20, [symv 0, symv 4], signS t 0), (20, [symv 1, symv 5], signS t 1), (20, [symv 2, symv 6], signS t 2), (20, [symv 3, symv 7], signS t 3)]⟩

/-- What Compare evaluates to, from the known signs. -/
noncomputable def cmpRes (t : List (Option Int)) : Option Value := @evalCall Tryd.prog _ (noFacts _) (tabC t) 1000 10 7 [stS 0, stS 4]

theorem compare_case {t : List (Option Int)} {r : Int} (hres : cmpRes t = some (.int .i64 r)) (x : Nat → Int) (hx : ∀ i, i < 4 → x (8 + i) = signI (x i) (x (i + 4))) (ht : ∀ i s, t.getD i none = some s → signI (x i) (x (i + 4)) = s) (w : World) :
    Calls Tryd.prog 7 #[stV (x 0) (x 1) (x 2) (x 3), stV (x 4) (x 5) (x 6) (x 7)] w fun e w' => e = .returned (.int .i64 r) ∧ Below w.heap.size w w' := by
  letI := sgI x
  letI := noFacts Tryd.prog
  letI := tabC t
  have one : ∀ i, i < 4 → CallFactOk Tryd.prog (20, [symv i, symv (i + 4)], signS t i) := by
    intro i hi
    refine ⟨rfl, ?_, fun w _ => ?_⟩
    · unfold signS
      split <;> rfl
    · refine (cmpCompare_any (x i) (x (i + 4)) w).mono fun e w' he => ?_
      obtain ⟨rfl, rfl⟩ := he
      refine ⟨?_, Below.refl _ _⟩
      unfold signS
      split
      · rename_i s hs
        rw [ht i s hs]; rfl
      · show _ = Ending.returned (.int .i64 (x (8 + i)))
        rw [hx i hi]
  have := evalCall_any (P := Tryd.prog) mixed (fun p h => by cases h) (fun p h => by
    rcases List.mem_cons.1 h with rfl | h
    · exact one 0 (by omega)
    rcases List.mem_cons.1 h with rfl | h
    · exact one 1 (by omega)
    rcases List.mem_cons.1 h with rfl | h
    · exact one 2 (by omega)
    rcases List.mem_cons.1 h with rfl | h
    · exact one 3 (by omega)
    cases h) hres (w := w) (immW_sgI x w)
  exact this

set_option maxRecDepth 100000 in
theorem res1 : cmpRes [some 1] = some (.int .i64 1) := by kernel_rfl
set_option maxRecDepth 100000 in
theorem res1' : cmpRes [some (-1)] = some (.int .i64 (-1)) := by kernel_rfl
set_option maxRecDepth 100000 in
theorem res2 : cmpRes [some 0, some 1] = some (.int .i64 1) := by kernel_rfl
set_option maxRecDepth 100000 in
theorem res2' : cmpRes [some 0, some (-1)] = some (.int .i64 (-1)) := by kernel_rfl
set_option maxRecDepth 100000 in
theorem res3 : cmpRes [some 0, some 0, some 1] = some (.int .i64 1) := by kernel_rfl
set_option maxRecDepth 100000 in
theorem res3' : cmpRes [some 0, some 0, some (-1)] = some (.int .i64 (-1)) := by kernel_rfl
set_option maxRecDepth 100000 in
theorem res4 : cmpRes [some 0, some 0, some 0, some 1] = some (.int .i64 1) := by kernel_rfl
set_option maxRecDepth 100000 in
theorem res4' : cmpRes [some 0, some 0, some 0, some (-1)] = some (.int .i64 (-1)) := by kernel_rfl
set_option maxRecDepth 100000 in
theorem res0 : cmpRes [some 0, some 0, some 0, some 0] = some (.int .i64 0) := by kernel_rfl

/-- The order of stamps. -/
def cmpI (t c s q t' c' s' q' : Int) : Int :=
  if signI t t' ≠ 0 then signI t t' else if signI c c' ≠ 0 then signI c c' else if signI s s' ≠ 0 then signI s s' else signI q q'

theorem signI_cases (a b : Int) : signI a b = 0 ∨ signI a b = 1 ∨ signI a b = -1 := by
  unfold signI
  (repeat' split) <;> simp

theorem compare_any (t c s q t' c' s' q' : Int) (w : World) :
    Calls Tryd.prog 7 #[stV t c s q, stV t' c' s' q'] w fun e w' => e = .returned (.int .i64 (cmpI t c s q t' c' s' q')) ∧ Below w.heap.size w w' := by
  let x : Nat → Int := fun k => [t, c, s, q, t', c', s', q', signI t t', signI c c', signI s s', signI q q'].getD k 0
  have hx : ∀ i, i < 4 → x (8 + i) = signI (x i) (x (i + 4)) := by
    intro i hi
    rcases (by omega : i = 0 ∨ i = 1 ∨ i = 2 ∨ i = 3) with rfl | rfl | rfl | rfl <;> rfl
  have go : ∀ {l : List (Option Int)} {r : Int}, cmpRes l = some (.int .i64 r) → (∀ i s, l.getD i none = some s → signI (x i) (x (i + 4)) = s) → cmpI t c s q t' c' s' q' = r →
      Calls Tryd.prog 7 #[stV t c s q, stV t' c' s' q'] w fun e w' => e = .returned (.int .i64 (cmpI t c s q t' c' s' q')) ∧ Below w.heap.size w w' := by
    intro l r hr hl he
    rw [he]
    exact compare_case hr x hx hl w
  have tab : ∀ (a b c1 d : Option Int) (l : List (Option Int)), (∀ i, l.getD i none = [a, b, c1, d].getD i none) → (∀ v, a = some v → signI t t' = v) → (∀ v, b = some v → signI c c' = v) → (∀ v, c1 = some v → signI s s' = v) → (∀ v, d = some v → signI q q' = v) →
      ∀ i v, l.getD i none = some v → signI (x i) (x (i + 4)) = v := by
    intro a b c1 d l hl ha hb hc hd i v hv
    rw [hl] at hv
    match i with
    | 0 => exact ha v (by simpa using hv)
    | 1 => exact hb v (by simpa using hv)
    | 2 => exact hc v (by simpa using hv)
    | 3 => exact hd v (by simpa using hv)
    | n + 4 => simp at hv
  have som : ∀ {a : Int} {k : Int}, a = k → ∀ v, some k = some v → a = v := fun h v hv => by cases hv; exact h
  have non : ∀ {a : Int}, ∀ v, (none : Option Int) = some v → a = v := fun v hv => by cases hv
  have pad1 : ∀ (a : Option Int) i, [a].getD i none = [a, none, none, none].getD i none := fun a i => by
    match i with
    | 0 => rfl
    | 1 => rfl
    | 2 => rfl
    | 3 => rfl
    | n + 4 => simp
  have pad2 : ∀ (a b : Option Int) i, [a, b].getD i none = [a, b, none, none].getD i none := fun a b i => by
    match i with
    | 0 => rfl
    | 1 => rfl
    | 2 => rfl
    | 3 => rfl
    | n + 4 => simp
  have pad3 : ∀ (a b c : Option Int) i, [a, b, c].getD i none = [a, b, c, none].getD i none := fun a b c i => by
    match i with
    | 0 => rfl
    | 1 => rfl
    | 2 => rfl
    | 3 => rfl
    | n + 4 => simp
  rcases signI_cases t t' with h0 | h0 | h0
  · rcases signI_cases c c' with h1 | h1 | h1
    · rcases signI_cases s s' with h2 | h2 | h2
      · rcases signI_cases q q' with h3 | h3 | h3
        · exact go res0 (tab _ _ _ _ _ (fun _ => rfl) (som h0) (som h1) (som h2) (som h3)) (by simp [cmpI, h0, h1, h2, h3])
        · exact go res4 (tab _ _ _ _ _ (fun _ => rfl) (som h0) (som h1) (som h2) (som h3)) (by simp [cmpI, h0, h1, h2, h3])
        · exact go res4' (tab _ _ _ _ _ (fun _ => rfl) (som h0) (som h1) (som h2) (som h3)) (by simp [cmpI, h0, h1, h2, h3])
      · exact go res3 (tab _ _ _ _ _ (pad3 _ _ _) (som h0) (som h1) (som h2) non) (by simp [cmpI, h0, h1, h2])
      · exact go res3' (tab _ _ _ _ _ (pad3 _ _ _) (som h0) (som h1) (som h2) non) (by simp [cmpI, h0, h1, h2])
    · exact go res2 (tab _ _ _ _ _ (pad2 _ _) (som h0) (som h1) non non) (by simp [cmpI, h0, h1])
    · exact go res2' (tab _ _ _ _ _ (pad2 _ _) (som h0) (som h1) non non) (by simp [cmpI, h0, h1])
  · exact go res1 (tab _ _ _ _ _ (pad1 _) (som h0) non non non) (by simp [cmpI, h0])
  · exact go res1' (tab _ _ _ _ _ (pad1 _) (som h0) non non non) (by simp [cmpI, h0])

/-- Two stamps are equal. -/
def eqSt (t c s q t' c' s' q' : Int) : Bool := decide (t = t' ∧ c = c' ∧ s = s' ∧ q = q')

theorem underS : Tryd.prog.underlying 23 = some (.struct (Tryd.prog.fieldsOf 23)) := by kernel_rfl
theorem stoodS : Tryd.prog.stoodInHeld 23 = false := by kernel_rfl
theorem guardS : Tryd.prog.eqGuardType Tryd.prog.depth 23 = false := by kernel_rfl
theorem aggInt : pureRun Tryd.prog (isAgg 3) = some false := by kernel_rfl
theorem underInt : Tryd.prog.underlying 3 = some (.int .i64) := by kernel_rfl

theorem part_int {P : Program} {T : TypeId} (ha : pureRun P (isAgg T) = some false) (cs : Array Value) (k : Nat) (w : World) {v : Value} (h : cs[k]? = some v) : (part T cs k).run P w = .ok v w := by
  unfold part
  simp only [Sem.run_bind, pureRun_run ha w, Result.andThen_ok, Bool.false_eq_true, if_false, h]
  rfl

theorem run_eqFields_ints {P : Program} {T : TypeId} {K : IntKind} (ha : pureRun P (isAgg T) = some false) (hu : P.underlying T = some (.int K)) (d : Nat) (xs ys : Array Value) (w : World) : ∀ (fs : List Field) (l : List (Int × Int)),
    (fs.map fun f => (f.name == "_", f.type)) = l.map (fun _ => (false, T)) → (∀ (i : Nat) (f : Field) (p : Int × Int), fs[i]? = some f → l[i]? = some p → xs[f.offset]? = some (Value.int K p.1) ∧ ys[f.offset]? = some (Value.int K p.2)) →
    (Op.eqFields (d + 1) xs ys fs).run P w = .ok (l.all fun p => p.1 == p.2) w
  | [], [], _, _ => rfl
  | [], _ :: _, h, _ => by simp at h
  | _ :: _, [], h, _ => by simp at h
  | f :: fs, p :: l, h, hc => by
    simp only [List.map_cons, List.cons.injEq, Prod.mk.injEq] at h
    obtain ⟨⟨h1, h2⟩, h3⟩ := h
    obtain ⟨c1, c2⟩ := hc 0 f p rfl rfl
    have ih := run_eqFields_ints ha hu d xs ys w fs l h3 fun i f p hf hp => hc (i + 1) f p (by simpa using hf) (by simpa using hp)
    have hn : f.name ≠ "_" := by simpa using h1
    unfold Op.eqFields
    rw [if_pos hn, h2]
    simp only [Sem.run_bind, part_int ha xs _ w c1, part_int ha ys _ w c2, Result.andThen_ok, run_equalIn_int w d T K K p.1 p.2 hu, List.all_cons]
    cases he : (p.1 == p.2) with
    | true => simpa using ih
    | false => rfl

theorem fieldsS1 : ((Tryd.prog.fieldsOf 23).toList.map fun f => (f.name == "_", f.type)) = [(false, 3), (false, 3), (false, 3), (false, 3)] := by kernel_rfl
theorem fieldsS2 : ((Tryd.prog.fieldsOf 23).toList.map fun f => f.offset) = [0, 1, 2, 3] := by kernel_rfl

theorem run_eqSt (t c s q t' c' s' q' : Int) (w : World) : (Op.equalIn 10000 23 (stV t c s q) (stV t' c' s' q')).run Tryd.prog w = .ok (eqSt t c s q t' c' s' q') w := by
  have he : ([(t, t'), (c, c'), (s, s'), (q, q')].all fun p => p.1 == p.2) = eqSt t c s q t' c' s' q' := by
    rw [Bool.eq_iff_iff]
    unfold eqSt
    simp
  rw [show (10000 : Nat) = 9998 + 1 + 1 from rfl, run_equalIn_agg w (9998 + 1) _ _ _ underS stoodS, ← he]
  refine run_eqFields_ints aggInt underInt 9998 _ _ w _ [(t, t'), (c, c'), (s, s'), (q, q')] fieldsS1 fun i f p h1 h2 => ?_
  have ho : ((Tryd.prog.fieldsOf 23).toList.map fun f => f.offset)[i]? = some f.offset := by
    rw [List.getElem?_map, h1]; rfl
  rw [fieldsS2] at ho
  clear h1
  have hi : i < 4 := by
    rcases Nat.lt_or_ge i 4 with h | h
    · exact h
    · rw [List.getElem?_eq_none (by simpa using h)] at ho; cases ho
  rcases (by omega : i = 0 ∨ i = 1 ∨ i = 2 ∨ i = 3) with rfl | rfl | rfl | rfl
  all_goals
    simp only [List.getElem?_cons_zero, List.getElem?_cons_succ, Option.some.injEq] at ho h2
    subst h2
    rw [← ho]
    exact ⟨rfl, rfl⟩

theorem eqlSt_run (t c s q t' c' s' q' : Int) (xo yo : Operand) (w : World) :
    (semF xo yo (.bin .eql 23 (stV t c s q) (stV t' c' s' q'))).run Tryd.prog w = .ok (.value (.bool (eqSt t c s q t' c' s' q'))) w := by
  unfold semF
  simp only [Sem.run_bind, run_eqGuard_agg w .eql _ xo yo _ _ guardS, Result.andThen_ok, run_eql_struct, run_eqSt]
  rfl

end AE
end Go.Proofs.YtheaofepenbcgaaDoor

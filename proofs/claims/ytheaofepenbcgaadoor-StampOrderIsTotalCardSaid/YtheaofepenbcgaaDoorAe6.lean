/- AE, part 6: parts of values, slices, literals. -/
import Derived.Test.YtheaofepenbcgaaDoorAe5
namespace Go.Proofs.YtheaofepenbcgaaDoor
open Go
namespace AE
variable [Sig]

omit [Sig] in
theorem pureRun_bind {α β : Type} (P : Program) (s : Sem α) (k : α → Sem β) : pureRun P (s >>= k) = (pureRun P s).bind fun a => pureRun P (k a) := by
  show pureRun P (s.bind k) = _
  induction s with
  | pure a => rfl
  | program f ih => exact ih P
  | mark m s ih => exact ih
  | _ => rfl

omit [Sig] in
theorem pureRun_pure {α : Type} (P : Program) (a : α) : pureRun P (pure a : Sem α) = some a := rfl

section
variable {P : Program} {φ : Emb} {A A' : AS} {w : World}

def aPart (P : Program) (t : TypeId) (cs : List Value) (off : Nat) : Option Value :=
  match pureRun P (isAgg t) with
  | some true => match pureRun P (sizeOf t) with
    | some n => some (.agg ⟨(cs.drop off).take n⟩)
    | none => none
  | some false => cs[off]?
  | none => none

theorem snd_part (hr : Rel φ A w) {t : TypeId} {cs : List Value} {cs' : Array Value} {off : Nat} {v : Value} (hc : RL cs φ cs') (h : aPart P t cs off = some v) : Snd (RV v) P φ A w (part t cs' off) A := by
  obtain ⟨hl, hv⟩ := hc
  unfold aPart at h
  unfold part
  cases hag : pureRun P (isAgg t) with
  | none => rw [hag] at h; cases h
  | some ag =>
    rw [hag] at h
    refine Snd.pre hag ?_
    cases ag with
    | false =>
      simp only at h
      obtain ⟨hlt, hv0⟩ := List.getElem?_eq_some_iff.1 h
      have hlt' : off < cs'.size := by omega
      refine ⟨φ, w, cs'[off], by simp [hlt', Sem.run, pure], ?_, Step.refl hr⟩
      have := hv off hlt
      rw [List.getD_eq_getElem?_getD, h] at this
      simpa [hlt'] using this
    | true =>
      simp only at h
      cases hsz : pureRun P (sizeOf t) with
      | none => rw [hsz] at h; cases h
      | some n =>
        rw [hsz] at h
        simp only [Option.some.injEq] at h
        subst h
        simp only [if_true]
        refine Snd.pre hsz (Snd.ret hr (.agg _ _ (by simp [hl]; omega) fun i hi => ?_))
        simp at hi
        have := hv (off + i) (by omega)
        simp only [Array.getD_eq_getD_getElem?, List.getD_eq_getElem?_getD, Array.getElem?_extract] at this ⊢
        rw [if_pos (by omega), List.getElem?_toArray, List.getElem?_take, if_pos (by omega), List.getElem?_drop]
        exact this

def aFieldOf (P : Program) (s : TypeId) (x : Value) (f : Nat) : Option Value :=
  match x, pureRun P (underlying s) with
  | .agg ⟨cs⟩, some (.struct fields) => match fields[f]? with
    | some fl => aPart P fl.type cs fl.offset
    | none => none
  | _, _ => none

theorem snd_field (hr : Rel φ A w) {s : TypeId} {f : Nat} {x x' v : Value} (hx : VRel φ x x') (h : aFieldOf P s x f = some v) : Snd (RV v) P φ A w (Instr.field s x' f) A := by
  unfold aFieldOf at h
  split at h
  · rename_i cs fields hu
    split at h
    · rename_i fl hf
      cases hx with
      | agg cs0 cs' h1 h2 =>
        unfold Instr.field
        refine Snd.pre hu ?_
        simp only [hf]
        refine Snd.pre (a := cs') rfl ?_
        exact snd_part hr ⟨by simpa using h1.symm, fun j hj => by simpa using h2 j (by simpa using hj)⟩ h
    · cases h
  · cases h

def aIndexOf (P : Program) (t : TypeId) (x i : Value) : Option Value :=
  match x, i, pureRun P (underlying t) with
  | .agg ⟨cs⟩, .int _ i, some (.array len elem) => match pureRun P (sizeOf elem) with
    | some n => bif decide (0 ≤ i) && decide (i < (len : Int)) then aPart P elem cs (i.toNat * n) else none
    | none => none
  | _, _, _ => none

theorem snd_index (hr : Rel φ A w) {t : TypeId} {x x' i v : Value} (hx : VRel φ x x') (h : aIndexOf P t x i = some v) : Snd (RV v) P φ A w (Instr.index t x' i) A := by
  unfold aIndexOf at h
  split at h
  · rename_i cs k i len elem hu
    split at h
    · rename_i n hn
      cases hb : (decide (0 ≤ i) && decide (i < (len : Int))) with
      | false => rw [hb] at h; cases h
      | true =>
        rw [hb, cond_true] at h
        have hbd : 0 ≤ i ∧ i < (len : Int) := by simpa using hb
        cases hx with
        | agg cs0 cs' h1 h2 =>
          unfold Instr.index
          refine Snd.pre (a := (k, i)) rfl ?_
          simp only
          refine Snd.pre hu ?_
          simp only [if_pos hbd]
          refine Snd.pre hn ?_
          exact snd_part hr ⟨by simpa using h1.symm, fun j hj => by simpa using h2 j (by simpa using hj)⟩ h
    · cases h
  · cases h

def aExtract : Value → Nat → Option Value
  | .tuple ⟨cs⟩, i => cs[i]?
  | _, _ => none

theorem snd_extract (hr : Rel φ A w) {x x' v : Value} {i : Nat} (hx : VRel φ x x') (h : aExtract x i = some v) : Snd (RV v) P φ A w (Instr.extract x' i) A := by
  unfold aExtract at h
  split at h
  · rename_i cs
    cases hx with
    | tuple cs0 cs' h1 h2 =>
      obtain ⟨hlt, _⟩ := List.getElem?_eq_some_iff.1 h
      have h1' : cs.length = cs'.size := by simpa using h1
      have hlt' : i < cs'.size := by omega
      refine ⟨φ, w, cs'[i], by simp [Instr.extract, hlt', Sem.run, pure], ?_, Step.refl hr⟩
      have := h2 i (by simpa using hlt)
      simp only [Array.getD_eq_getD_getElem?, List.getElem?_toArray, h, Option.getD_some] at this
      simpa [hlt'] using this
  · cases h

/- LITERALS -/

theorem setAll_rel (off : Nat) : ∀ (l l' : List Value) (k : Nat) (c c' : Array Value), l.length = l'.length → (∀ j, j < l.length → VRel φ (l.getD j undef) (l'.getD j undef)) → c.size = c'.size → (∀ j, j < c.size → VRel φ (c.getD j undef) (c'.getD j undef)) →
    ((l.zipIdx k).foldl (fun cs (x : Value × Nat) => cs.setIfInBounds (off + x.2) x.1) c).size = ((l'.zipIdx k).foldl (fun cs (x : Value × Nat) => cs.setIfInBounds (off + x.2) x.1) c').size ∧
    ∀ j, j < ((l.zipIdx k).foldl (fun cs (x : Value × Nat) => cs.setIfInBounds (off + x.2) x.1) c).size → VRel φ (((l.zipIdx k).foldl (fun cs (x : Value × Nat) => cs.setIfInBounds (off + x.2) x.1) c).getD j undef) (((l'.zipIdx k).foldl (fun cs (x : Value × Nat) => cs.setIfInBounds (off + x.2) x.1) c').getD j undef)
  | [], [], _, c, c', _, _, h1, h2 => ⟨h1, h2⟩
  | [], _ :: _, _, _, _, h, _, _, _ => by simp at h
  | _ :: _, [], _, _, _, h, _, _, _ => by simp at h
  | v :: r, v' :: r', k, c, c', hl, hv, h1, h2 => by
    simp only [List.zipIdx_cons, List.foldl_cons]
    refine setAll_rel off r r' (k + 1) _ _ (by simpa using hl) (fun j hj => by simpa using hv (j + 1) (by simpa using hj)) (by simpa using h1) fun j hj => ?_
    have h0 : VRel φ v v' := by simpa using hv 0 (by simp)
    simp only [Array.size_setIfInBounds] at hj
    have := h2 j hj
    simp only [Array.getD_eq_getD_getElem?, Array.getElem?_setIfInBounds] at this ⊢
    by_cases hk : off + k = j
    · rw [if_pos hk, if_pos hk, if_pos (by omega), if_pos (by omega)]
      exact h0
    · rw [if_neg hk, if_neg hk]
      exact this

omit [Sig] in
theorem cells_of {v : Value} {l : List Value} (h : cellsOf v = some l) : v.cells = ⟨l⟩ := by
  cases v <;> simp_all [cellsOf, Value.cells]
  case complex k re im => cases k <;> simp_all
  case agg cs => obtain ⟨cs⟩ := cs; simp [cellsOf] at h; rw [h]

def PRel (φ : Emb) (p p' : Nat × Value) : Prop := p.1 = p'.1 ∧ (cellsOf p.2).isSome = true ∧ VRel φ p.2 p'.2

theorem fill_rel (place : Nat → Option (Nat × Nat)) : ∀ (ps ps' : List (Nat × Value)) (c c' out : Array Value), ps.length = ps'.length → (∀ (j : Nat) (a b : Nat × Value), ps[j]? = some a → ps'[j]? = some b → PRel φ a b) → c.size = c'.size → (∀ j, j < c.size → VRel φ (c.getD j undef) (c'.getD j undef)) →
    Instr.fill place c ps = some out → ∃ out', Instr.fill place c' ps' = some out' ∧ out.size = out'.size ∧ ∀ j, j < out.size → VRel φ (out.getD j undef) (out'.getD j undef)
  | [], [], c, c', out, _, _, h1, h2, h => by
    simp only [Instr.fill, Option.some.injEq] at h
    subst h
    exact ⟨c', rfl, h1, h2⟩
  | [], _ :: _, _, _, _, h, _, _, _, _ => by simp at h
  | _ :: _, [], _, _, _, h, _, _, _, _ => by simp at h
  | (i, v) :: r, (i', v') :: r', c, c', out, hl, hp, h1, h2, h => by
    obtain ⟨e1, e2, e3⟩ := hp 0 _ _ rfl rfl
    simp only at e1 e2 e3
    subst e1
    obtain ⟨l, hlv⟩ := Option.isSome_iff_exists.1 e2
    obtain ⟨c1, c2⟩ := e3.cells hlv
    have hvl : v.cells = ⟨l⟩ := cells_of hlv
    unfold Instr.fill at h ⊢
    cases hpl : place i with
    | none => rw [hpl] at h; cases h
    | some os =>
      obtain ⟨off, size⟩ := os
      rw [hpl] at h
      simp only at h ⊢
      have hcs : v.cells.size = v'.cells.size := by rw [hvl]; simpa using c1
      split at h
      · cases h
      · rename_i hn
        rw [if_neg (by rw [← hcs, ← h1]; exact hn)]
        have key := setAll_rel (φ := φ) off l v'.cells.toList 0 c c' (by simpa using c1) (fun j hj => by simpa [Array.getD_eq_getD_getElem?, List.getD_eq_getElem?_getD] using c2 j hj) h1 h2
        refine fill_rel place r r' _ _ out (by simpa using hl) (fun j a b ha hb => hp (j + 1) a b (by simpa using ha) (by simpa using hb)) ?_ ?_ h
        · rw [hvl, ← Array.foldl_toList, ← Array.foldl_toList, Array.toList_zipIdx, Array.toList_zipIdx]
          exact key.1
        · rw [hvl, ← Array.foldl_toList, ← Array.foldl_toList, Array.toList_zipIdx, Array.toList_zipIdx]
          exact key.2

def partsOk (ps : Array (Nat × Value)) : Bool := ps.toList.all fun p => (cellsOf p.2).isSome

theorem parts_rel {ps : Array (Nat × Operand)} {ρ ρ' : Operand → Value} (hρ : ∀ p ∈ ps, VRel φ (ρ p.2) (ρ' p.2)) (hok : partsOk (ps.map fun (i, x) => (i, ρ x)) = true) :
    ∀ (j : Nat) (a b : Nat × Value), ((ps.map fun (i, x) => (i, ρ x)).toList)[j]? = some a → ((ps.map fun (i, x) => (i, ρ' x)).toList)[j]? = some b → PRel φ a b := by
  intro j a b ha hb
  have hmem := List.mem_of_getElem? ha
  simp only [Array.toList_map, List.getElem?_map, Option.map_eq_some_iff] at ha hb
  obtain ⟨p, hp, rfl⟩ := ha
  obtain ⟨p', hp', rfl⟩ := hb
  rw [hp] at hp'
  cases hp'
  refine ⟨rfl, ?_, hρ p (by simpa using List.mem_of_getElem? hp)⟩
  exact List.all_eq_true.1 hok _ hmem

def aBuild (P : Program) (t : TypeId) (parts : Array (Nat × Value)) : Option Value :=
  bif partsOk parts then
    match pureRun P (zeroValue t) with
    | some z => bif plain z && (cellsOf z).isSome then
        match pureRun P (underlying t) with
        | some (.struct fields) => match pureRun P (fields.mapM fun f => do pure (f.offset, ← sizeOf f.type)) with
          | some places => (Instr.fill (places[·]?) z.cells parts.toList).map .agg
          | none => none
        | some (.array _ elem) => match pureRun P (sizeOf elem) with
          | some size => (Instr.fill (fun i => some (i * size, size)) z.cells parts.toList).map .agg
          | none => none
        | _ => none
      else none
    | none => none
  else none

theorem plain_cells {z : Value} (h : plain z = true) (hc : (cellsOf z).isSome = true) (φ : Emb) : ∀ j, j < z.cells.size → VRel φ (z.cells.getD j undef) (z.cells.getD j undef) := by
  obtain ⟨l, hl⟩ := Option.isSome_iff_exists.1 hc
  obtain ⟨h1, h2⟩ := (VRel.of_plain φ z h).cells hl
  intro j hj
  have hvl : z.cells = ⟨l⟩ := cells_of hl
  have := h2 j (by omega)
  simp only [hvl] at this ⊢
  simpa [Array.getD_eq_getD_getElem?, List.getD_eq_getElem?_getD] using this

theorem snd_build (hr : Rel φ A w) {t : TypeId} {ps : Array (Nat × Operand)} {ρ ρ' : Operand → Value} {v : Value} (hρ : ∀ p ∈ ps, VRel φ (ρ p.2) (ρ' p.2)) (h : aBuild P t (ps.map fun (i, x) => (i, ρ x)) = some v) :
    Snd (RV v) P φ A w (Instr.build t (ps.map fun (i, x) => (i, ρ' x))) A := by
  unfold aBuild at h
  cases hok : partsOk (ps.map fun (i, x) => (i, ρ x)) with
  | false => rw [hok] at h; cases h
  | true =>
    rw [hok, cond_true] at h
    have hrel := parts_rel hρ hok
    cases hz : pureRun P (zeroValue t) with
    | none => rw [hz] at h; cases h
    | some z =>
      rw [hz] at h
      simp only at h
      cases hpz : (plain z && (cellsOf z).isSome) with
      | false => rw [hpz] at h; cases h
      | true =>
        rw [hpz, cond_true] at h
        simp only [Bool.and_eq_true] at hpz
        have hzc := plain_cells hpz.1 hpz.2 φ
        unfold Instr.build
        refine Snd.pre hz ?_
        simp only
        have fin : ∀ (place : Nat → Option (Nat × Nat)) , (Instr.fill place z.cells (ps.map fun (i, x) => (i, ρ x)).toList).map Value.agg = some v →
            ∃ out', Instr.fill place z.cells (ps.map fun (i, x) => (i, ρ' x)).toList = some out' ∧ VRel φ v (.agg out') := by
          intro place hf
          obtain ⟨out, ho, rfl⟩ := Option.map_eq_some_iff.1 hf
          obtain ⟨out', g1, g2, g3⟩ := fill_rel place _ _ _ _ out (by simp) hrel rfl hzc ho
          exact ⟨out', g1, .agg _ _ g2 g3⟩
        split at h
        · rename_i fields hu
          refine Snd.pre hu ?_
          simp only
          split at h
          · rename_i places hpl
            refine Snd.pre hpl ?_
            obtain ⟨out', g1, g2⟩ := fin _ h
            simp only [g1]
            exact Snd.ret hr g2
          · cases h
        · rename_i n elem hu
          refine Snd.pre hu ?_
          simp only
          split at h
          · rename_i size hsz
            refine Snd.pre hsz ?_
            obtain ⟨out', g1, g2⟩ := fin _ h
            simp only [g1]
            exact Snd.ret hr g2
          · cases h
        · cases h

def aBuildSlice (P : Program) (A : AS) (t : TypeId) (len : Nat) (parts : Array (Nat × Value)) : Option (Value × AS) :=
  bif partsOk parts then
    match pureRun P (underlying t) with
    | some (.slice elem) => match pureRun P (sizeOf elem) with
      | some size => bif Nat.blt 0 (len * size) && Nat.ble (len * size) 16777216 then
          match pureRun P (zeroValue elem) with
          | some z => bif plain z && (cellsOf z).isSome && Nat.blt 0 z.cells.size then
              match Instr.fill (fun i => some (i * size, size)) ((Array.range (len * size)).map (z.cells[· % z.cells.size]!)) parts.toList with
              | some out => match A.push (.cells out.toList) 0 elem with
                | some (r, A1) => some (.slice (some ⟨r, 0, none⟩) len len, A1)
                | none => none
              | none => none
            else none
          | none => none
        else none
      | none => none
    | _ => none
  else none

theorem snd_buildSlice (hr : Rel φ A w) {t : TypeId} {len : Nat} {ps : Array (Nat × Operand)} {ρ ρ' : Operand → Value} {v : Value} (hρ : ∀ p ∈ ps, VRel φ (ρ p.2) (ρ' p.2)) (h : aBuildSlice P A t len (ps.map fun (i, x) => (i, ρ x)) = some (v, A')) :
    Snd (RV v) P φ A w (Instr.buildSlice t len (ps.map fun (i, x) => (i, ρ' x))) A' := by
  unfold aBuildSlice at h
  cases hok : partsOk (ps.map fun (i, x) => (i, ρ x)) with
  | false => rw [hok] at h; cases h
  | true =>
    rw [hok, cond_true] at h
    have hrel := parts_rel hρ hok
    split at h
    · rename_i elem hu
      split at h
      · rename_i size hsz
        cases hb : (Nat.blt 0 (len * size) && Nat.ble (len * size) 16777216) with
        | false => rw [hb] at h; cases h
        | true =>
          rw [hb, cond_true] at h
          simp only [Bool.and_eq_true] at hb
          have hb1 := Nat.blt_eq.mp hb.1
          have hb2 := Nat.ble_eq.mp hb.2
          split at h
          · rename_i z hz
            cases hpz : (plain z && (cellsOf z).isSome && Nat.blt 0 z.cells.size) with
            | false => rw [hpz] at h; cases h
            | true =>
              rw [hpz, cond_true] at h
              simp only [Bool.and_eq_true] at hpz
              have hz0 := Nat.blt_eq.mp hpz.2
              have hzc := plain_cells hpz.1.1 hpz.1.2 φ
              split at h
              · rename_i out ho
                split at h
                · rename_i r A1 hp
                  simp only [Option.some.injEq, Prod.mk.injEq] at h
                  obtain ⟨rfl, rfl⟩ := h
                  unfold Instr.buildSlice
                  refine Snd.pre hu ?_
                  simp only
                  refine Snd.pre hsz ?_
                  rw [if_neg (by omega)]
                  rw [if_neg (by omega)]
                  have hsame : ∀ j, j < ((Array.range (len * size)).map (z.cells[· % z.cells.size]!)).size → VRel φ (((Array.range (len * size)).map (z.cells[· % z.cells.size]!)).getD j undef) (((Array.range (len * size)).map (z.cells[· % z.cells.size]!)).getD j undef) := by
                    intro j hj
                    simp at hj
                    have hm := Nat.mod_lt j hz0
                    have := hzc (j % z.cells.size) hm
                    simp only [Array.getD_eq_getD_getElem?] at this ⊢
                    simpa [hj, hm, getElem!_pos] using this
                  obtain ⟨out', g1, g2, g3⟩ := fill_rel (φ := φ) (fun i => some (i * size, size)) _ _ _ _ out (by simp) hrel rfl hsame ho
                  refine Snd.pre hz ?_
                  refine Snd.pre (a := z.cells) rfl ?_
                  simp only [g1]
                  obtain ⟨φ', w', q1, q2, q3, _⟩ := run_newRow hr P elem hp (c' := out') (by simpa using Nat.le_of_eq g2) (fun _ => by simpa using g2) (fun j hj => by
                    have := g3 j (by simpa using hj)
                    simp only [Array.getD_eq_getD_getElem?] at this
                    simpa [List.getD_eq_getElem?_getD] using this)
                  refine ⟨φ', w', .slice (some ⟨w.heap.size, 0, none⟩) len len, by rw [Sem.run_bind, q1]; rfl, ?_, q3⟩
                  have := VRel.slx (φ := φ') (b := r) (o := 0) len len q2
                  simpa using this
                · cases h
              · cases h
          · cases h
      · cases h
    · cases h

/-- The slice without an element. -/
def aBuildEmpty (P : Program) (A : AS) (t : TypeId) : Option (Value × AS) :=
  match pureRun P (underlying t) with
  | some (.slice elem) => match pureRun P (sizeOf elem) with
    | some _ => match A.push (.cells []) 0 elem with
      | some (r, A1) => some (.slice (some ⟨r, 0, none⟩) 0 0, A1)
      | none => none
    | none => none
  | _ => none

theorem snd_buildEmpty (hr : Rel φ A w) {t : TypeId} {v : Value} (h : aBuildEmpty P A t = some (v, A')) : Snd (RV v) P φ A w (Instr.buildSlice t 0 #[]) A' := by
  unfold aBuildEmpty at h
  split at h
  · rename_i elem hu
    split at h
    · rename_i size hsz
      split at h
      · rename_i r A1 hp
        simp only [Option.some.injEq, Prod.mk.injEq] at h
        obtain ⟨rfl, rfl⟩ := h
        unfold Instr.buildSlice
        refine Snd.pre hu ?_
        simp only
        refine Snd.pre hsz ?_
        rw [if_neg (by omega), if_pos (by omega)]
        refine Snd.pre (a := (#[] : Array Value)) rfl ?_
        obtain ⟨φ', w', q1, q2, q3, _⟩ := run_newRow hr P (c' := #[]) elem hp (by simp) (fun _ => by simp) (fun j hj => by simp at hj)
        have e : ((Array.range (0 * size)).map ((#[] : Array Value)[· % (#[] : Array Value).size]!)) = #[] := by simp
        rw [e]
        simp only [Instr.fill]
        refine ⟨φ', w', .slice (some ⟨w.heap.size, 0, none⟩) 0 0, by rw [Sem.run_bind, q1]; rfl, ?_, q3⟩
        have := VRel.slx (φ := φ') (b := r) (o := 0) 0 0 q2
        simpa using this
      · cases h
    · cases h
  · cases h

end
end AE
end Go.Proofs.YtheaofepenbcgaaDoor

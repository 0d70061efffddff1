/- AE, part 9: append beside its abstract form. -/
import Derived.Test.YtheaofepenbcgaaDoorAe8
namespace Go.Proofs.YtheaofepenbcgaaDoor
open Go
namespace AE
variable [Sig]

section
variable {P : Program} {φ : Emb} {A A' : AS} {w : World}

def aAppend (P : Program) (A : AS) (ts : Array TypeId) (s x : Value) : Option (Value × AS) :=
  match ts[0]?, ts[1]? with
  | some t, some t2 => match pureRun P (underlying t), pureRun P (underlying t2) with
    | some (.slice elem), some d2 =>
      match pureRun P (sizeOf elem), pureRun P (typeInfo elem), pureRun P (zeroValue elem) with
      | some sz, some info, some z =>
        bif isIntD d2 || Nat.beq sz 0 || Nat.beq info.bytes 0 || !Nat.ble info.bytes 65536 || !Nat.beq z.cells.size sz then none else
          match aNews A sz x with
          | some (n, news) =>
            bif !Nat.ble n 524288 then none else
            match s with
            | .slice none 0 0 => bif Nat.beq n 0 then some (.slice none 0 0, A) else
                match A.push (.cells news) sz elem with
                | some (r, A1) => some (.slice (some ⟨r, 0, none⟩) n n, A1)
                | none => none
            | .slice (some ⟨b, off, none⟩) sl sc =>
              bif !Nat.ble sl 524288 || (Nat.beq b dead && !Nat.beq off 0) then none else
                bif Nat.ble (sl + n) sc then
                  match A.storeN b (off + sl * sz) news with
                  | some A1 => some (.slice (some ⟨b, off, none⟩) (sl + n) sc, A1)
                  | none => none
                else match A.bl.get b with
                  | none => bif Nat.beq sl 0 && Nat.beq sc 0 then
                      match A.push (.cells news) sz elem with
                      | some (r, A1) => some (.slice (some ⟨r, 0, none⟩) n n, A1)
                      | none => none
                    else none
                  | some k => match A.loadN b off (sl * sz) with
                    | some old =>
                      bif Nat.beq k.stride 0 then
                        match A.push (.cells (old ++ news)) sz elem with
                        | some (r, A1) => some (.slice (some ⟨r, 0, none⟩) (sl + n) (sl + n), A1)
                        | none => none
                      else bif Nat.beq k.stride sz then
                        match A.pushIn b (k.pos + off) sz elem (old ++ List.replicate (n * sz) poison) with
                        | some (r, A1) => match A1.storeN r (sl * sz) news with
                          | some A2 => some (.slice (some ⟨r, 0, none⟩) (sl + n) (sl + n), A2)
                          | none => none
                        | none => none
                      else none
                    | none => none
            | _ => none
          | none => none
      | _, _, _ => none
    | _, _ => none
  | _, _ => none

theorem rel_drawn (hr : Rel φ A w) (d : Nat) : Rel φ A { w with drawn := d } := ⟨hr.wf, hr.dom, hr.apart, hr.along, hr.imm⟩

/-- What the model's new row holds. -/
theorem row_cells {old news : List Value} {old' new' rest : Array Value} (h1 : old'.size = old.length) (h2 : ∀ j, j < old.length → VRel φ (old.getD j undef) (old'.getD j undef)) (h3 : new'.size = news.length)
    (h4 : ∀ j, j < news.length → VRel φ (news.getD j undef) (new'.getD j undef)) : ∀ j, j < (old ++ news).length → VRel φ ((old ++ news).getD j undef) ((old' ++ new' ++ rest).getD j undef) := by
  intro j hj
  simp only [List.length_append] at hj
  simp only [List.getD_eq_getElem?_getD, Array.getD_eq_getD_getElem?, List.getElem?_append, Array.getElem?_append, Array.size_append] at h2 h4 ⊢
  by_cases hjo : j < old.length
  · rw [if_pos hjo, if_pos (by omega), if_pos (by omega)]
    exact h2 j hjo
  · rw [if_neg hjo, if_pos (by omega), if_neg (by omega), h1]
    exact h4 (j - old.length) (by omega)

/-- The model makes a new row, and so does AE, in a family of its own. -/
theorem append_fresh (hr : Rel φ A w) {elem : TypeId} {sz sl n : Nat} {old news : List Value} {old' new' rest : Array Value} {r newCap : Nat} (hsz : 1 ≤ sz) (hp : A.push (.cells (old ++ news)) sz elem = some (r, A'))
    (h1 : old'.size = old.length) (h2 : ∀ j, j < old.length → VRel φ (old.getD j undef) (old'.getD j undef)) (h3 : new'.size = news.length) (h4 : ∀ j, j < news.length → VRel φ (news.getD j undef) (new'.getD j undef))
    (hol : old.length = sl * sz) (hnl : news.length = n * sz) (hcap : sl + n ≤ newCap) (hrest : rest.size = (newCap - (sl + n)) * sz) :
    ∃ φ' w', w' = { w with drawn := w.drawn + 1, heap := w.heap.push (.cells (old' ++ new' ++ rest) elem) } ∧
      VRel φ' (.slice (some ⟨r, 0, none⟩) (sl + n) (sl + n)) (.slice (some ⟨w.heap.size, 0, none⟩) (sl + n) newCap) ∧ Step φ A w φ' A' w' := by
  have hr1 := rel_drawn hr (w.drawn + 1)
  obtain ⟨φ', w', g1, g2, g3, g4⟩ := run_newRow hr1 (default : Program) (c' := old' ++ new' ++ rest) elem hp (by simp; omega) (fun h => absurd (show sz = 0 from h) (by omega)) (row_cells h1 h2 h3 h4)
  refine ⟨φ', w', g4, ?_, Step.trans hr (Step.drawn hr (w.drawn + 1)) g3⟩
  have hlim : (old' ++ new' ++ rest).size = newCap * sz := by
    simp only [Array.size_append, h1, h3, hol, hnl, hrest]
    rw [← Nat.add_mul, ← Nat.add_mul]
    congr 1; omega
  have := VRel.slg (φ := φ') (b := r) (o := 0) (sl + n) (sl + n) newCap g2 hsz hcap (by
    simp only [Nat.zero_add]
    rw [hlim]; exact Nat.le_refl _)
  simpa using this

theorem snd_append (hr : Rel φ A w) {ts : Array TypeId} {ty : TypeId} {s s' x x' v : Value} (hs : VRel φ s s') (hx : VRel φ x x') (h : aAppend P A ts s x = some (v, A')) : Snd (RV v) P φ A w (Builtin.append_ ts ty #[s', x']) A' := by
  unfold aAppend at h
  split at h
  · rename_i t t2 ht ht2
    split at h
    · rename_i elem d2 hu hu2
      split at h
      · rename_i sz info z hsz hi hz
        cases hc : (isIntD d2 || Nat.beq sz 0 || Nat.beq info.bytes 0 || !Nat.ble info.bytes 65536 || !Nat.beq z.cells.size sz) with
        | true => rw [hc] at h; cases h
        | false =>
          rw [hc, cond_false] at h
          simp only [Bool.or_eq_false_iff, Bool.not_eq_false'] at hc
          obtain ⟨⟨⟨⟨hd, c1⟩, c2⟩, c3⟩, c4⟩ := hc
          have hsz1 : 1 ≤ sz := by
            rcases Nat.eq_zero_or_pos sz with h0 | h0
            · subst h0; simp at c1
            · exact h0
          have hb0 : info.bytes ≠ 0 := by
            intro h0; rw [h0] at c2; simp at c2
          have hb : info.bytes ≤ 65536 := Nat.ble_eq.mp c3
          have hzc : z.cells.size = sz := Nat.eq_of_beq_eq_true c4
          cases hnews : aNews A sz x with
          | none => rw [hnews] at h; cases h
          | some q =>
            obtain ⟨n, news⟩ := q
            rw [hnews] at h
            simp only at h
            obtain ⟨hnl, new', hn1, hn2, hlenr, hfirst⟩ := news_run (P := P) hr hx hnews
            cases hnb : Nat.ble n 524288 with
            | false => rw [hnb] at h; cases h
            | true =>
              rw [hnb, Bool.not_true, cond_false] at h
              have hn := Nat.ble_eq.mp hnb
              -- a new row of the model
              have fresh : ∀ (sl : Nat) (old : List Value) (old' : Array Value) (base : Option Addr) (sc' r : Nat), sl ≤ 524288 → old.length = sl * sz → old'.size = old.length → (∀ j, j < old.length → VRel φ (old.getD j undef) (old'.getD j undef)) →
                  (∀ d, (Builtin.firstCells sz sl (.slice base sl sc')).run P { w with drawn := d } = .ok old' { w with drawn := d }) → sc' < sl + n → A.push (.cells (old ++ news)) sz elem = some (r, A') →
                  Snd (RV (.slice (some ⟨r, 0, none⟩) (sl + n) (sl + n))) P φ A w (Builtin.append_ ts ty #[.slice base sl sc', x']) A' := by
                intro sl old old' base sc' r hsl hol ho1 ho2 hold hfit hp
                obtain ⟨newCap, hcap, hrun⟩ := run_append_grows (ty := ty) ht ht2 hu hu2 hd hsz hi hz hb0 hb (by omega) (hlenr w.drawn) hfirst hold hfit
                obtain ⟨φ', w', e1, e2, e3⟩ := append_fresh hr hsz1 hp ho1 ho2 hn1 hn2 hol hnl hcap (rest := Builtin.zeroCells z.cells (newCap - (sl + n))) (by rw [zeroCells_size, hzc])
                subst e1
                exact ⟨φ', _, _, hrun, e2, e3⟩
              split at h
              · -- nil
                cases hs
                cases hn0 : Nat.beq n 0 with
                | true =>
                  rw [hn0, cond_true] at h
                  simp only [Option.some.injEq, Prod.mk.injEq] at h
                  obtain ⟨rfl, rfl⟩ := h
                  have hn0' : n = 0 := Nat.eq_of_beq_eq_true hn0
                  subst hn0'
                  exact ⟨φ, w, _, run_append_fits ht ht2 hu hu2 hd hsz (hlenr w.drawn) (hfirst w.drawn) (Nat.le_refl _) rfl, .slnil _ _, Step.refl hr⟩
                | false =>
                  rw [hn0, cond_false] at h
                  split at h
                  · rename_i r A1 hp
                    simp only [Option.some.injEq, Prod.mk.injEq] at h
                    obtain ⟨rfl, rfl⟩ := h
                    have hn0' : n ≠ 0 := fun e => by subst e; simp at hn0
                    have := fresh 0 [] #[] none 0 r (by omega) (by simp) rfl (fun j hj => absurd hj (by simp)) (fun d => rfl) (by omega) (by simpa using hp)
                    simpa using this
                  · cases h
              · rename_i b off sl sc
                cases hslb : Nat.ble sl 524288 with
                | false => rw [hslb] at h; cases h
                | true =>
                  rw [hslb, Bool.not_true, Bool.false_or] at h
                  cases hdo : (Nat.beq b dead && !Nat.beq off 0) with
                  | true => rw [hdo] at h; cases h
                  | false =>
                  rw [hdo, cond_false] at h
                  have hdz : b = dead → off = 0 := fun e => by
                    subst e
                    rw [Nat.beq_refl, Bool.true_and, Bool.not_eq_false'] at hdo
                    exact Nat.eq_of_beq_eq_true hdo
                  have hsl := Nat.ble_eq.mp hslb
                  cases hfit : Nat.ble (sl + n) sc with
                  | true =>
                    -- there is room
                    rw [hfit, cond_true] at h
                    have hfit' := Nat.ble_eq.mp hfit
                    split at h
                    · rename_i A1 hst
                      simp only [Option.some.injEq, Prod.mk.injEq] at h
                      obtain ⟨rfl, rfl⟩ := h
                      have room : ∀ (e : Em) (sc' : Nat), φ b = some e → sl + n ≤ sc' → ∃ w', Step φ A w φ A1 w' ∧ (Builtin.append_ ts ty #[.slice (some ⟨e.blk, e.sh + off, none⟩) sl sc', x']).run P w = .ok (.slice (some ⟨e.blk, e.sh + off, none⟩) (sl + n) sc') w' := by
                        intro e sc' he hle
                        obtain ⟨w', g1, g2⟩ := run_storeN P he news A A1 w (off + sl * sz) 0 new'.toList hr hst (by simpa using hn1) (fun j hj => by
                          have := hn2 j hj
                          simp only [Array.getD_eq_getD_getElem?] at this
                          simpa [List.getD_eq_getElem?_getD] using this)
                        refine ⟨w', g2, run_append_fits ht ht2 hu hu2 hd hsz (hlenr w.drawn) (hfirst w.drawn) hle ?_⟩
                        simp only [Addr.add_at]
                        rw [Nat.add_assoc]
                        exact g1
                      cases hs with
                      | slx _ _ he =>
                        obtain ⟨w', g1, g2⟩ := room _ _ he hfit'
                        exact ⟨φ, w', _, g2, .slx _ _ he, g1⟩
                      | slg _ _ c' he q1 q2 q3 =>
                        obtain ⟨w', g1, g2⟩ := room _ c' he (by omega)
                        exact ⟨φ, w', _, g2, .slg _ _ _ he q1 q2 q3, g1⟩
                      | slz a' hz0 =>
                        have hz1 := hz0 (hdz rfl)
                        subst hz1
                        have hn0 : n = 0 := by omega
                        subst hn0
                        have hnews0 : news = [] := by simpa using hnl
                        subst hnews0
                        simp only [AS.storeN, Option.some.injEq] at hst
                        subst hst
                        have hnew0 : new' = #[] := Array.eq_empty_of_size_eq_zero hn1
                        subst hnew0
                        exact ⟨φ, w, _, run_append_fits ht ht2 hu hu2 hd hsz (hlenr w.drawn) (hfirst w.drawn) (Nat.le_refl _) rfl, .slz _ hz0, Step.refl hr⟩
                    · cases h
                  | false =>
                    rw [hfit, cond_false] at h
                    have hfit' : sc < sl + n := by
                      rcases Nat.lt_or_ge sc (sl + n) with h1 | h1
                      · exact h1
                      · rw [Nat.ble_eq.mpr h1] at hfit; cases hfit
                    cases hk : A.bl.get b with
                    | none =>
                      rw [hk] at h
                      simp only at h
                      cases h00 : (Nat.beq sl 0 && Nat.beq sc 0) with
                      | false => rw [h00] at h; cases h
                      | true =>
                        rw [h00, cond_true] at h
                        simp only [Bool.and_eq_true] at h00
                        have e1 : sl = 0 := Nat.eq_of_beq_eq_true h00.1
                        have e2 : sc = 0 := Nat.eq_of_beq_eq_true h00.2
                        subst e1; subst e2
                        split at h
                        · rename_i r A1 hp
                          simp only [Option.some.injEq, Prod.mk.injEq] at h
                          obtain ⟨rfl, rfl⟩ := h
                          have nomap : ∀ e, φ b ≠ some e := fun e he => by
                            obtain ⟨k, hk', _⟩ := hr.dom b e he
                            rw [hk] at hk'; cases hk'
                          cases hs with
                          | slx _ _ he => exact absurd he (nomap _)
                          | slg _ _ c' he q1 q2 q3 => exact absurd he (nomap _)
                          | slz a' hz0 =>
                            have hz1 := hz0 (hdz rfl)
                            subst hz1
                            have := fresh 0 [] #[] (some a') 0 r (by omega) (by simp) rfl (fun j hj => absurd hj (by simp)) (fun d => by simp [Builtin.firstCells, loadCells, loadCellsFrom, Sem.run, pure]) (by omega) (by simpa using hp)
                            simpa using this
                        · cases h
                    | some k =>
                      rw [hk] at h
                      simp only at h
                      cases hold : A.loadN b off (sl * sz) with
                      | none => rw [hold] at h; cases h
                      | some old =>
                        rw [hold] at h
                        simp only at h
                        obtain ⟨hol, hjs⟩ := loadN_spec hold
                        -- the old cells, read in the model
                        have oldrun : ∀ (e : Em) (sc' : Nat), φ b = some e → ∃ old' : Array Value, old'.size = old.length ∧ (∀ j, j < old.length → VRel φ (old.getD j undef) (old'.getD j undef)) ∧
                            ∀ d, (Builtin.firstCells sz sl (.slice (some ⟨e.blk, e.sh + off, none⟩) sl sc')).run P { w with drawn := d } = .ok old' { w with drawn := d } := by
                          intro e sc' he
                          obtain ⟨vs', h1, h2, h3⟩ := run_loadN hr P hold he
                          exact ⟨vs', h2, h3, fun d => run_drawn_loadCells _ _ h1 d fun j hj => by
                            obtain ⟨v', g1, _⟩ := rel_load hr (hjs j hj) he
                            exact ⟨v', by rw [Addr.add_at, Nat.add_assoc]; exact g1⟩⟩
                        have zrun : ∀ (a' : Addr), sl = 0 → ∀ d, (Builtin.firstCells sz sl (.slice (some a') sl 0)).run P { w with drawn := d } = .ok #[] { w with drawn := d } := by
                          intro a' e d
                          subst e
                          simp [Builtin.firstCells, loadCells, loadCellsFrom, Sem.run, pure]
                        cases hst0 : Nat.beq k.stride 0 with
                        | true =>
                          rw [hst0, cond_true] at h
                          have hk0 : k.stride = 0 := Nat.eq_of_beq_eq_true hst0
                          split at h
                          · rename_i r A1 hp
                            simp only [Option.some.injEq, Prod.mk.injEq] at h
                            obtain ⟨rfl, rfl⟩ := h
                            cases hs with
                            | slx _ _ he =>
                              obtain ⟨old', o1, o2, o3⟩ := oldrun _ sc he
                              exact fresh sl old old' _ sc r hsl hol o1 o2 o3 hfit' hp
                            | slg _ _ c' he q1 q2 q3 =>
                              obtain ⟨k', hk', hst, _⟩ := hr.dom b _ he
                              rw [hk] at hk'; cases hk'
                              omega
                            | slz a' hz0 =>
                              have hz1 := hz0 (hdz rfl)
                              subst hz1
                              have hol0 : old = [] := by simpa using hol
                              subst hol0
                              exact fresh 0 [] #[] (some a') 0 r (by omega) (by simp) rfl (fun j hj => absurd hj (by simp)) (zrun a' rfl) (by omega) hp
                          · cases h
                        | false =>
                          rw [hst0, cond_false] at h
                          cases hst1 : Nat.beq k.stride sz with
                          | false => rw [hst1] at h; cases h
                          | true =>
                            rw [hst1, cond_true] at h
                            have hks : k.stride = sz := Nat.eq_of_beq_eq_true hst1
                            split at h
                            · rename_i r A1 hp
                              split at h
                              · rename_i A2 hsn
                                simp only [Option.some.injEq, Prod.mk.injEq] at h
                                obtain ⟨rfl, rfl⟩ := h
                                obtain ⟨_, _, _, hk2, _, hro, _, _, rfl, _, _, _, _, _⟩ := pushIn_spec hp hr.wf
                                have hlt : ∀ b e, φ b = some e → ∀ em, upd φ A.n em b = some e := fun b e hb em => by
                                  unfold upd; rw [if_neg (by have := hr.lt hb; omega)]; exact hb
                                -- the model makes a new row
                                have newrow : ∀ (base : Option Addr) (sc' : Nat) (old' : Array Value), old'.size = old.length → (∀ j, j < old.length → VRel φ (old.getD j undef) (old'.getD j undef)) →
                                    (∀ d, (Builtin.firstCells sz sl (.slice base sl sc')).run P { w with drawn := d } = .ok old' { w with drawn := d }) → sc' < sl + n →
                                    Snd (RV (.slice (some ⟨A.n, 0, none⟩) (sl + n) (sl + n))) P φ A w (Builtin.append_ ts ty #[.slice base sl sc', x']) A2 := by
                                  intro base sc' old' o1 o2 o3 hf
                                  obtain ⟨newCap, hcap, hrun⟩ := run_append_grows (ty := ty) ht ht2 hu hu2 hd hsz hi hz hb0 hb (by omega) (hlenr w.drawn) hfirst o3 hf
                                  have hrow : (old' ++ new' ++ Builtin.zeroCells z.cells (newCap - (sl + n))).size = newCap * sz := by
                                    simp only [Array.size_append, o1, hn1, hol, hnl, zeroCells_size, hzc]
                                    rw [← Nat.add_mul, ← Nat.add_mul]
                                    congr 1; omega
                                  have hr1 := rel_drawn hr (w.drawn + 1)
                                  have hcells := row_cells (rest := Builtin.zeroCells z.cells (newCap - (sl + n))) o1 o2 hn1 hn2
                                  have hle : (sl + n) * sz ≤ newCap * sz := Nat.mul_le_mul_right _ hcap
                                  have hsn2 : sl * sz + n * sz = (sl + n) * sz := (Nat.add_mul _ _ _).symm
                                  have st1 := step_pushIn (e := ⟨w.heap.size, 0, sz, newCap * sz⟩) hr1 hp rfl (.inl ⟨rfl, .cells (old' ++ new' ++ Builtin.zeroCells z.cells (newCap - (sl + n))) elem, rfl⟩) (fun k' hk' => by
                                    simp only [ORel]
                                    refine ⟨_, (0, 0), by simp, hrow.symm, ⟨by simp only [List.length_append, List.length_replicate, Nat.zero_add, hol, hrow]; omega, fun h => absurd (show sz = 0 from h) (by omega)⟩, fun j hj => ?_, fun _ i _ => by simp⟩
                                    simp only [List.length_append, List.length_replicate] at hj
                                    simp only [Nat.zero_add]
                                    by_cases hjo : j < old.length
                                    · have := (hcells j (by simp; omega)).mono fun b1 e1 hb1 => hlt b1 e1 hb1 ⟨w.heap.size, 0, sz, newCap * sz⟩
                                      rw [List.getD_eq_getElem?_getD, List.getElem?_append_left hjo] at this ⊢
                                      exact this
                                    · rw [List.getD_eq_getElem?_getD, List.getElem?_append_right (by omega), List.getElem?_replicate, if_pos (by omega)]
                                      exact .poison _)
                                  have st2 := step_idleN (e := ⟨w.heap.size, 0, sz, newCap * sz⟩) (by simp [upd]) news A1 A2 (sl * sz) st1.rel hsn (fun j hj => by
                                    have := (hcells (sl * sz + j) (by simp; omega)).mono fun b1 e1 hb1 => hlt b1 e1 hb1 ⟨w.heap.size, 0, sz, newCap * sz⟩
                                    rw [List.getD_eq_getElem?_getD, List.getElem?_append_right (by omega), hol, Nat.add_sub_cancel_left, ← List.getD_eq_getElem?_getD] at this
                                    refine ⟨_, ?_, this⟩
                                    simp only [World.cell?, Nat.zero_add]
                                    have hin : sl * sz + j < (old' ++ new' ++ Builtin.zeroCells z.cells (newCap - (sl + n))).size := by rw [hrow]; omega
                                    simp only [Array.getElem?_push_size, Option.isSome_none, Bool.false_eq_true, if_false, Array.getD_eq_getD_getElem?]
                                    rw [Array.getElem?_eq_getElem hin]
                                    rfl)
                                  refine ⟨_, _, _, hrun, ?_, Step.trans hr (Step.drawn hr (w.drawn + 1)) (Step.trans hr1 st1 st2)⟩
                                  have := VRel.slg (φ := upd φ A.n ⟨w.heap.size, 0, sz, newCap * sz⟩) (b := A.n) (o := 0) (e := ⟨w.heap.size, 0, sz, newCap * sz⟩) (sl + n) (sl + n) newCap (by simp [upd]) hsz1 hcap (by simp)
                                  simpa using this
                                cases hs with
                                | slx _ _ he =>
                                  obtain ⟨old', o1, o2, o3⟩ := oldrun _ sc he
                                  exact newrow _ _ old' o1 o2 o3 hfit'
                                | slz a' hz0 =>
                                  have hz1 := hz0 (hdz rfl)
                                  subst hz1
                                  have hol0 : old = [] := by simpa using hol
                                  subst hol0
                                  exact newrow (some a') 0 #[] rfl (fun j hj => absurd hj (by simp)) (zrun a' rfl) hfit'
                                | slg _ _ c' he q1 q2 q3 =>
                                  rename_i e
                                  obtain ⟨old', o1, o2, o3⟩ := oldrun _ c' he
                                  rcases Nat.lt_or_ge c' (sl + n) with hlt' | hge
                                  · exact newrow _ _ old' o1 o2 o3 hlt'
                                  · -- in place
                                    obtain ⟨k', hk', hest, horel⟩ := hr.dom b e he
                                    rw [hk] at hk'; cases hk'
                                    have hes : e.stride = sz := hest.trans hks
                                    have hsn2 : sl * sz + n * sz = (sl + n) * sz := (Nat.add_mul _ _ _).symm
                                    have hle : (sl + n) * sz ≤ c' * sz := Nat.mul_le_mul_right _ hge
                                    rw [hes] at q3
                                    have st1 := step_pushIn (e := ⟨e.blk, e.sh + off, sz, e.lim⟩) hr hp rfl (.inr ⟨rfl, e, k, he, hk, rfl, by simp only; omega⟩) (fun k' hk' => by
                                      rw [hk] at hk'; cases hk'
                                      obtain ⟨k2, c2, l2, g1, g2, g3, g4, _⟩ := pushIn_spec hp hr.wf
                                      rw [hk] at g1; cases g1
                                      have horel2 := horel
                                      unfold ORel at horel2
                                      simp only [g2] at horel2
                                      obtain ⟨c3, fr3, r1, r2, r3, r4, r5⟩ := horel2
                                      simp only [ORel]
                                      refine ⟨c3, fr3, by rw [← g4]; exact r1, r2, ⟨by simp only [List.length_append, List.length_replicate, hol]; omega, fun h => absurd (show sz = 0 from h) (by omega)⟩, fun j hj => ?_, fun _ => r5 g3⟩
                                      simp only [List.length_append, List.length_replicate] at hj
                                      by_cases hjo : j < old.length
                                      · rw [List.getD_eq_getElem?_getD, List.getElem?_append_left hjo, ← List.getD_eq_getElem?_getD]
                                        obtain ⟨v', q4, q5⟩ := rel_load hr (hjs j (by omega)) he
                                        simp only [World.cell?, r1, Option.isSome_none, Bool.false_eq_true, if_false] at q4
                                        rw [Array.getD_eq_getD_getElem?, Nat.add_assoc, q4]
                                        exact q5.mono fun b1 e1 hb1 => hlt b1 e1 hb1 _
                                      · rw [List.getD_eq_getElem?_getD, List.getElem?_append_right (by omega), List.getElem?_replicate, if_pos (by omega)]
                                        exact .poison _)
                                    obtain ⟨w', g1, g2⟩ := run_storeN P (e := ⟨e.blk, e.sh + off, sz, e.lim⟩) (by simp [upd]) news A1 A2 w (sl * sz) 0 new'.toList st1.rel hsn (by simpa using hn1) (fun j hj => by
                                      have := (hn2 j hj).mono fun b1 e1 hb1 => hlt b1 e1 hb1 ⟨e.blk, e.sh + off, sz, e.lim⟩
                                      simp only [Array.getD_eq_getD_getElem?] at this
                                      simpa [List.getD_eq_getElem?_getD] using this)
                                    refine ⟨_, w', _, run_append_fits ht ht2 hu hu2 hd hsz (hlenr w.drawn) (hfirst w.drawn) hge (w' := w') ?_, ?_, Step.trans hr st1 g2⟩
                                    · simp only [Addr.add_at]
                                      exact g1
                                    · have := VRel.slg (φ := upd φ A.n ⟨e.blk, e.sh + off, sz, e.lim⟩) (b := A.n) (o := 0) (e := ⟨e.blk, e.sh + off, sz, e.lim⟩) (sl + n) (sl + n) c' (by simp [upd]) hsz1 hge (by simp only [Nat.add_zero]; exact q3)
                                      simpa using this
                              · cases h
                            · cases h
                          
              · cases h
      · cases h
    · cases h
  · cases h

end
end AE
end Go.Proofs.YtheaofepenbcgaaDoor

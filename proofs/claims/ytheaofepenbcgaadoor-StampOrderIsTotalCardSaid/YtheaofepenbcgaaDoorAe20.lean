/- AE, part 20: a range over a function, rounds, calls. -/
import Derived.Test.YtheaofepenbcgaaDoorAe19
import Derived.Laws.Sem
namespace Go.Proofs.YtheaofepenbcgaaDoor
open Go
namespace AE
variable [Sig]

section
variable {P : Program} [Lib P] [Facts P] {C : ACalls} {gl : Tr Nat} {N : Nat}

omit [Sig] in
omit [Lib P] [Facts P] in
theorem wp_jump {F : Fence} {n : Nat} {Q : Exit → Act → World → Prop} {a : Act} {w : World} {c : Code} {x : AX} (h : jumpX (some c) = some x) (hQ : Q x.exit' a w) : c.wpIn F n P Q a w := by
  cases c <;> simp only [jumpX, Option.some.injEq] at h <;> first | (cases h; done) | skip
  case ret => cases h; exact wpIn_ret hQ
  case exit id => cases h; exact wpIn_exit hQ
  case goto l => cases h; exact wpIn_goto hQ

theorem wp_arange (hcall : CallOk P gl C) {g : Operand} {ps : Array Tmp} {as_ body : Code} {s : ASt} {x : AX} {s' : ASt} {φ : Emb} {w : World} {a : Act} {ds : List Deferred} (h : arange P C gl N g ps as_ body s = some (x, s'))
    (hr : Rel φ s.A w) (hg : GRel gl φ) (hm : MRel φ s.ms ds) (hs : SR N ds φ s.sl a) : (Code.rangeFunc g ps as_ body).wpIn (Fr none) 0 P (XPost φ s.A w N x s') a w := by
  unfold arange at h
  split at h
  · rename_i f first capt hev
    cases hen : enters P f with
    | false => rw [hen] at h; cases h
    | true =>
      rw [hen, cond_true] at h
      split at h
      · rename_i d A1 hp1
        split at h
        · rename_i l A2 hp2
          split at h
          · rename_i v A3 hc
            split at h
            · rename_i lp hlp
              cases hb : isBusy lp.state with
              | true => rw [hb] at h; cases h
              | false =>
                rw [hb, cond_false] at h
                split at h
                · rename_i A4 x' hso hj
                  cases h
                  -- the function's value
                  have hgv := evs_rel hg hs.get g
                  rw [hev] at hgv
                  have hfun : ∃ fs' cs', a.eval g = .func (.func f) fs' cs' ∧ RL first φ fs' ∧ RL capt φ cs' := by
                    generalize a.eval g = u at hgv
                    cases hgv with
                    | func _ fs' _ cs' hn h1 h2 h3 h4 => exact ⟨fs', cs', rfl, RL.of h1 h3, RL.of h2 h4⟩
                  obtain ⟨fs', cs', hev', hfs, hcs⟩ := hfun
                  -- the two records
                  have st1 := step_push (o' := .deferred (some [])) (e := ⟨w.heap.size, 0, 0, 0⟩) hr hp1 rfl rfl (by
                    unfold ORel
                    exact ⟨rfl, .deferred (some []), by simp, rfl⟩)
                  have hd := (hr.wf.push hp1).2.1
                  refine wpIn_rangeFunc fun fn _ => ?_
                  let r0 : Loop := { state := .ready, pending := none, fn := fn, tmps := a.tmps, params := ps, assign := as_, body := body, defers := w.heap.size }
                  have st2 := step_push (o' := .loop r0) (e := ⟨w.heap.size + 1, 0, 0, 0⟩) st1.rel hp2 (by simp) rfl (by
                    unfold ORel
                    refine ⟨rfl, .loop r0, by
                      show ((w.heap.push (Obj.deferred (some []))).push (Obj.loop r0))[w.heap.size + 1]? = _
                      rw [Array.getElem?_push, if_pos (by simp)], r0, rfl, rfl, rfl, hs.size, rfl, rfl, rfl, ⟨⟨w.heap.size, 0, 0, 0⟩, ?_, rfl⟩, fun t v hv => ?_⟩
                    · have hlt := (st1.rel.wf.push hp2).2.1
                      have hn1 := (hr.wf.push hp1).2.2.1
                      show upd _ _ _ d = _
                      unfold upd
                      rw [if_neg (by omega), if_pos rfl]
                    · refine (hs.get t v hv).mono fun b e hb => ?_
                      have hlt := (st1.rel.wf.push hp2).2.1
                      have hn1 := (hr.wf.push hp1).2.2.1
                      have := hr.lt hb
                      unfold upd
                      rw [if_neg (by omega), if_neg (by omega)]
                      exact hb)
                  have st12 := Step.trans hr st1 st2
                  have hx12 := st12.ext hr
                  have hl12 : upd (upd φ d ⟨w.heap.size, 0, 0, 0⟩) l ⟨w.heap.size + 1, 0, 0, 0⟩ l = some ⟨w.heap.size + 1, 0, 0, 0⟩ := by unfold upd; rw [if_pos rfl]
                  have hd12 : upd (upd φ d ⟨w.heap.size, 0, 0, 0⟩) l ⟨w.heap.size + 1, 0, 0, 0⟩ d = some ⟨w.heap.size, 0, 0, 0⟩ := by
                    have hlt := (st1.rel.wf.push hp2).2.1
                    have hn1 := (hr.wf.push hp1).2.2.1
                    unfold upd
                    rw [if_neg (by omega), if_pos rfl]
                  have hyv : VRel (upd (upd φ d ⟨w.heap.size, 0, 0, 0⟩) l ⟨w.heap.size + 1, 0, 0, 0⟩) (.func (.yield l) ⟨[]⟩ ⟨[]⟩) (.func (.yield (w.heap.size + 1)) #[] #[]) := .yld hl12
                  have hmono1 : ∀ {ls : List Value} {as : Array Value}, RL ls φ as → RL ls (upd (upd φ d ⟨w.heap.size, 0, 0, 0⟩) l ⟨w.heap.size + 1, 0, 0, 0⟩) as := fun h => ⟨h.1, fun j hj => (h.2 j hj).mono hx12⟩
                  have h1 : RL [.func (.yield l) ⟨[]⟩ ⟨[]⟩] (upd (upd φ d ⟨w.heap.size, 0, 0, 0⟩) l ⟨w.heap.size + 1, 0, 0, 0⟩) #[.func (.yield (w.heap.size + 1)) #[] #[]] := ⟨rfl, fun j hj => by
                    have : j = 0 := by simpa using hj
                    subst this
                    exact hyv⟩
                  have hargs := ((hmono1 hfs).append h1).append (hmono1 hcs)
                  refine ⟨w.heap.size + 1, [{ target := .collected w.heap.size, args := #[] }], { w with heap := (w.heap.push (.deferred (some []))).push (.loop r0) }, { target := .fn (.func f) cs', args := fs' ++ #[.func (.yield (w.heap.size + 1)) #[] #[]] }, { w with heap := (w.heap.push (.deferred (some []))).push (.loop r0) }, f, fs' ++ #[.func (.yield (w.heap.size + 1)) #[] #[]] ++ cs', { w with heap := (w.heap.push (.deferred (some []))).push (.loop r0) }, ?_, ?_, fun _ _ => trivial, ?_, fun h => absurd h (by simp [Fr, Fence.wide]),
                    CallsIn.mono (callsIn_fr (hcall.call f _ A2 v A3 _ _ _ hc st12.rel (hg.mono hx12) hargs)) fun e w3 he => ?_⟩
                  · unfold Instr.enterLoop
                    simp only [Fr]
                    have hnew0 : (newObj (.deferred (some []))).run P w = .ok w.heap.size { w with heap := w.heap.push (.deferred (some [])) } := rfl
                    have hnew : (newObj (.loop r0)).run P { w with heap := w.heap.push (.deferred (some [])) } = .ok (w.heap.size + 1) { w with heap := (w.heap.push (.deferred (some []))).push (.loop r0) } := by
                      simp only [newObj, Sem.run, Array.size_push]
                    refine run_then hnew0 ?_
                    refine run_pre (a := (w.heap.size, [({ target := .collected w.heap.size, args := #[] } : Deferred)])) rfl ?_
                    exact run_then (k := fun x => pure (x, [({ target := .collected w.heap.size, args := #[] } : Deferred)])) hnew rfl
                  · unfold resolve
                    simp only [rangeCall, hev', List.map_toArray, List.map_cons, List.map_nil]
                    rfl
                  · exact pureRun_run (enters_run hen _) _
                  · cases e with
                    | returned v' =>
                      obtain ⟨φ3, _, st3⟩ := he
                      have hl3 := st3.ext st12.rel _ _ hl12
                      obtain ⟨r, q1, q2, q3, q4⟩ := rel_getLoop (P := P) st3.rel hlp hl3
                      obtain ⟨r', hr', hstate, hpend, hrest⟩ := id q2
                      cases hr'
                      have st4 := step_setOth (o' := .loop { r with state := .exhausted }) st3.rel hl3 hso (by
                        obtain ⟨u1, u2, u3, u4, u5, u6⟩ := hrest
                        exact ⟨{ r with state := .exhausted }, rfl, rfl, hpend, u1, u2, u3, u4, u5, u6⟩)
                      have stAll := Step.trans hr st12 (Step.trans st12.rel st3 st4)
                      have hmAll : MRel φ3 (d :: s.ms) ({ target := .collected w.heap.size, args := #[] } :: ds) := .cons (st3.ext st12.rel _ _ hd12) (hm.mono fun b e hb => st3.ext st12.rel _ _ (hx12 b e hb))
                      have hsr : SR N ({ target := .collected w.heap.size, args := #[] } :: ds) φ3 s.sl { a with defers := [{ target := .collected w.heap.size, args := #[] }] ++ a.defers } :=
                        ⟨hs.size, by simp [hs.defers], fun t v hv => (hs.get t v hv).mono fun b e hb => st3.ext st12.rel _ _ (hx12 b e hb)⟩
                      refine ⟨lp.pending, { w3 with heap := w3.heap.setIfInBounds (w.heap.size + 1) (.loop { r with state := .exhausted }) }, ?_, ?_⟩
                      · unfold Instr.endLoop
                        refine run_then q3 ?_
                        have hnb : (r.state == LoopState.busy) = false := by
                          rw [hstate]
                          cases hst : lp.state <;> rw [hst] at hb <;> first | rfl | cases hb
                        rw [hnb]
                        simp only [Bool.false_eq_true, if_false]
                        refine run_then (a := ()) (q4 _) ?_
                        rw [hpend]
                        rfl
                      · have post : XPost φ s.A w N x ⟨s.sl, d :: s.ms, A4⟩ x.exit' { a with defers := [{ target := .collected w.heap.size, args := #[] }] ++ a.defers } { w3 with heap := w3.heap.setIfInBounds (w.heap.size + 1) (.loop { r with state := .exhausted }) } :=
                          ⟨rfl, φ3, _, hmAll, hsr, stAll⟩
                        cases hpc : lp.pending with
                        | none =>
                          rw [hpc] at hj
                          cases hj
                          exact post
                        | some c =>
                          rw [hpc] at hj
                          exact wp_jump hj post
                    | panicked ch => exact he.elim
                    | outgrown => exact he.elim
                · cases h
            · cases h
          · cases h
        · cases h
      · cases h
  · cases h

end

section
variable {P : Program} [Lib P] [Facts P] {C : ACalls} {gl : Tr Nat} {N : Nat}

theorem wp_acode (hmix : P.follows .mixedOrders = true) (hcall : CallOk P gl C) (rnd : Bool) {ro : Option Nat} (hro : rnd = false → ro = none) (fuel : Nat) : ∀ c : Code, CodeOk P gl N ro c (acode P C gl N rnd fuel c)
  | .skip, s, x, s', φ, w, a, ds, h, hr, hg, hm, hs => by cases h; exact wpIn_skip ⟨rfl, φ, ds, hm, hs, Step.refl hr⟩
  | .label _, s, x, s', φ, w, a, ds, h, hr, hg, hm, hs => by cases h; exact wpIn_label ⟨rfl, φ, ds, hm, hs, Step.refl hr⟩
  | .exit id, s, x, s', φ, w, a, ds, h, hr, hg, hm, hs => by cases h; exact wpIn_exit ⟨rfl, φ, ds, hm, hs, Step.refl hr⟩
  | .goto l, s, x, s', φ, w, a, ds, h, hr, hg, hm, hs => by cases h; exact wpIn_goto ⟨rfl, φ, ds, hm, hs, Step.refl hr⟩
  | .ret, s, x, s', φ, w, a, ds, h, hr, hg, hm, hs => by cases h; exact wpIn_ret ⟨rfl, φ, ds, hm, hs, Step.refl hr⟩
  | .region id ops d, s, x, s', φ, w, a, ds, h, hr, hg, hm, hs => by
    unfold acode at h
    cases d with
    | true =>
      simp only [cond_true] at h
      split at h
      · rename_i s1 A1 h1
        cases h
        exact wp_adraw hmix hcall hr hg hs hro (fun c a w hx => by obtain ⟨he, _⟩ := hx; cases he) h1 fun φ2 a2 w2 r1 r2 => ⟨rfl, φ2, ds, hm.mono (r2.ext hr), r1, r2⟩
      · cases h
    | false =>
      simp only [cond_false] at h
      split at h
      · rename_i s1 A1 h1
        cases h
        exact wpIn_region_list (wpList_aregion hcall _ _ _ _ _ _ _ _ hr hg hs h1 fun φ2 a2 w2 r1 r2 => ⟨rfl, φ2, ds, hm.mono (r2.ext hr), r1, r2⟩)
      · cases h
  | .seq c1 c2, s, x, s', φ, w, a, ds, h, hr, hg, hm, hs => by
    unfold acode at h
    refine wpIn_seq ?_
    split at h
    · rename_i x1 s1 h1
      refine wpIn_mono (wp_acode hmix hcall rnd hro fuel c1 s x1 s1 φ w a ds h1 hr hg hm hs) fun e a1 w1 hx => ?_
      cases x1 with
      | normal =>
        obtain ⟨rfl, φ1, ds1, q0, q1, q2⟩ := hx
        exact wpIn_mono (wp_acode hmix hcall rnd hro fuel c2 s1 x s' φ1 w1 a1 ds1 h q2.rel (hg.mono (q2.ext hr)) q0 q1) fun e a2 w2 hp => XPost.trans hr q2 hp
      | exit xid => cases h; obtain ⟨rfl, _⟩ := id hx; exact hx
      | goto l => cases h; obtain ⟨rfl, _⟩ := id hx; exact hx
      | ret => cases h; obtain ⟨rfl, _⟩ := id hx; exact hx
    · cases h
  | .cond c c1 c2, s, x, s', φ, w, a, ds, h, hr, hg, hm, hs => by
    unfold acode at h
    split at h
    · rename_i t hc
      have hcv := evs_rel hg hs.get c
      rw [hc] at hcv
      have hce : a.eval c = .bool t := by
        cases hcc : a.eval c <;> rw [hcc] at hcv <;> cases hcv
        rfl
      refine wpIn_cond hce ?_
      cases t with
      | true => exact wp_acode hmix hcall rnd hro fuel c1 s x s' φ w a ds h hr hg hm hs
      | false => exact wp_acode hmix hcall rnd hro fuel c2 s x s' φ w a ds h hr hg hm hs
    · cases h
  | .block bid c, s, x, s', φ, w, a, ds, h, hr, hg, hm, hs => by
    unfold acode at h
    refine wpIn_block ?_
    split at h
    · rename_i x1 s1 h1
      refine wpIn_mono (wp_acode hmix hcall rnd hro fuel c s x1 s1 φ w a ds h1 hr hg hm hs) fun e a1 w1 hx => ?_
      cases x1 with
      | normal => cases h; obtain ⟨rfl, _⟩ := id hx; exact hx
      | goto l => cases h; obtain ⟨rfl, _⟩ := id hx; exact hx
      | ret => cases h; obtain ⟨rfl, _⟩ := id hx; exact hx
      | exit xid =>
        obtain ⟨rfl, hx⟩ := hx
        show if xid = bid then _ else _
        cases hb : Nat.beq xid bid with
        | true =>
          simp only [hb, cond_true] at h
          cases h
          rw [if_pos (Nat.eq_of_beq_eq_true hb)]
          exact ⟨rfl, hx⟩
        | false =>
          simp only [hb, cond_false] at h
          cases h
          rw [if_neg (fun e => by subst e; rw [Nat.beq_refl] at hb; cases hb)]
          exact ⟨rfl, hx⟩
    · cases h
  | .loop c, s, x, s', φ, w, a, ds, h, hr, hg, hm, hs => by
    unfold acode at h
    exact wpIn_loop_rounds fuel (wp_aloop (wp_acode hmix hcall rnd hro fuel c) fuel s x s' φ w a ds h hr hg hm hs _ fun _ _ _ hx => hx)
  | .scope c, s, x, s', φ, w, a, ds, h, hr, hg, hm, hs => by cases h
  | .rangeFunc g ps as_ body, s, x, s', φ, w, a, ds, h, hr, hg, hm, hs => by
    unfold acode at h
    cases hrn : rnd with
    | true => rw [hrn] at h; cases h
    | false =>
      rw [hrn, cond_false] at h
      have := hro hrn
      subst this
      exact wp_arange hcall h hr hg hm hs
  | .refuse _, s, x, s', φ, w, a, ds, h, hr, hg, hm, hs => by cases h

end

def setArgs : Nat → List Value → Sl → Option Sl
  | _, [], sl => some sl
  | i, v :: r, sl => match Tr.set v depth sl i with
    | some s => setArgs (i + 1) r s
    | none => none

omit [Sig] in
theorem setArgs_spec : ∀ (l : List Value) (i : Nat) (sl sl' : Sl), setArgs i l sl = some sl' → ∀ t v, sl'.get t = some v → (∃ j, j < l.length ∧ t = i + j ∧ v = l.getD j undef) ∨ sl.get t = some v
  | [], i, sl, sl', h, t, v, hv => by
    cases h
    exact .inr hv
  | u :: r, i, sl, sl', h, t, v, hv => by
    unfold setArgs at h
    split at h
    · rename_i s hs
      rcases setArgs_spec r (i + 1) s sl' h t v hv with ⟨j, hj, ht, hvj⟩ | hg
      · exact .inl ⟨j + 1, by simp; omega, by omega, by simpa using hvj⟩
      · rw [Tr.get_set _ _ _ _ _ t hs] at hg
        by_cases ht : t = i
        · subst ht
          rw [if_pos rfl] at hg
          cases hg
          exact .inl ⟨0, by simp, rfl, rfl⟩
        · rw [if_neg ht] at hg
          exact .inr hg
    · cases h

def ares (P : Program) (A : AS) (sl : Sl) : List ResultVar → Option (List Value)
  | [] => some []
  | .tmp t :: r => match ares P A sl r with
    | some vs => some (slot sl t :: vs)
    | none => none
  | .cell a t :: r => match aLoad P A t (slot sl a), ares P A sl r with
    | some v, some vs => some (v :: vs)
    | _, _ => none

def oneOf : List Value → Value
  | [v] => v
  | vs => .tuple ⟨vs⟩

section
variable {P : Program} {φ : Emb} {A A' : AS} {w : World}

theorem run_loadVar (hr : Rel φ A w) {t : TypeId} {p p' v : Value} (hp : VRel φ p p') (h : aLoad P A t p = some v) : ∃ v', (do loadVar t (← asAddr p')).run P w = .ok v' w ∧ VRel φ v v' := by
  unfold aLoad at h
  split at h
  · rename_i b off
    cases hp with
    | ptr he =>
      unfold loadVar
      cases hag : pureRun P (isAgg t) with
      | none => rw [hag] at h; cases h
      | some ag =>
        rw [hag] at h
        cases ag with
        | false =>
          simp only at h
          obtain ⟨v', h1, h2⟩ := rel_load hr h he
          refine ⟨v', run_pre (a := (⟨_, _, none⟩ : Addr)) rfl (run_pre hag ?_), h2⟩
          simp [Go.load, Sem.run, h1]
        | true =>
          simp only at h
          cases hsz : pureRun P (sizeOf t) with
          | none => rw [hsz] at h; cases h
          | some n =>
            rw [hsz] at h
            simp only at h
            obtain ⟨l, hl, rfl⟩ := Option.map_eq_some_iff.1 h
            obtain ⟨vs', h1, h2, h3⟩ := run_loadN hr P hl he
            refine ⟨.agg vs', run_pre (a := (⟨_, _, none⟩ : Addr)) rfl (run_pre hag ?_), .agg _ _ (by simp [h2]) fun i hi => by simpa using h3 i (by simpa using hi)⟩
            simp only [if_true]
            exact run_pre hsz (run_then h1 rfl)
  · cases h

def resOf (tmps : Array Value) : ResultVar → Sem Value
  | .tmp t => pure (tmps.getD t undef)
  | .cell a t => do loadVar t (← asAddr (tmps.getD a undef))

theorem run_ares (hr : Rel φ A w) {sl : Sl} {tmps : Array Value} (hs : ∀ t v, sl.get t = some v → VRel φ v (tmps.getD t undef)) : ∀ (l : List ResultVar) (vs : List Value), ares P A sl l = some vs →
    ∃ vs', (l.mapM (resOf tmps)).run P w = .ok vs' w ∧ RL vs φ ⟨vs'⟩
  | [], vs, h => by
    cases h
    exact ⟨[], rfl, rfl, fun j hj => absurd hj (by simp)⟩
  | .tmp t :: r, vs, h => by
    unfold ares at h
    split at h
    · rename_i us hu
      cases h
      obtain ⟨us', h1, h2, h3⟩ := run_ares hr hs r us hu
      refine ⟨tmps.getD t undef :: us', ?_, by simpa using h2, fun j hj => ?_⟩
      · rw [List.mapM_cons]
        exact run_pre (a := tmps.getD t undef) rfl (run_then h1 rfl)
      · cases j with
        | zero => exact slot_rel (hs t)
        | succ j => simpa using h3 j (by simpa using hj)
    · cases h
  | .cell a t :: r, vs, h => by
    unfold ares at h
    split at h
    · rename_i v us hv hu
      cases h
      obtain ⟨us', h1, h2, h3⟩ := run_ares hr hs r us hu
      obtain ⟨v', g1, g2⟩ := run_loadVar hr (slot_rel (hs a)) hv
      refine ⟨v' :: us', ?_, by simpa using h2, fun j hj => ?_⟩
      · rw [List.mapM_cons]
        exact run_then g1 (run_then h1 rfl)
      · cases j with
        | zero => exact g2
        | succ j => simpa using h3 j (by simpa using hj)
    · cases h

theorem run_results (hr : Rel φ A w) {sl : Sl} {fn : Func} {tmps : Array Value} (hs : ∀ t v, sl.get t = some v → VRel φ v (tmps.getD t undef)) {vs : List Value} (h : ares P A sl fn.results.toList = some vs) :
    ∃ v', (results fn tmps).run P w = .ok v' w ∧ VRel φ (oneOf vs) v' := by
  obtain ⟨vs', h1, h2, h3⟩ := run_ares hr hs _ vs h
  have e : results fn tmps = (fn.results.mapM (resOf tmps)) >>= fun vs => pure (if h : vs.size = 1 then vs[0] else .tuple vs) := by
    unfold results
    congr 1
  rw [e, Array.mapM_eq_mapM_toList]
  refine ⟨_, run_then (a := (⟨vs'⟩ : Array Value)) (run_then h1 rfl) rfl, ?_⟩
  match vs, vs', h2, h3 with
  | [v], [v'], _, h3 => exact h3 0 (by simp)
  | [], [], _, _ => exact .tuple _ _ rfl fun i hi => absurd hi (by simp)
  | a :: b :: r, a' :: b' :: r', h2, h3 => exact .tuple _ _ (by simpa using h2.symm) fun i hi => by simpa using h3 i (by simpa using hi)

end

/- ROUNDS AND CALLS -/

def setPs (N : Nat) : List Tmp → List Value → Sl → Option Sl
  | [], [], sl => some sl
  | t :: ts, v :: vs, sl => match aput N sl (some t) v with
    | some s => setPs N ts vs s
    | none => none
  | _, _, _ => none

def isReady : LoopState → Bool
  | .ready => true
  | _ => false

def jumpOf : AX → Option Code
  | .normal => none
  | .exit id => some (.exit id)
  | .goto l => some (.goto l)
  | .ret => some .ret

def stateOf : AX → LoopState
  | .normal => .ready
  | _ => .done

def isNormal : AX → Bool
  | .normal => true
  | _ => false

def aroundBy (P : Program) [Lib P] [Facts P] (gl : Tr Nat) (fuel : Nat) (C : ACalls) (b : Nat) (args : List Value) (A : AS) : Option (Value × AS) :=
  match A.getLoop b with
  | some lp => match setPs lp.N lp.params args lp.sl with
    | some sl0 => match acode P C gl lp.N true fuel lp.assign { sl := sl0, ms := [], A } with
      | some (.normal, s1) => match s1.A.getLoop b with
        | some lp1 => bif isReady lp1.state then
            match s1.A.setOth b (.loop { lp1 with state := .busy }) with
            | some A2 => match acode P C gl lp.N true fuel lp.body { sl := s1.sl, ms := s1.ms, A := A2 } with
              | some (x, s3) => match s3.A.getLoop b with
                | some lp3 => match s3.A.setOth b (.loop { lp3 with state := stateOf x, pending := jumpOf x }) with
                  | some A4 => some (.bool (isNormal x), A4)
                  | none => none
                | none => none
              | none => none
            | none => none
          else none
        | none => none
      | _ => none
    | none => none
  | none => none

def acallBy (P : Program) [Lib P] [Facts P] (gl : Tr Nat) (fuel : Nat) (C : ACalls) (f : FuncId) (args : List Value) (A : AS) : Option (Value × AS) :=
  match P.funcs[f]? with
  | some fn => match fn.body with
    | some c => match setArgs 0 args .nil with
      | some sl => match acode P C gl (args.length + (fn.ntmps - args.length)) false fuel c { sl, ms := [], A } with
        | some (x, s1) => match x with
          | .exit _ => none
          | .goto _ => none
          | _ => match aleave s1.A s1.ms with
            | some A2 => match ares P A2 s1.sl fn.results.toList with
              | some vs => some (oneOf vs, A2)
              | none => none
            | none => none
        | none => none
      | none => none
    | none => none
  | none => none

def acalls (P : Program) [Lib P] [Facts P] (gl : Tr Nat) (fuel : Nat) : Nat → ACalls
  | 0 => { call := fun _ _ _ => none, round := fun _ _ _ => none }
  | d + 1 => { call := acallBy P gl fuel (acalls P gl fuel d), round := aroundBy P gl fuel (acalls P gl fuel d) }

section
variable {P : Program} {gl : Tr Nat}

theorem SR.setPs {N : Nat} {ds : List Deferred} {φ : Emb} : ∀ (ts : List Tmp) (vs : List Value) (us : List Value) (sl sl' : Sl) (a : Act), SR N ds φ sl a → AE.setPs N ts vs sl = some sl' → us.length = vs.length → (∀ j, j < vs.length → VRel φ (vs.getD j undef) (us.getD j undef)) →
    ts.length = us.length ∧ SR N ds φ sl' { a with tmps := (ts.zip us).foldl (fun tmps p => tmps.setIfInBounds p.1 p.2) a.tmps }
  | [], [], us, sl, sl', a, hs, h, hl, hv => by
    cases h
    have : us = [] := by simpa using hl
    subst this
    exact ⟨rfl, hs⟩
  | t :: ts, v :: vs, us, sl, sl', a, hs, h, hl, hv => by
    unfold AE.setPs at h
    split at h
    · rename_i s1 h1
      cases us with
      | nil => simp at hl
      | cons u us =>
        have hput := hs.put (by simpa using hv 0 (by simp)) h1
        obtain ⟨q1, q2⟩ := SR.setPs ts vs us s1 sl' _ hput h (by simpa using hl) (fun j hj => by simpa using hv (j + 1) (by simpa using hj))
        exact ⟨by simp [q1], q2⟩
    · cases h
  | [], _ :: _, _, _, _, _, _, h, _, _ => by cases h
  | _ :: _, [], _, _, _, _, _, h, _, _ => by cases h

end
end AE
end Go.Proofs.YtheaofepenbcgaaDoor

/- AE, part 21: rounds and calls are what the evaluator says. -/
import Derived.Test.YtheaofepenbcgaaDoorAe20
namespace Go.Proofs.YtheaofepenbcgaaDoor
open Go
namespace AE
variable [Sig]

section
variable {P : Program} [Lib P] [Facts P] {gl : Tr Nat} {fuel : Nat} {C : ACalls}

theorem acallBy_ok (hmix : P.follows .mixedOrders = true) (hcall : CallOk P gl C) {f : FuncId} {args : List Value} {A : AS} {v : Value} {A' : AS} {φ : Emb} {w : World} {args' : Array Value} (h : acallBy P gl fuel C f args A = some (v, A')) (hr : Rel φ A w) (hg : GRel gl φ)
    (hargs : RL args φ args') : Calls P f args' w (CPost φ A w v A') := by
  unfold acallBy at h
  split at h
  · rename_i fn hfn
    split at h
    · rename_i c hc
      split at h
      · rename_i sl hsl
        split at h
        · rename_i x s1 hcode
          have hsz : args'.size = args.length := hargs.1
          have hs : SR (args.length + (fn.ntmps - args.length)) [] φ sl { tmps := args' ++ Array.replicate (fn.ntmps - args'.size) undef, defers := [] } := by
            refine ⟨by simp [hsz], rfl, fun t u hu => ?_⟩
            rcases setArgs_spec _ _ _ _ hsl t u hu with ⟨j, hj, ht, rfl⟩ | hg
            · have := hargs.2 j hj
              simp only [Nat.zero_add] at ht
              subst ht
              simp only [Array.getD_eq_getD_getElem?] at this ⊢
              rw [Array.getElem?_append_left (by omega)]
              exact this
            · cases hg
          have fin : ∀ (vs : List Value) (A2 : AS), (x = .normal ∨ x = .ret) → aleave s1.A s1.ms = some A2 → ares P A2 s1.sl fn.results.toList = some vs → v = oneOf vs → A' = A2 → Calls P f args' w (CPost φ A w v A') := by
            intro vs A2 hx hleave hres hv hA
            subst hv; subst hA
            refine (callsIn_wide (n := 0)).1 ?_
            refine callsIn_of_wp_marks hfn hc trivial ?_ rfl
            have hwp := wp_acode (ro := none) hmix hcall false (fun _ => rfl) fuel c { sl, ms := [], A } x s1 φ w _ [] hcode hr hg .nil hs
            refine wpIn_mono (F := Fr none) hwp fun e a1 w1 hp => ?_
            obtain ⟨rfl, φ1, ds, q0, q1, q2⟩ := hp
            have main : LeavesInM (Fr none) 0 P fn a1.tmps (CPost φ A w (oneOf vs) A') a1.defers .returning w1 := by
              rw [q1.defers]
              refine leaves_aleave s1.ms ds s1.A A' w1 q2.rel q0 hleave fun w2 q3 => ?_
              obtain ⟨v', g1, g2⟩ := run_results (fn := fn) q3.rel q1.get hres
              exact ⟨v', g1, φ1, g2, Step.trans hr q2 q3⟩
            rcases hx with rfl | rfl
            · exact main
            · exact main
          cases x with
          | exit xid => cases h
          | goto l => cases h
          | normal =>
            simp only at h
            split at h
            · rename_i A2 hl
              split at h
              · rename_i vs hres
                cases h
                exact fin vs A' (.inl rfl) hl hres rfl rfl
              · cases h
            · cases h
          | ret =>
            simp only at h
            split at h
            · rename_i A2 hl
              split at h
              · rename_i vs hres
                cases h
                exact fin vs A' (.inr rfl) hl hres rfl rfl
              · cases h
            · cases h
        · cases h
      · cases h
    · cases h
  · cases h

theorem aroundBy_ok (hmix : P.follows .mixedOrders = true) (hcall : CallOk P gl C) {b : Nat} {args : List Value} {A : AS} {v : Value} {A' : AS} {φ : Emb} {w : World} {args' : Array Value} {e : Em} {k : ABlk} {lp : ALoop} {r : Loop}
    (h : aroundBy P gl fuel C b args A = some (v, A')) (hr : Rel φ A w) (hg : GRel gl φ) (hargs : RL args φ args') (he : φ b = some e) (hk : A.bl.get b = some k) (hobj : k.obj = .oth (.loop lp)) (hheap : w.heap[e.blk]? = some (.loop r)) (hoth : OthRel φ (.loop lp) (.loop r)) :
    args'.size = r.params.size ∧ RoundIn Fence.wide 0 P e.blk r.fn ((r.params.zip args').foldl (fun tmps (t, a) => tmps.setIfInBounds t a) r.tmps) r.assign r.body w (CPost φ A w v A') := by
  unfold aroundBy at h
  have hgl : A.getLoop b = some lp := by unfold AS.getLoop; rw [hk]; simp only [hobj]
  rw [hgl] at h
  simp only at h
  obtain ⟨r0, hr0, hst, hpend, hN, hps, has, hbd, hdf, hsl⟩ := id hoth
  cases hr0
  split at h
  · rename_i sl0 hset
    have hs0 : SR lp.N [] φ lp.sl { tmps := r.tmps, defers := [] } := ⟨hN, rfl, hsl⟩
    obtain ⟨ua⟩ := args'
    obtain ⟨hu1, hu2⟩ := hargs
    simp only [List.size_toArray] at hu1
    obtain ⟨hlen, hs1⟩ := SR.setPs lp.params args ua lp.sl sl0 _ hs0 hset hu1 (fun j hj => by simpa [Array.getD_eq_getD_getElem?] using hu2 j hj)
    refine ⟨by rw [hps]; simp [hlen], ?_⟩
    have htm : (r.params.zip ⟨ua⟩).foldl (fun tmps (t, a) => tmps.setIfInBounds t a) r.tmps = (lp.params.zip ua).foldl (fun tmps p => tmps.setIfInBounds p.1 p.2) r.tmps := by
      rw [hps, ← Array.foldl_toList]
      simp
    rw [htm]
    split at h
    · rename_i s1 hassign
      split at h
      · rename_i lp1 hl1
        cases hrd : isReady lp1.state with
        | false => rw [hrd] at h; cases h
        | true =>
          rw [hrd, cond_true] at h
          split at h
          · rename_i A2 hso
            split at h
            · rename_i x s3 hbody
              split at h
              · rename_i lp3 hl3
                split at h
                · rename_i A4 hso4
                  cases h
                  refine roundIn_of_wpIn trivial ?_
                  rw [has, hbd]
                  have hwa := wp_acode (ro := some e.blk) hmix hcall true (fun h => by cases h) fuel lp.assign { sl := sl0, ms := [], A } .normal s1 φ w _ [] hassign hr hg .nil hs1
                  refine wpIn_mono (F := Fr (some e.blk)) hwa fun e1 a1 w1 hp => ?_
                  obtain ⟨rfl, φ1, ds1, q0, q1, q2⟩ := hp
                  have he1 := q2.ext hr _ _ he
                  obtain ⟨r1, g1, g2, g3, g4⟩ := rel_getLoop (P := P) q2.rel hl1 he1
                  obtain ⟨r1', hr1, hst1, hrest1⟩ := id g2
                  cases hr1
                  have st2 := step_setOth (o' := .loop { r1 with state := .busy }) q2.rel he1 hso ⟨{ r1 with state := .busy }, rfl, rfl, hrest1⟩
                  refine ⟨{ w1 with heap := w1.heap.setIfInBounds e.blk (.loop { r1 with state := .busy }) }, ?_, ?_⟩
                  · unfold Instr.beginRound
                    refine run_then g3 ?_
                    refine run_then (a := ()) (g4 _) ?_
                    rw [hst1]
                    cases hls : lp1.state <;> rw [hls] at hrd <;> first | rfl | cases hrd
                  · have hsA := Step.trans hr q2 st2
                    have hwb := wp_acode (ro := some e.blk) hmix hcall true (fun h => by cases h) fuel lp.body { sl := s1.sl, ms := s1.ms, A := A2 } x s3 φ1 _ a1 ds1 hbody st2.rel (hg.mono (hsA.ext hr)) q0 q1
                    refine wpIn_mono (F := Fr (some e.blk)) hwb fun e2 a2 w2 hp2 => ?_
                    obtain ⟨rfl, φ3, ds3, p0, p1, p2⟩ := hp2
                    have he3 := p2.ext st2.rel _ _ he1
                    obtain ⟨r3, u1, u2, u3, u4⟩ := rel_getLoop (P := P) p2.rel hl3 he3
                    obtain ⟨r3', hr3, hst3, hpend3, hrest3⟩ := id u2
                    cases hr3
                    have st4 := step_setOth (o' := .loop { r3 with state := stateOf x, pending := jumpOf x }) p2.rel he3 hso4 ⟨{ r3 with state := stateOf x, pending := jumpOf x }, rfl, rfl, rfl, hrest3⟩
                    have stAll := Step.trans hr hsA (Step.trans st2.rel p2 st4)
                    have hend : ∀ (j : Option Code), j = jumpOf x → (Instr.endRound e.blk j).run P w2 = .ok (.bool (isNormal x)) { w2 with heap := w2.heap.setIfInBounds e.blk (.loop { r3 with state := stateOf x, pending := jumpOf x }) } := by
                      intro j hj
                      subst hj
                      unfold Instr.endRound
                      refine run_then u3 ?_
                      have hst : (if (jumpOf x).isNone then LoopState.ready else LoopState.done) = stateOf x := by cases x <;> rfl
                      have hn : (jumpOf x).isNone = isNormal x := by cases x <;> rfl
                      rw [hst, hn]
                      exact run_then (a := ()) (u4 _) rfl
                    have post : CPost φ A w (.bool (isNormal x)) A' (.returned (.bool (isNormal x))) { w2 with heap := w2.heap.setIfInBounds e.blk (.loop { r3 with state := stateOf x, pending := jumpOf x }) } := ⟨φ3, .bool _, stAll⟩
                    cases x with
                    | normal => exact ⟨_, _, hend _ rfl, post⟩
                    | ret => exact ⟨_, _, hend _ rfl, post⟩
                    | exit xid => exact ⟨_, _, hend _ rfl, post⟩
                    | goto l => exact ⟨_, _, hend _ rfl, post⟩
                · cases h
              · cases h
            · cases h
          · cases h
      · cases h
    · cases h
  · cases h

theorem acalls_ok (hmix : P.follows .mixedOrders = true) (hF : FactsOk P) : ∀ d, CallOk P gl (acalls P gl fuel d)
  | 0 => ⟨hF, fun f args A v A' φ w args' h => (by cases h), fun b args A v A' φ w args' e k lp r h => (by cases h)⟩
  | d + 1 => ⟨hF, fun f args A v A' φ w args' h hr hg hargs => acallBy_ok hmix (acalls_ok hmix hF d) h hr hg hargs,
      fun b args A v A' φ w args' e k lp r h hr hg hargs he hk hobj hheap hoth => aroundBy_ok hmix (acalls_ok hmix hF d) h hr hg hargs he hk hobj hheap hoth⟩

end
end AE
end Go.Proofs.YtheaofepenbcgaaDoor

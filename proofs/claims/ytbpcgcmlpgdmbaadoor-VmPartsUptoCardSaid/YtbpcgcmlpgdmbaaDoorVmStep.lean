/- Proved: vm's Step as a contract. -/
import Derived.Test.YtbpcgcmlpgdmbaaDoorVmWalk
import Derived.Test.YtbpcgcmlpgdmbaaDoorVmStepM
import Derived.Deep.Onto
namespace Go.Proofs.YtbpcgcmlpgdmbaaDoor
open Go.RowKit
open Gen
open Rw
set_option linter.unusedVariables false
set_option linter.unusedSimpArgs false
set_option maxRecDepth 100000
theorem Mach.start (W0 : World) (c : Gen.Cd) (day : Int) (vw vi vf : Value) :
    Mach W0 W0.heap.size c day vw vi vf Vm.st0 (.slice none 0 0) (.slice none 0 0) (W0.alloc (.cells #[.int .i64 c.regs, vw, vi, .int .i64 day, vf, .slice none 0 0, .slice none 0 0, .int .i64 0, .bool false] 54)) :=
  ⟨(Below.refl _ _).alloc (Nat.le_refl _) _, heap_alloc_new _ _, World.ownsRow_nil _ _ _ _, World.ownsRow_nil _ _ _ _⟩
def condBad (c : Gen.Cd) (L : List (Int × Int)) (day : Int) (Fr : Bool) (pk np : Bool) : Bool :=
  !((pk || np) && (Gen.right c && ((decide (0 ≤ day) && decide (day ≤ 73048)) && (Fr && decide (L.length ≤ 250)))))
set_option maxHeartbeats 8000000 in
theorem step_any (c : Gen.Cd) (L : List (Int × Int)) (day : Int) (F : List Fd.Feed) (lab : ByteArray) (wh : Int) (vw vi vl vf : Value) (w : World) (hc : CdAt w (.agg #[.int .i64 c.regs, vw, vi]) c) (hl : StampsAt w vl L) (hF : FeedsAt w vf F) (hlab : lab.size ≤ 2000000) :
    Calls Tryd.prog 5 #[.agg #[.int .i64 c.regs, vw, vi], vl, .int .i64 day, vf, .agg #[.string lab, .int .i64 wh]] w (StepPost (Vm.step c L day F lab wh) day w) := by
  have HCD := hid' hc
  have HLS := hid' hl
  have HFS := hid' hF
  have HLAB := hid' hlab
  obtain ⟨wp, wk, rfl, hwl⟩ : ∃ wp wk, vw = .slice wp c.waits.length wk ∧ (c.waits.length ≤ wk ∧ wk ≤ maxLen) := by
    obtain ⟨vw', vi', e, ⟨p, cc, e2, h2, _⟩, _⟩ := hc
    simp only [Value.agg.injEq, Array.mk.injEq, List.cons.injEq, and_true, true_and] at e
    obtain ⟨rfl, rfl⟩ := e
    exact ⟨p, cc, e2, h2⟩
  obtain ⟨ip, ic, rfl⟩ : ∃ ip ic, vi = .slice ip c.ins.length ic := by
    obtain ⟨vw', vi', e, _, ⟨p, cc, e2, _, _⟩, _⟩ := hc
    simp only [Value.agg.injEq, Array.mk.injEq, List.cons.injEq, and_true, true_and] at e
    obtain ⟨rfl, rfl⟩ := e
    exact ⟨p, cc, e2⟩
  obtain ⟨lp, lc, rfl, ⟨hl1, hl2⟩, -⟩ := hl
  obtain ⟨fp, fc, rfl, -, -⟩ := hF
  have hwn : (c.waits.length : Int) ≤ 9223372036854775807 := by have := hwl.2; unfold maxLen at this; omega
  have hln : (L.length : Int) ≤ 9223372036854775807 := by unfold maxLen at hl2; omega
  obtain ⟨R, hR⟩ : ∃ R, Hid (R = Vm.step c L day F lab wh) := ⟨_, rfl⟩
  rw [← hR.out]
  clear hc hlab hwl hl1 hl2
  have B0 := ((Below.refl w.heap.size w).alloc (Nat.le_refl _) (.cells #[.int .i64 c.regs, .slice wp c.waits.length wk, .slice ip c.ins.length ic] 25)).alloc (by simp) (.cells #[.string lab, .int .i64 wh] 29)
  have HB0 := hid' B0
  have HC5 := hid' (show ((w.alloc (.cells #[.int .i64 c.regs, .slice wp c.waits.length wk, .slice ip c.ins.length ic] 25)).alloc (.cells #[.string lab, .int .i64 wh] 29)).heap[w.heap.size]? = some (.cells #[.int .i64 c.regs, .slice wp c.waits.length wk, .slice ip c.ins.length ic] 25 (0, 0)) from (two_boxes w _ _).1)
  have HC9 := hid' (show ((w.alloc (.cells #[.int .i64 c.regs, .slice wp c.waits.length wk, .slice ip c.ins.length ic] 25)).alloc (.cells #[.string lab, .int .i64 wh] 29)).heap[w.heap.size + 1]? = some (.cells #[.string lab, .int .i64 wh] 29 (0, 0)) from by
    have := heap_alloc_new (w.alloc (.cells #[.int .i64 c.regs, .slice wp c.waits.length wk, .slice ip c.ins.length ic] 25)) (.cells #[.string lab, .int .i64 wh] 29)
    rwa [World.size_alloc] at this)
  clear B0
  go_enter Tryd.func5, Tryd.ntmps5
  go_upto_region 1 with (fail)
  obtain ⟨b5, hb5⟩ : ∃ b5, b5 = w.heap.size := ⟨_, rfl⟩
  rw [← hb5] at HC5 HC9 ⊢
  clear hb5
  generalize (w.alloc (.cells #[.int .i64 c.regs, .slice wp c.waits.length wk, .slice ip c.ins.length ic] 25)).alloc (.cells #[.string lab, .int .i64 wh] 29) = w2 at *
  have s0 := bcells HC9.out 0 _ rfl
  have s1 := bcells HC9.out 1 _ rfl
  obtain ⟨pk, hpk⟩ : ∃ pk, Hid (pk = Vm.picksB lab wh) := ⟨_, rfl⟩
  go_cut [14] (fun v wx => v = .bool pk ∧ Hid (Below w2.heap.size w2 wx))
  case first =>
    have HC := hid' (fun W => visName_any lab W (by have := HLAB.out; omega))
    have hb := hid' (show pk = (Led.isName lab && (decide (wh = 1) || decide (wh = 2))) from hpk.out)
    cases hn : Led.isName lab with
    | false =>
      rw [hn] at HC hb
      have hq := hid' (show pk = false from hb.out)
      clear hn hb
      go_wp2_with (first | (go_at_call 9; refine (HC.out _).mono ?_; rintro e w3 ⟨rfl, b3⟩))
      go_meet
      exact ⟨by rw [hq.out], b3⟩
    | true =>
      rw [hn] at HC hb
      clear hn
      by_cases h1 : wh = 1
      · subst h1
        have hq := hid' (show pk = true from hb.out)
        clear hb
        go_wp2_with (first | (go_at_call 9; refine (HC.out _).mono ?_; rintro e w3 ⟨rfl, b3⟩; replace s1 := keep_all b3 _ _ s1))
        go_meet
        exact ⟨by rw [hq.out], b3⟩
      · have g1 : (wh == 1) = false := by rw [beq_eq_false_iff_ne]; exact h1
        by_cases h2 : wh = 2
        · subst h2
          have hq := hid' (show pk = true from hb.out)
          clear hb h1
          go_wp2_with (first | (go_at_call 9; refine (HC.out _).mono ?_; rintro e w3 ⟨rfl, b3⟩; replace s1 := keep_all b3 _ _ s1))
          go_meet
          exact ⟨by rw [hq.out], b3⟩
        · have g2 : (wh == 2) = false := by rw [beq_eq_false_iff_ne]; exact h2
          have hq := hid' (show pk = false by rw [hb.out, decide_eq_false h1, decide_eq_false h2]; rfl)
          clear hb h1 h2
          go_wp2_with (first | (go_at_call 9; refine (HC.out _).mono ?_; rintro e w3 ⟨rfl, b3⟩; replace s1 := keep_all b3 _ _ s1))
          go_meet
          exact ⟨by rw [hq.out], b3⟩
  case rest =>
    obtain ⟨rfl, HB2⟩ := hcut
    have HC5' := hid' (box_below HB2.out HC5.out)
    have HC9' := hid' (box_below HB2.out HC9.out)
    have HBC := hid' (Below.more HB0.out HB2.out)
    clear s0 s1 HC5 HC9 HB0 HB2
    obtain ⟨w3, hw3⟩ : ∃ w3, w3 = wc := ⟨_, rfl⟩
    subst hw3
    have s0 := bcells HC9'.out 0 _ rfl
    have s1 := bcells HC9'.out 1 _ rfl
    have d0 := bcells HC5'.out 0 _ rfl
    have d1 := bcells HC5'.out 1 _ rfl
    have d2 := bcells HC5'.out 2 _ rfl
    obtain ⟨np, hnp⟩ : ∃ np, Hid (np = Vm.noPick lab wh) := ⟨_, rfl⟩
    obtain ⟨bad, hbad⟩ : ∃ bad, Hid (bad = condBad c L day (Fd.right F) pk np) := ⟨_, rfl⟩
    go_upto_region 2 with (fail)
    go_cut [59] (fun v wx => v = .bool bad ∧ Hid (Below w3.heap.size w3 wx))
    case first =>
      have HR := hid' (fun (W : World) (b : Below w3.heap.size w3 W) => genRight_any (.agg #[.int .i64 c.regs, .slice wp c.waits.length wk, .slice ip c.ins.length ic]) c W ((HCD.out.below HBC.out).below b))
      have HFD := hid' (fun (W : World) (b : Below w3.heap.size w3 W) => rightFeeds_any (.slice fp F.length fc) F W ((HFS.out.below HBC.out).below b))
      have HDY := hid' (fun W => visDay_any day W)
      have hb := hid' (show bad = !((pk || np) && (Gen.right c && ((decide (0 ≤ day) && decide (day ≤ 73048)) && (Fd.right F && decide (L.length ≤ 250))))) from hbad.out)
      cases pk with
      | true =>
        cases hr : Gen.right c with
        | false =>
          rw [hr] at HR hb
          have hq := hid' (show bad = true from hb.out)
          clear hb  hr
          go_wp2_with (first | (go_at_call 10; refine (HR.out _ (Below.refl _ _)).mono ?_; rintro e wa ⟨rfl, b3⟩; have hb3 := hid' b3; clear b3) | (go_at_call 11; refine (HDY.out _).mono ?_; rintro e wb ⟨rfl, rfl⟩) | (go_at_call 12; refine (HFD.out _ hb3.out).mono ?_; rintro e wd ⟨rfl, b5'⟩; have hb5 := hid' (Below.more hb3.out b5'); clear b5'))
          go_meet
          exact ⟨by rw [hq.out], hb3⟩
        | true =>
          rw [hr] at HR hb
          clear hr
          cases hD : (decide (0 ≤ day) && decide (day ≤ 73048)) with
          | false =>
            rw [hD] at HDY hb
            have hq := hid' (show bad = true from hb.out)
            clear hb hD
            go_wp2_with (first | (go_at_call 10; refine (HR.out _ (Below.refl _ _)).mono ?_; rintro e wa ⟨rfl, b3⟩; have hb3 := hid' b3; clear b3) | (go_at_call 11; refine (HDY.out _).mono ?_; rintro e wb ⟨rfl, rfl⟩) | (go_at_call 12; refine (HFD.out _ hb3.out).mono ?_; rintro e wd ⟨rfl, b5'⟩; have hb5 := hid' (Below.more hb3.out b5'); clear b5'))
            go_meet
            exact ⟨by rw [hq.out], hb3⟩
          | true =>
            rw [hD] at HDY hb
            clear hD
            cases hF2 : Fd.right F with
            | false =>
              rw [hF2] at HFD hb
              have hq := hid' (show bad = true from hb.out)
              clear hb hF2
              go_wp2_with (first | (go_at_call 10; refine (HR.out _ (Below.refl _ _)).mono ?_; rintro e wa ⟨rfl, b3⟩; have hb3 := hid' b3; clear b3) | (go_at_call 11; refine (HDY.out _).mono ?_; rintro e wb ⟨rfl, rfl⟩) | (go_at_call 12; refine (HFD.out _ hb3.out).mono ?_; rintro e wd ⟨rfl, b5'⟩; have hb5 := hid' (Below.more hb3.out b5'); clear b5'))
              go_meet
              exact ⟨by rw [hq.out], hb5⟩
            | true =>
              rw [hF2] at HFD hb
              clear hF2
              by_cases h250 : 250 < L.length
              · have g1 : decide (250 < L.length) = true := decide_eq_true h250
                have g1i : decide ((250 : Int) < (L.length : Int)) = true := decide_eq_true (by omega)
                rw [decide_eq_false (by omega : ¬ L.length ≤ 250)] at hb
                have hq := hid' (show bad = true from hb.out)
                clear hb h250
                go_wp2_with (first | (go_at_call 10; refine (HR.out _ (Below.refl _ _)).mono ?_; rintro e wa ⟨rfl, b3⟩; have hb3 := hid' b3; clear b3) | (go_at_call 11; refine (HDY.out _).mono ?_; rintro e wb ⟨rfl, rfl⟩) | (go_at_call 12; refine (HFD.out _ hb3.out).mono ?_; rintro e wd ⟨rfl, b5'⟩; have hb5 := hid' (Below.more hb3.out b5'); clear b5'))
                go_meet
                exact ⟨by rw [hq.out], hb5⟩
              · have g1 : decide (250 < L.length) = false := decide_eq_false h250
                have g1i : decide ((250 : Int) < (L.length : Int)) = false := decide_eq_false (by omega)
                rw [decide_eq_true (by omega : L.length ≤ 250)] at hb
                have hq := hid' (show bad = false from hb.out)
                clear hb h250
                go_wp2_with (first | (go_at_call 10; refine (HR.out _ (Below.refl _ _)).mono ?_; rintro e wa ⟨rfl, b3⟩; have hb3 := hid' b3; clear b3) | (go_at_call 11; refine (HDY.out _).mono ?_; rintro e wb ⟨rfl, rfl⟩) | (go_at_call 12; refine (HFD.out _ hb3.out).mono ?_; rintro e wd ⟨rfl, b5'⟩; have hb5 := hid' (Below.more hb3.out b5'); clear b5'))
                go_meet
                exact ⟨by rw [hq.out], hb5⟩
      | false =>
        have hn := hid' (show np = (decide (lab = ⟨#[]⟩) && decide (wh = 0)) from hnp.out)
        by_cases hl0 : lab = ⟨#[]⟩
        · by_cases hw0 : wh = 0
          · subst hl0
            subst hw0
            obtain rfl : np = true := hn.out
            clear hn
            cases hr : Gen.right c with
            | false =>
              rw [hr] at HR hb
              have hq := hid' (show bad = true from hb.out)
              clear hb  hr
              go_wp2_with (first | (go_at_call 10; refine (HR.out _ (Below.refl _ _)).mono ?_; rintro e wa ⟨rfl, b3⟩; have hb3 := hid' b3; clear b3) | (go_at_call 11; refine (HDY.out _).mono ?_; rintro e wb ⟨rfl, rfl⟩) | (go_at_call 12; refine (HFD.out _ hb3.out).mono ?_; rintro e wd ⟨rfl, b5'⟩; have hb5 := hid' (Below.more hb3.out b5'); clear b5'))
              go_meet
              exact ⟨by rw [hq.out], hb3⟩
            | true =>
              rw [hr] at HR hb
              clear hr
              cases hD : (decide (0 ≤ day) && decide (day ≤ 73048)) with
              | false =>
                rw [hD] at HDY hb
                have hq := hid' (show bad = true from hb.out)
                clear hb hD
                go_wp2_with (first | (go_at_call 10; refine (HR.out _ (Below.refl _ _)).mono ?_; rintro e wa ⟨rfl, b3⟩; have hb3 := hid' b3; clear b3) | (go_at_call 11; refine (HDY.out _).mono ?_; rintro e wb ⟨rfl, rfl⟩) | (go_at_call 12; refine (HFD.out _ hb3.out).mono ?_; rintro e wd ⟨rfl, b5'⟩; have hb5 := hid' (Below.more hb3.out b5'); clear b5'))
                go_meet
                exact ⟨by rw [hq.out], hb3⟩
              | true =>
                rw [hD] at HDY hb
                clear hD
                cases hF2 : Fd.right F with
                | false =>
                  rw [hF2] at HFD hb
                  have hq := hid' (show bad = true from hb.out)
                  clear hb hF2
                  go_wp2_with (first | (go_at_call 10; refine (HR.out _ (Below.refl _ _)).mono ?_; rintro e wa ⟨rfl, b3⟩; have hb3 := hid' b3; clear b3) | (go_at_call 11; refine (HDY.out _).mono ?_; rintro e wb ⟨rfl, rfl⟩) | (go_at_call 12; refine (HFD.out _ hb3.out).mono ?_; rintro e wd ⟨rfl, b5'⟩; have hb5 := hid' (Below.more hb3.out b5'); clear b5'))
                  go_meet
                  exact ⟨by rw [hq.out], hb5⟩
                | true =>
                  rw [hF2] at HFD hb
                  clear hF2
                  by_cases h250 : 250 < L.length
                  · have g1 : decide (250 < L.length) = true := decide_eq_true h250
                    have g1i : decide ((250 : Int) < (L.length : Int)) = true := decide_eq_true (by omega)
                    rw [decide_eq_false (by omega : ¬ L.length ≤ 250)] at hb
                    have hq := hid' (show bad = true from hb.out)
                    clear hb h250
                    go_wp2_with (first | (go_at_call 10; refine (HR.out _ (Below.refl _ _)).mono ?_; rintro e wa ⟨rfl, b3⟩; have hb3 := hid' b3; clear b3) | (go_at_call 11; refine (HDY.out _).mono ?_; rintro e wb ⟨rfl, rfl⟩) | (go_at_call 12; refine (HFD.out _ hb3.out).mono ?_; rintro e wd ⟨rfl, b5'⟩; have hb5 := hid' (Below.more hb3.out b5'); clear b5'))
                    go_meet
                    exact ⟨by rw [hq.out], hb5⟩
                  · have g1 : decide (250 < L.length) = false := decide_eq_false h250
                    have g1i : decide ((250 : Int) < (L.length : Int)) = false := decide_eq_false (by omega)
                    rw [decide_eq_true (by omega : L.length ≤ 250)] at hb
                    have hq := hid' (show bad = false from hb.out)
                    clear hb h250
                    go_wp2_with (first | (go_at_call 10; refine (HR.out _ (Below.refl _ _)).mono ?_; rintro e wa ⟨rfl, b3⟩; have hb3 := hid' b3; clear b3) | (go_at_call 11; refine (HDY.out _).mono ?_; rintro e wb ⟨rfl, rfl⟩) | (go_at_call 12; refine (HFD.out _ hb3.out).mono ?_; rintro e wd ⟨rfl, b5'⟩; have hb5 := hid' (Below.more hb3.out b5'); clear b5'))
                    go_meet
                    exact ⟨by rw [hq.out], hb5⟩
          · have hnf : np = false := by rw [hn.out, decide_eq_false hw0, Bool.and_false]
            subst hl0
            rw [hnf] at hb
            have hq := hid' (show bad = true from hb.out)
            have g1 : (wh == 0) = false := by rw [beq_eq_false_iff_ne]; exact hw0
            clear hb hn hnf hw0
            go_wp2_with fail
            go_meet
            exact ⟨by rw [hq.out], Below.refl _ _⟩
        · have hnf : np = false := by rw [hn.out, decide_eq_false hl0, Bool.false_and]
          rw [hnf] at hb
          have hq := hid' (show bad = true from hb.out)
          have g1 : lab.toList.isEmpty = false := nonempty_list hl0
          clear hb hn hnf hl0
          go_wp2_with fail
          go_meet
          exact ⟨by rw [hq.out], Below.refl _ _⟩
    case rest =>
      obtain ⟨rfl, HB4⟩ := hcut
      have HC5 := hid' (box_below HB4.out HC5'.out)
      have HC9 := hid' (box_below HB4.out HC9'.out)
      have HBD := hid' (Below.more HBC.out HB4.out)
      clear s0 s1 d0 d1 d2 HC5' HC9' HBC HB4
      have hst := hid' (show Vm.step c L day F lab wh = if ((pk || np) && (Gen.right c && ((decide (0 ≤ day) && decide (day ≤ 73048)) && (Fd.right F && (decide (L.length ≤ 250) && !L.any (Vm.holdBad c)))))) = true ∧ (Vm.all c (Vm.env F day) (Vm.entryOf c lab wh) L Vm.st0).over = false then some (Vm.all c (Vm.env F day) (Vm.entryOf c lab wh) L Vm.st0) else none by rw [hpk.out, hnp.out]; rfl)
      cases hbd : bad with
      | true =>
        have hno := hid' (show R = none by
          have h := hbad.out
          rw [hbd] at h
          have h2 : ((pk || np) && (Gen.right c && ((decide (0 ≤ day) && decide (day ≤ 73048)) && (Fd.right F && decide (L.length ≤ 250))))) = false := by
            have h3 : true = !((pk || np) && (Gen.right c && ((decide (0 ≤ day) && decide (day ≤ 73048)) && (Fd.right F && decide (L.length ≤ 250))))) := h
            revert h3
            cases ((pk || np) && (Gen.right c && ((decide (0 ≤ day) && decide (day ≤ 73048)) && (Fd.right F && decide (L.length ≤ 250))))) <;> simp
          rw [hR.out, hst.out, if_neg]
          rintro ⟨h4, -⟩
          simp only [Bool.and_eq_true] at h4
          rw [h4.1, h4.2.1, h4.2.2.1.1, h4.2.2.1.2, h4.2.2.2.1, h4.2.2.2.2.1] at h2
          cases h2)
        clear hbd
        go_wp2_with fail
        exact bodyPost_ret (results_tmp4 rfl _ _ _) rfl ⟨HBD.out, by rw [hno.out]; rfl⟩
      | false =>
        have hall := (show ((pk || np) && (Gen.right c && ((decide (0 ≤ day) && decide (day ≤ 73048)) && (Fd.right F && decide (L.length ≤ 250))))) = true from by
          have h := hbad.out
          rw [hbd] at h
          have h3 : false = !((pk || np) && (Gen.right c && ((decide (0 ≤ day) && decide (day ≤ 73048)) && (Fd.right F && decide (L.length ≤ 250))))) := h
          revert h3
          cases ((pk || np) && (Gen.right c && ((decide (0 ≤ day) && decide (day ≤ 73048)) && (Fd.right F && decide (L.length ≤ 250))))) <;> simp)
        simp only [Bool.and_eq_true] at hall
        obtain ⟨hp1, hp2, ⟨hp3, hp4⟩, hp5, hp6⟩ := hall
        rw [hp1, hp2, hp3, hp4, hp5, hp6] at hst
        have HOK := hid' (And.intro hp2 (And.intro (And.intro (of_decide_eq_true hp3) (of_decide_eq_true hp4)) (And.intro (Fd.right_ok hp5) (of_decide_eq_true hp6))))
        clear hp1 hp2 hp3 hp4 hp5 hp6 hbd
        have d1 := bcells HC5.out 1 _ rfl
        have HCT := hid' (containsHold_any c b5 wp wk (.slice lp L.length lc) L wc d1 (HLS.out.below HBD.out))
        cases hany : L.any (Vm.holdBad c) with
        | true =>
          rw [hany] at HCT hst
          have hno := hid' (show R = none by rw [hR.out, hst.out, if_neg]; rintro ⟨h4, -⟩; cases h4)
          clear hany d1
          go_wp2_with (first | (go_at_call 13; refine HCT.out.mono ?_; rintro e w5 ⟨rfl, b5'⟩; have HB5 := hid' (Below.more HBD.out b5'); clear b5'))
          exact bodyPost_ret (results_tmp4 rfl _ _ _) rfl ⟨HB5.out, by rw [hno.out]; rfl⟩
        | false =>
          rw [hany] at HCT hst
          have HANY := hid' (show ∀ (i : Nat) x, L[i]? = some x → Vm.holdBad c x = false from fun i x hx => by
            have := List.any_eq_false.1 hany x (List.mem_of_getElem? hx)
            revert this
            cases Vm.holdBad c x <;> simp)
          have hst2 := hid' (show R = if (Vm.all c (Vm.env F day) (Vm.entryOf c lab wh) L Vm.st0).over = false then some (Vm.all c (Vm.env F day) (Vm.entryOf c lab wh) L Vm.st0) else none by
            rw [hR.out, hst.out]
            by_cases h : (Vm.all c (Vm.env F day) (Vm.entryOf c lab wh) L Vm.st0).over = false
            · rw [if_pos ⟨rfl, h⟩, if_pos h]
            · rw [if_neg (fun hh => h hh.2), if_neg h])
          clear hany d1 hst hR
          go_upto_region 6 with (first | (go_at_call 13; refine HCT.out.mono ?_; rintro e w5 ⟨rfl, b5'⟩; have HB5 := hid' b5'; clear b5'))
          have HB6 := hid' (Below.more HBD.out HB5.out)
          have H5 := hid' (box_below HB5.out HC5.out)
          have H9 := hid' (box_below HB5.out HC9.out)
          clear HC5 HC9 HCT HB5
          have d0 := bcells H5.out 0 _ rfl
          have d1 := bcells H5.out 1 _ rfl
          have d2 := bcells H5.out 2 _ rfl
          have HM0 := hid' (Mach.start w5 c day (.slice wp c.waits.length wk) (.slice ip c.ins.length ic) (.slice fp F.length fc))
          have HEN : Hid (RunEnv w5 w5.heap.size c F day (.slice wp c.waits.length wk) (.slice ip c.ins.length ic) (.slice fp F.length fc)) := hid' ⟨HCD.out.below HB6.out, HFS.out.below HB6.out, HOK.out.1, HOK.out.2.2.1, HOK.out.2.1, Nat.le_refl _⟩
          have HL5 := hid' (HLS.out.below HB6.out)
          have HS5 := hid' (show w.heap.size ≤ w5.heap.size from HB6.out.size)
          go_upto_region 7 with (fail)
          clear d0 d1 d2
          obtain ⟨mb, hmb⟩ : ∃ mb, mb = w5.heap.size := ⟨_, rfl⟩
          rw [← hmb] at HM0 HEN HS5 ⊢
          have h5m : b5 < mb := by rw [hmb]; exact lt_of_block H5.out
          have h9m : b5 + 1 < mb := by rw [hmb]; exact lt_of_block H9.out
          have HMW := hid' (show w5.heap.size ≤ mb by omega)
          clear hmb
          generalize w5.alloc _ = w6 at *
          go_wp2_with fail
          have HA0 := hid' (show Vm.all c (Vm.env F day) (Vm.entryOf c lab wh) (L.take 0) Vm.st0 = Vm.st0 from rfl)
          have HK0 := hid' (show Vm.StOk Vm.st0 ∧ Vm.st0.steps ≤ 82000 + 0 from ⟨Vm.st0_ok, Nat.zero_le _⟩)
          go_loopw [70] (fun iv wr => ∃ (i : Nat) (st : Vm.St) (vh vo : Value), iv = .int .i64 (i : Int) ∧ i ≤ L.length ∧ Hid (Vm.all c (Vm.env F day) (Vm.entryOf c lab wh) (L.take i) Vm.st0 = st) ∧ Hid (Vm.StOk st ∧ st.steps ≤ 82000 + i) ∧ Hid (Mach w5 mb c day (.slice wp c.waits.length wk) (.slice ip c.ins.length ic) (.slice fp F.length fc) st vh vo wr)) (fun iv _ => L.length - (intOf iv).toNat)
          case atStart => exact ⟨0, Vm.st0, _, _, rfl, Nat.zero_le _, HA0, HK0, HM0⟩
          case round =>
            clear HA0 HK0 HM0
            obtain ⟨i, st, vh, vo, rfl, hi, HA, HK, HM⟩ := hrel
            by_cases hin : i < L.length
            · obtain ⟨x, hx⟩ : ∃ x, L[i]? = some x := ⟨_, List.getElem?_eq_getElem hin⟩
              obtain ⟨lp', lc', elp, -, hlc⟩ := HL5.out
              obtain ⟨rfl, rfl⟩ : lp = lp' ∧ lc = lc' := by simpa using elp
              obtain ⟨lb, lo, rfl, hlb, ⟨y0, y1⟩, -, -⟩ := hlc i x hx
              have hbad := HANY.out i x hx
              have hent := Vm.entry_lt HOK.out.1 hbad (lab := lab) (wh := wh)
              have hw0 : 0 ≤ x.1 ∧ x.1 < c.waits.length := by
                unfold Vm.holdBad at hbad
                simp only [Bool.or_eq_false_iff, decide_eq_false_iff_not] at hbad
                omega
              obtain ⟨y, hy⟩ : ∃ y, c.waits[x.1.toNat]? = some y := ⟨_, List.getElem?_eq_getElem (by omega)⟩
              have hyw : Vm.waitAt c x.1 = y := by unfold Vm.waitAt; rw [hy]; rfl
              obtain ⟨wp', wk', ewp, -, hwc⟩ := (show WaitsAt w5 (.slice wp c.waits.length wk) c.waits from by
                obtain ⟨vw', vi', e, h1, _, _⟩ := HEN.out.cd
                simp only [Value.agg.injEq, Array.mk.injEq, List.cons.injEq, and_true, true_and] at e
                obtain ⟨rfl, rfl⟩ := e
                exact h1)
              obtain ⟨rfl, rfl⟩ : wp = wp' ∧ wk = wk' := by simpa using ewp
              obtain ⟨wb, wo, rfl, hwb, ⟨e0, e1, e2, e3, e4⟩, -⟩ := hwc _ y hy
              have hmw : w5.heap.size ≤ mb := HMW.out
              have HRD := hid' (fun (b k : Nat) (v : Value) (hb : b < w5.heap.size) (hc : w5.cell? ⟨b, k, none⟩ = some v) => (show wr.cell? ⟨b, k, none⟩ = some v from (HM.out.bel.cell (p := ⟨b, k, none⟩) (Nat.lt_of_lt_of_le hb hmw)).trans hc))
              replace y0 := HRD.out _ _ _ hlb y0
              replace y1 := HRD.out _ _ _ hlb y1
              have H5r := hid' ((HM.out.bel.block b5 h5m).trans H5.out)
              have H9r := hid' ((HM.out.bel.block (b5 + 1) h9m).trans H9.out)
              have j1 : (0 : Int) ≤ (i : Int) := by omega
              have j2 : (i : Int) < (L.length : Int) := by omega
              have HX := hid' hx
              have HI := hid' hin
              have HEW := hid' (And.intro hent hw0)
              have HE0 := hid' (And.intro (HRD.out _ _ _ hwb e0) (And.intro (HRD.out _ _ _ hwb e1) (And.intro (HRD.out _ _ _ hwb e2) (And.intro (HRD.out _ _ _ hwb e3) (HRD.out _ _ _ hwb e4)))))
              have HYW := hid' hyw
              clear hx hin hlc elp hbad hent hw0 hy hyw ewp hwc e0 e1 e2 e3 e4 hwb hlb HRD hmw
              go_upto_region 10 with (fail)
              have BX := (Below.refl wr.heap.size wr).alloc (Nat.le_refl _) (.cells #[.int .i64 x.1, .int .i64 x.2] 49)
              have HMX := hid' (HM.out.below BX)
              have HXB := hid' (heap_alloc_new wr (.cells #[.int .i64 x.1, .int .i64 x.2] 49))
              have H5x := hid' (box_below BX H5r.out)
              have H9x := hid' (box_below BX H9r.out)
              have HEX := hid' (And.intro (keep_all BX _ _ HE0.out.1) (And.intro (keep_all BX _ _ HE0.out.2.1) (And.intro (keep_all BX _ _ HE0.out.2.2.1) (And.intro (keep_all BX _ _ HE0.out.2.2.2.1) (keep_all BX _ _ HE0.out.2.2.2.2)))))
              clear y0 y1 HM H5r H9r HE0 BX
              generalize wr.alloc (.cells #[.int .i64 x.1, .int .i64 x.2] 49) = w7 at *
              generalize wr.heap.size = xb at *
              have z0 := bcells HXB.out 0 _ rfl
              have c1 := bcells H5x.out 1 _ rfl
              obtain ⟨e0, e1, e2, e3, e4⟩ := HEX.out
              obtain ⟨k1, k2⟩ := HEW.out.2
              go_upto_region 11 with (fail)
              have BX := (Below.refl w7.heap.size w7).alloc (Nat.le_refl _) (.cells #[.int .i64 y.entry, .int .i64 y.day, .string y.label, .int .i64 y.first, .int .i64 y.second] 56)
              have HM8 := hid' (HMX.out.below BX)
              have HYB := hid' (heap_alloc_new w7 (.cells #[.int .i64 y.entry, .int .i64 y.day, .string y.label, .int .i64 y.first, .int .i64 y.second] 56))
              have HX8 := hid' (box_below BX HXB.out)
              have H98 := hid' (box_below BX H9x.out)
              clear z0 c1 e0 e1 e2 e3 e4 k1 k2 HMX HXB H5x H9x HEX BX j1 j2
              generalize w7.alloc (.cells #[.int .i64 y.entry, .int .i64 y.day, .string y.label, .int .i64 y.first, .int .i64 y.second] 56) = w8 at *
              generalize w7.heap.size = yb at *
              have z0 := bcells HYB.out 0 _ rfl
              have z2 := bcells HYB.out 2 _ rfl
              have z3 := bcells HYB.out 3 _ rfl
              have z4 := bcells HYB.out 4 _ rfl
              have s0 := bcells H98.out 0 _ rfl
              have s1 := bcells H98.out 1 _ rfl
              obtain ⟨en, hen⟩ : ∃ en : Nat, (en : Int) = Vm.entryOf c lab wh x.1 := ⟨(Vm.entryOf c lab wh x.1).toNat, by have := HEW.out.1; omega⟩
              have hev : Hid ((en : Int) = if Vm.picksB lab wh = true ∧ y.label = lab then (if wh = 1 then y.first else y.second) else y.entry) := hid' (by rw [hen, ← HYW.out]; rfl)
              have HEN2 := hid' hen
              clear hen
              go_upto_region 12 with (fail)
              obtain ⟨sel, hsel⟩ : ∃ sel, decide (Vm.picksB lab wh = true ∧ y.label = lab) = sel := ⟨_, rfl⟩
              have HSEL := hid' hsel
              clear hsel
              go_cut [89] (fun v wx => v = .bool sel ∧ Hid (Below w8.heap.size w8 wx))
              case first =>
                have hpkv := hid' (hpk.out.symm)
                cases pk with
                | false =>
                  have hq := hid' (show sel = false by rw [← HSEL.out]; apply decide_eq_false; rintro ⟨h, -⟩; rw [hpkv.out] at h; cases h)
                  clear hev
                  go_wp2_with fail
                  go_meet
                  exact ⟨by rw [hq.out], Below.refl _ _⟩
                | true =>
                  by_cases hyl : y.label = lab
                  · have hq := hid' (show sel = true by rw [← HSEL.out]; exact decide_eq_true ⟨hpkv.out, hyl⟩)
                    rw [hyl] at z2
                    have gl2 : (lab.toList == lab.toList) = true := beq_self_eq_true _
                    clear hev hyl
                    go_wp2_with fail
                    go_meet
                    exact ⟨by rw [hq.out], Below.refl _ _⟩
                  · have gl : (y.label.toList == lab.toList) = false := by
                      rw [beq_eq_false_iff_ne]
                      intro e2
                      apply hyl
                      apply ba_ext
                      rw [ByteArray.toList_eq, ByteArray.toList_eq] at e2
                      exact e2
                    have hq := hid' (show sel = false by rw [← HSEL.out]; exact decide_eq_false (fun h => hyl h.2))
                    clear hev hyl
                    go_wp2_with fail
                    go_meet
                    exact ⟨by rw [hq.out], Below.refl _ _⟩
              case rest =>
                obtain ⟨rfl, HB9⟩ := hcut
                have HM9 := hid' (HM8.out.below HB9.out)
                have HX9 := hid' (box_below HB9.out HX8.out)
                have HY9 := hid' (box_below HB9.out HYB.out)
                have HP9 := hid' (box_below HB9.out H98.out)
                clear z0 z2 z3 z4 s0 s1 HYB HX8 H98 HM8 HB9
                cases sel with
                | false =>
                  have hq := hid' (show (en : Int) = y.entry by rw [hev.out, if_neg (of_decide_eq_false HSEL.out)])
                  have z1 := bcells HX9.out 1 _ rfl
                  have HR := hid' (Vm.run_ok2 c (Vm.env F day) HOK.out.1 (a := en) (by have := HEW.out.1; have := HEN2.out; omega) x.2 HK.out.1 HK.out.2 (by have := HOK.out.2.2.2; have := HI.out; omega))
                  have HAN := hid' (show Vm.all c (Vm.env F day) (Vm.entryOf c lab wh) (L.take (i + 1)) Vm.st0 = Vm.run c (Vm.env F day) (en : Int) x.2 Vm.zeros st by rw [Vm.all_take _ _ _ _ _ _ HX.out, HA.out, HEN2.out])
                  have HC := hid' (run_any w5 mb c F day _ _ _ HEN.out _ en x.2 st vh vo wc (Nat.le_refl _) (by have := HEW.out.1; have := HEN2.out; omega) HK.out.1 HM9.out)
                  generalize Vm.run c (Vm.env F day) (en : Int) x.2 Vm.zeros st = st2 at *
                  have wi : IntKind.i64.wrap ((i : Int) + 1) = (i : Int) + 1 := IntWalk.i64_in _ (by have := HI.out; omega)
                  rw [hq.out] at HC
                  clear hev
                  go_wp2_with (first | (go_at_call 16; refine HC.out.mono ?_; rintro e wn ⟨⟨re, rfl⟩, ⟨vh2, vo2, hm2⟩, hkp2⟩; have HM10 := hid' hm2; clear hm2 hkp2))
                  go_roundw
                  case rel => exact ⟨i + 1, st2, vh2, vo2, by go_num, by have := HI.out; omega, HAN, HR, HM10⟩
                  case measure => have := HI.out; simp [intOf]; omega
                | true =>
                  have hboth := of_decide_eq_true HSEL.out
                  have z3 := bcells HY9.out 3 _ rfl
                  have z4 := bcells HY9.out 4 _ rfl
                  have s1 := bcells HP9.out 1 _ rfl
                  by_cases hw1 : wh = 1
                  · have hq := hid' (show (en : Int) = y.first by rw [hev.out, if_pos hboth, if_pos hw1])
                    subst hw1
                    clear hboth
                    have s1' := alloc_cell s1 (.cells #[.int .i64 y.first, .int .i64 y.second] 3)
                    have BA := (Below.refl wc.heap.size wc).alloc (Nat.le_refl _) (.cells #[.int .i64 y.first, .int .i64 y.second] 3)
                    have HMA := hid' (HM9.out.below BA)
                    have HXA := hid' (box_below BA HX9.out)
                    clear BA
                    go_upto_region 14 with (fail)
                    clear z3 z4 s1 s1' HM9 HX9 HY9 HP9
                    generalize wc.alloc (.cells #[.int .i64 y.first, .int .i64 y.second] 3) = wq at *
                    have z1 := bcells HXA.out 1 _ rfl
                    have HR := hid' (Vm.run_ok2 c (Vm.env F day) HOK.out.1 (a := en) (by have := HEW.out.1; have := HEN2.out; omega) x.2 HK.out.1 HK.out.2 (by have := HOK.out.2.2.2; have := HI.out; omega))
                    have HAN := hid' (show Vm.all c (Vm.env F day) (Vm.entryOf c lab 1) (L.take (i + 1)) Vm.st0 = Vm.run c (Vm.env F day) (en : Int) x.2 Vm.zeros st by rw [Vm.all_take _ _ _ _ _ _ HX.out, HA.out, HEN2.out])
                    have HC := hid' (run_any w5 mb c F day _ _ _ HEN.out _ en x.2 st vh vo wq (Nat.le_refl _) (by have := HEW.out.1; have := HEN2.out; omega) HK.out.1 HMA.out)
                    generalize Vm.run c (Vm.env F day) (en : Int) x.2 Vm.zeros st = st2 at *
                    have wi : IntKind.i64.wrap ((i : Int) + 1) = (i : Int) + 1 := IntWalk.i64_in _ (by have := HI.out; omega)
                    rw [hq.out] at HC
                    clear hev
                    go_wp2_with (first | (go_at_call 16; refine HC.out.mono ?_; rintro e wn ⟨⟨re, rfl⟩, ⟨vh2, vo2, hm2⟩, hkp2⟩; have HM10 := hid' hm2; clear hm2 hkp2))
                    go_roundw
                    case rel => exact ⟨i + 1, st2, vh2, vo2, by go_num, by have := HI.out; omega, HAN, HR, HM10⟩
                    case measure => have := HI.out; simp [intOf]; omega
                  · have hq := hid' (show (en : Int) = y.second by rw [hev.out, if_pos hboth, if_neg hw1])
                    obtain rfl : wh = 2 := by
                      have h := hboth.1
                      unfold Vm.picksB at h
                      simp only [Bool.and_eq_true, Bool.or_eq_true, decide_eq_true_eq] at h
                      exact h.2.resolve_left hw1
                    clear hboth hw1
                    have s1' := alloc_cell s1 (.cells #[.int .i64 y.first, .int .i64 y.second] 3)
                    have BA := (Below.refl wc.heap.size wc).alloc (Nat.le_refl _) (.cells #[.int .i64 y.first, .int .i64 y.second] 3)
                    have HMA := hid' (HM9.out.below BA)
                    have HXA := hid' (box_below BA HX9.out)
                    clear BA
                    go_upto_region 14 with (fail)
                    clear z3 z4 s1 s1' HM9 HX9 HY9 HP9
                    generalize wc.alloc (.cells #[.int .i64 y.first, .int .i64 y.second] 3) = wq at *
                    have z1 := bcells HXA.out 1 _ rfl
                    have HR := hid' (Vm.run_ok2 c (Vm.env F day) HOK.out.1 (a := en) (by have := HEW.out.1; have := HEN2.out; omega) x.2 HK.out.1 HK.out.2 (by have := HOK.out.2.2.2; have := HI.out; omega))
                    have HAN := hid' (show Vm.all c (Vm.env F day) (Vm.entryOf c lab 2) (L.take (i + 1)) Vm.st0 = Vm.run c (Vm.env F day) (en : Int) x.2 Vm.zeros st by rw [Vm.all_take _ _ _ _ _ _ HX.out, HA.out, HEN2.out])
                    have HC := hid' (run_any w5 mb c F day _ _ _ HEN.out _ en x.2 st vh vo wq (Nat.le_refl _) (by have := HEW.out.1; have := HEN2.out; omega) HK.out.1 HMA.out)
                    generalize Vm.run c (Vm.env F day) (en : Int) x.2 Vm.zeros st = st2 at *
                    have wi : IntKind.i64.wrap ((i : Int) + 1) = (i : Int) + 1 := IntWalk.i64_in _ (by have := HI.out; omega)
                    rw [hq.out] at HC
                    clear hev
                    go_wp2_with (first | (go_at_call 16; refine HC.out.mono ?_; rintro e wn ⟨⟨re, rfl⟩, ⟨vh2, vo2, hm2⟩, hkp2⟩; have HM10 := hid' hm2; clear hm2 hkp2))
                    go_roundw
                    case rel => exact ⟨i + 1, st2, vh2, vo2, by go_num, by have := HI.out; omega, HAN, HR, HM10⟩
                    case measure => have := HI.out; simp [intOf]; omega
            · obtain rfl : i = L.length := by omega
              have hA := HA.out
              rw [List.take_length] at hA
              rw [hA] at hst2
              have HT := hid' (told_any w5 mb c day _ _ _ st vh vo wr HM.out)
              have j3 : decide (L.length < L.length) = false := by simp
              have HBR := hid' (show Below w.heap.size w wr from HB6.out.trans (HM.out.bel.mono HS5.out))
              have HST2 := hid' hst2.out
              clear hin hA hst2
              cases hov : st.over with
              | true =>
                have hno := hid' (show R = none by rw [HST2.out, hov]; rfl)
                have hte : toldV st vh vo = nilOut := by unfold toldV; rw [hov]; rfl
                rw [hte, nilOut] at HT
                clear hov hte
                go_wp2_with (first | (go_at_call 17; refine HT.out.mono ?_; rintro e wt ⟨rfl, bt⟩))
                exact bodyPost_ret (results_tmp4 rfl _ _ _) rfl ⟨Below.trans HBR.out (bt.mono HBR.out.size), by rw [hno.out]; rfl⟩
              | false =>
                have hno := hid' (show R = some st by rw [HST2.out, if_pos hov])
                have hte : toldV st vh vo = .tuple #[vh, vo, .int .i64 (st.steps : Int), .int .i64 0] := by unfold toldV; rw [hov]; rfl
                rw [hte] at HT
                clear hov hte
                go_wp2_with (first | (go_at_call 17; refine HT.out.mono ?_; rintro e wt ⟨rfl, bt⟩))
                refine bodyPost_ret (results_tmp4 rfl _ _ _) rfl ⟨Below.trans HBR.out (bt.mono HBR.out.size), ?_⟩
                rw [hno.out]
                exact ⟨HK.out.1, vh, vo, rfl, World.ownsRow.mono (HM.out.below bt).hs (Nat.le_trans HS5.out (Nat.le_succ _)), World.ownsRow.mono (HM.out.below bt).ts (Nat.le_trans HS5.out (Nat.le_succ _))⟩
end Go.Proofs.YtbpcgcmlpgdmbaaDoor

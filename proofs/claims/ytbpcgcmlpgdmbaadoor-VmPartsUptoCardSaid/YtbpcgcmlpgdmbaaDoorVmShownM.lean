/- Proved: Begin as a contract, the reference's comparisons, usancelaw18.shown. -/
import Derived.Test.YtbpcgcmlpgdmbaaDoorVmStep
import Derived.Test.YtbpcgcmlpgdmbaaDoorVmMach
import Derived.Laws.StructEq
import Derived.Deep.DeepCutAuto
namespace Go.Proofs.YtbpcgcmlpgdmbaaDoor
open Go.RowKit
open Gen
open Rw
set_option linter.unusedVariables false
set_option linter.unusedSimpArgs false
set_option maxRecDepth 100000
namespace Vm
noncomputable def beginOk (c : Cd) (day : Int) (F : List Fd.Feed) : Bool := right c && ((decide (0 ≤ day) && decide (day ≤ 73048)) && Fd.right F)
noncomputable def begin' (c : Cd) (day : Int) (F : List Fd.Feed) : Option St :=
  if beginOk c day F = true ∧ (run c (env F day) 0 1000000 zeros st0).over = false then some (run c (env F day) 0 1000000 zeros st0) else none
end Vm
set_option maxHeartbeats 8000000 in
theorem begin_any (c : Gen.Cd) (day : Int) (F : List Fd.Feed) (vw vi vf : Value) (w : World) (hc : CdAt w (.agg #[.int .i64 c.regs, vw, vi]) c) (hF : FeedsAt w vf F) :
    Calls Tryd.prog 8 #[.agg #[.int .i64 c.regs, vw, vi], .int .i64 day, vf] w (StepPost (Vm.begin' c day F) day w) := by
  have HCD := hid' hc
  have HFS := hid' hF
  obtain ⟨wp, wk, rfl⟩ : ∃ wp wk, vw = .slice wp c.waits.length wk := by
    obtain ⟨vw', vi', e, ⟨p, cc, e2, h2, _⟩, _⟩ := hc
    simp only [Value.agg.injEq, Array.mk.injEq, List.cons.injEq, and_true, true_and] at e
    obtain ⟨rfl, rfl⟩ := e
    exact ⟨p, cc, e2⟩
  obtain ⟨ip, ic, rfl⟩ : ∃ ip ic, vi = .slice ip c.ins.length ic := by
    obtain ⟨vw', vi', e, _, ⟨p, cc, e2, _, _⟩, _⟩ := hc
    simp only [Value.agg.injEq, Array.mk.injEq, List.cons.injEq, and_true, true_and] at e
    obtain ⟨rfl, rfl⟩ := e
    exact ⟨p, cc, e2⟩
  obtain ⟨fp, fc, rfl, -, -⟩ := hF
  obtain ⟨R, hR⟩ : ∃ R, Hid (R = Vm.begin' c day F) := ⟨_, rfl⟩
  rw [← hR.out]
  clear hc
  have HB0 := hid' ((Below.refl w.heap.size w).alloc (Nat.le_refl _) (.cells #[.int .i64 c.regs, .slice wp c.waits.length wk, .slice ip c.ins.length ic] 25))
  have HC5 := hid' (heap_alloc_new w (.cells #[.int .i64 c.regs, .slice wp c.waits.length wk, .slice ip c.ins.length ic] 25))
  go_enter Tryd.func8, Tryd.ntmps8
  go_upto_region 1 with (fail)
  obtain ⟨b5, hb5⟩ : ∃ b5, b5 = w.heap.size := ⟨_, rfl⟩
  rw [← hb5] at HC5 ⊢
  clear hb5
  generalize w.alloc (.cells #[.int .i64 c.regs, .slice wp c.waits.length wk, .slice ip c.ins.length ic] 25) = w3 at *
  have d0 := bcells HC5.out 0 _ rfl
  have d1 := bcells HC5.out 1 _ rfl
  have d2 := bcells HC5.out 2 _ rfl
  obtain ⟨bad, hbad⟩ : ∃ bad, Hid (bad = !Vm.beginOk c day F) := ⟨_, rfl⟩
  go_cut [23] (fun v wx => v = .bool bad ∧ Hid (Below w3.heap.size w3 wx))
  case first =>
    have HR := hid' (fun (W : World) (b : Below w3.heap.size w3 W) => genRight_any (.agg #[.int .i64 c.regs, .slice wp c.waits.length wk, .slice ip c.ins.length ic]) c W ((HCD.out.below HB0.out).below b))
    have HFD := hid' (fun (W : World) (b : Below w3.heap.size w3 W) => rightFeeds_any (.slice fp F.length fc) F W ((HFS.out.below HB0.out).below b))
    have HDY := hid' (fun W => visDay_any day W)
    have hb := hid' (show bad = !(Gen.right c && ((decide (0 ≤ day) && decide (day ≤ 73048)) && Fd.right F)) from hbad.out)
    cases hr : Gen.right c with
    | false =>
      rw [hr] at HR hb
      have hq := hid' (show bad = true from hb.out)
      clear hb  hr
      go_wp2_with (first | (go_at_call 10; refine (HR.out _ (Below.refl _ _)).mono ?_; rintro e wa ⟨rfl, b3⟩; have hb3 := hid' b3; clear b3) | (go_at_call 11; refine (HDY.out _).mono ?_; rintro e wb ⟨rfl, rfl⟩) | (go_at_call 12; refine (HFD.out _ hb3.out).mono ?_; rintro e wd ⟨rfl, b5'⟩; have hb5 := hid' (Below.more hb3.out b5'); clear b5'))
      go_meet
      exact ⟨by rw [hq.out], hb3⟩
    | true =>
      rw [hr] at HR hb
      clear hr
      cases hD : (decide (0 ≤ day) && decide (day ≤ 73048)) with
      | false =>
        rw [hD] at HDY hb
        have hq := hid' (show bad = true from hb.out)
        clear hb hD
        go_wp2_with (first | (go_at_call 10; refine (HR.out _ (Below.refl _ _)).mono ?_; rintro e wa ⟨rfl, b3⟩; have hb3 := hid' b3; clear b3) | (go_at_call 11; refine (HDY.out _).mono ?_; rintro e wb ⟨rfl, rfl⟩) | (go_at_call 12; refine (HFD.out _ hb3.out).mono ?_; rintro e wd ⟨rfl, b5'⟩; have hb5 := hid' (Below.more hb3.out b5'); clear b5'))
        go_meet
        exact ⟨by rw [hq.out], hb3⟩
      | true =>
        rw [hD] at HDY hb
        clear hD
        cases hF2 : Fd.right F with
        | false =>
          rw [hF2] at HFD hb
          have hq := hid' (show bad = true from hb.out)
          clear hb hF2
          go_wp2_with (first | (go_at_call 10; refine (HR.out _ (Below.refl _ _)).mono ?_; rintro e wa ⟨rfl, b3⟩; have hb3 := hid' b3; clear b3) | (go_at_call 11; refine (HDY.out _).mono ?_; rintro e wb ⟨rfl, rfl⟩) | (go_at_call 12; refine (HFD.out _ hb3.out).mono ?_; rintro e wd ⟨rfl, b5'⟩; have hb5 := hid' (Below.more hb3.out b5'); clear b5'))
          go_meet
          exact ⟨by rw [hq.out], hb5⟩
        | true =>
          rw [hF2] at HFD hb
          clear hF2
          have hq := hid' (show bad = false from hb.out)
          clear hb
          go_wp2_with (first | (go_at_call 10; refine (HR.out _ (Below.refl _ _)).mono ?_; rintro e wa ⟨rfl, b3⟩; have hb3 := hid' b3; clear b3) | (go_at_call 11; refine (HDY.out _).mono ?_; rintro e wb ⟨rfl, rfl⟩) | (go_at_call 12; refine (HFD.out _ hb3.out).mono ?_; rintro e wd ⟨rfl, b5'⟩; have hb5 := hid' (Below.more hb3.out b5'); clear b5'))
          go_meet
          exact ⟨by rw [hq.out], hb5⟩
  case rest =>
    obtain ⟨rfl, HB4⟩ := hcut
    have H5 := hid' (box_below HB4.out HC5.out)
    have HB6 := hid' (Below.more HB0.out HB4.out)
    clear d0 d1 d2 HC5 HB4
    cases hbd : bad with
    | true =>
      have hno := hid' (show R = none by
        have h := hbad.out
        rw [hbd] at h
        have h2 : Vm.beginOk c day F = false := by
          revert h
          cases Vm.beginOk c day F <;> simp
        rw [hR.out, Vm.begin', h2, if_neg]
        rintro ⟨h4, -⟩
        cases h4)
      clear hbd
      go_wp2_with fail
      exact bodyPost_ret (results_tmp4 rfl _ _ _) rfl ⟨HB6.out, by rw [hno.out]; rfl⟩
    | false =>
      have hall : Vm.beginOk c day F = true := by
        have h := hbad.out
        rw [hbd] at h
        revert h
        cases Vm.beginOk c day F <;> simp
      have hst2 := hid' (show R = if (Vm.run c (Vm.env F day) 0 1000000 Vm.zeros Vm.st0).over = false then some (Vm.run c (Vm.env F day) 0 1000000 Vm.zeros Vm.st0) else none by
        rw [hR.out, Vm.begin', hall]
        by_cases h : (Vm.run c (Vm.env F day) 0 1000000 Vm.zeros Vm.st0).over = false
        · rw [if_pos ⟨rfl, h⟩, if_pos h]
        · rw [if_neg (fun hh => h hh.2), if_neg h])
      unfold Vm.beginOk at hall
      simp only [Bool.and_eq_true] at hall
      obtain ⟨hp2, ⟨hp3, hp4⟩, hp5⟩ := hall
      have HOK := hid' (And.intro hp2 (And.intro (And.intro (of_decide_eq_true hp3) (of_decide_eq_true hp4)) (Fd.right_ok hp5)))
      clear hp2 hp3 hp4 hp5 hbd hR
      have d0 := bcells H5.out 0 _ rfl
      have d1 := bcells H5.out 1 _ rfl
      have d2 := bcells H5.out 2 _ rfl
      have HM0 := hid' (Mach.start wc c day (.slice wp c.waits.length wk) (.slice ip c.ins.length ic) (.slice fp F.length fc))
      have HEN : Hid (RunEnv wc wc.heap.size c F day (.slice wp c.waits.length wk) (.slice ip c.ins.length ic) (.slice fp F.length fc)) := hid' ⟨HCD.out.below HB6.out, HFS.out.below HB6.out, HOK.out.1, HOK.out.2.2, HOK.out.2.1, Nat.le_refl _⟩
      have HS5 := hid' (show w.heap.size ≤ wc.heap.size from HB6.out.size)
      go_upto_region 4 with (fail)
      clear d0 d1 d2
      obtain ⟨mb, hmb⟩ : ∃ mb, mb = wc.heap.size := ⟨_, rfl⟩
      rw [← hmb] at HM0 HEN HS5 ⊢
      clear hmb
      generalize wc.alloc _ = w6 at *
      have hlen := (right_parts HOK.out.1).2.2.1
      have HR := hid' (Vm.run_ok2 c (Vm.env F day) HOK.out.1 (a := 0) (i := 0) (by omega) 1000000 Vm.st0_ok (Nat.zero_le _) (by omega))
      have HC := hid' (run_any wc mb c F day _ _ _ HEN.out _ 0 1000000 Vm.st0 _ _ w6 (Nat.le_refl _) (by omega) Vm.st0_ok HM0.out)
      rw [show ((0 : Nat) : Int) = 0 from rfl] at HC HR
      generalize Vm.run c (Vm.env F day) 0 1000000 Vm.zeros Vm.st0 = st at *
      clear hlen
      go_upto_region 5 with (go_at_call 16; refine HC.out.mono ?_; rintro e wr ⟨⟨re, rfl⟩, ⟨vh, vo, hm2⟩, hkp2⟩; have HM := hid' hm2; clear hm2 hkp2)
      have HT := hid' (told_any wc mb c day _ _ _ st vh vo wr HM.out)
      have HBR := hid' (show Below w.heap.size w wr from HB6.out.trans (HM.out.bel.mono HS5.out))
      cases hov : st.over with
      | true =>
        have hno := hid' (show R = none by rw [hst2.out, hov]; rfl)
        have hte : toldV st vh vo = nilOut := by unfold toldV; rw [hov]; rfl
        rw [hte, nilOut] at HT
        clear hov hte
        go_wp2_with (first | (go_at_call 17; refine HT.out.mono ?_; rintro e wt ⟨rfl, bt⟩))
        exact bodyPost_ret (results_tmp4 rfl _ _ _) rfl ⟨Below.trans HBR.out (bt.mono HBR.out.size), by rw [hno.out]; rfl⟩
      | false =>
        have hno := hid' (show R = some st by rw [hst2.out, if_pos hov])
        have hte : toldV st vh vo = .tuple #[vh, vo, .int .i64 (st.steps : Int), .int .i64 0] := by unfold toldV; rw [hov]; rfl
        rw [hte] at HT
        clear hov hte
        go_wp2_with (first | (go_at_call 17; refine HT.out.mono ?_; rintro e wt ⟨rfl, bt⟩))
        refine bodyPost_ret (results_tmp4 rfl _ _ _) rfl ⟨Below.trans HBR.out (bt.mono HBR.out.size), ?_⟩
        rw [hno.out]
        exact ⟨HR.out.1, vh, vo, rfl, World.ownsRow.mono (HM.out.below bt).hs (Nat.le_trans HS5.out (Nat.le_succ _)), World.ownsRow.mono (HM.out.below bt).ts (Nat.le_trans HS5.out (Nat.le_succ _))⟩
theorem hold_neq (d n : Int) (w : World) : (binOp .neq 49 (.agg #[.int .i64 d, .int .i64 n]) (.agg #[.int .i64 d, .int .i64 n])).run Tryd.prog w = .ok (.bool false) w := by
  have u1 := Tryd.underlying3
  have u2 := Tryd.underlying2
  have a1 := Tryd.isAgg3
  have a2 := Tryd.isAgg2
  have z1 := Tryd.sizeOf3
  have z2 := Tryd.sizeOf2
  have hS : Tryd.prog.underlying 49 = some (.struct (Tryd.prog.fieldsOf 49)) := by kernel_rfl
  have hp : Tryd.prog.stoodInHeld 49 = false := by kernel_rfl
  rw [run_neq_struct, show (10000 : Nat) = 9999 + 1 from rfl, run_equalIn_agg w 9999 49 _ _ hS hp]
  simp only [Program.fieldsOf, Tryd.underlying49]
  go_simp
theorem hold_guard (x y : Operand) (d n : Int) (w : World) : (eqGuard .neq 49 x y (.agg #[.int .i64 d, .int .i64 n]) (.agg #[.int .i64 d, .int .i64 n])).run Tryd.prog w = .ok () w :=
  run_eqGuard_agg w .neq 49 x y _ _ (by kernel_rfl)
theorem tran_neq (d n : Int) (s : ByteArray) (w : World) : (binOp .neq 42 (.agg #[.int .i64 d, .string s, .int .i64 n]) (.agg #[.int .i64 d, .string s, .int .i64 n])).run Tryd.prog w = .ok (.bool false) w := by
  have u1 := Tryd.underlying3
  have u2 := Tryd.underlying2
  have u3 := Tryd.underlying9
  have a1 := Tryd.isAgg3
  have a2 := Tryd.isAgg2
  have a3 := Tryd.isAgg9
  have z1 := Tryd.sizeOf3
  have z2 := Tryd.sizeOf2
  have z3 := Tryd.sizeOf9
  have hS : Tryd.prog.underlying 42 = some (.struct (Tryd.prog.fieldsOf 42)) := by kernel_rfl
  have hp : Tryd.prog.stoodInHeld 42 = false := by kernel_rfl
  rw [run_neq_struct, show (10000 : Nat) = 9999 + 1 from rfl, run_equalIn_agg w 9999 42 _ _ hS hp]
  simp only [Program.fieldsOf, Tryd.underlying42]
  go_simp
theorem tran_guard (x y : Operand) (d n : Int) (s : ByteArray) (w : World) : (eqGuard .neq 42 x y (.agg #[.int .i64 d, .string s, .int .i64 n]) (.agg #[.int .i64 d, .string s, .int .i64 n])).run Tryd.prog w = .ok () w :=
  run_eqGuard_agg w .neq 42 x y _ _ (by kernel_rfl)
/-- Holds, transfers as they are read. -/
def HoldsSeen (W : World) (v : Value) (l : List (Int × Int)) : Prop := ∃ p c, v = .slice p l.length c ∧ l.length ≤ 1000000 ∧ ∀ (i : Nat) (x : Int × Int), l[i]? = some x → ∃ b off, p = some ⟨b, off, none⟩ ∧ b < W.heap.size ∧ W.cell? ⟨b, off + i * 2, none⟩ = some (.int .i64 x.1) ∧ W.cell? ⟨b, off + i * 2 + 1, none⟩ = some (.int .i64 x.2)
def TransSeen (W : World) (v : Value) (day : Int) (l : List (ByteArray × Int)) : Prop := ∃ p c, v = .slice p l.length c ∧ l.length ≤ 1000000 ∧ ∀ (i : Nat) (x : ByteArray × Int), l[i]? = some x → ∃ b off, p = some ⟨b, off, none⟩ ∧ b < W.heap.size ∧ W.cell? ⟨b, off + i * 3, none⟩ = some (.int .i64 day) ∧ W.cell? ⟨b, off + i * 3 + 1, none⟩ = some (.string x.1) ∧ W.cell? ⟨b, off + i * 3 + 2, none⟩ = some (.int .i64 x.2)
theorem row_cells {base : Nat} {W : World} {e : TypeId} {z : Nat} {v : Value} {α : Type} {f : α → List Value} (hf : ∀ x, (f x).length = z) {L : List α} (h : W.ownsRow base e z v L.length (L.flatMap f)) :
    ∃ p c, v = .slice p L.length c ∧ ∀ (i : Nat) x, L[i]? = some x → ∃ g, p = some ⟨g, 0, none⟩ ∧ g < W.heap.size ∧ ∀ (j : Nat) u, j < z → (f x)[j]? = some u → W.cell? ⟨g, 0 + i * z + j, none⟩ = some u := by
  obtain ⟨h0, ⟨rfl, hz⟩ | ⟨g, cap, cur, rfl, h2, h3, h4, h5, h6, h7⟩⟩ := h
  · exact ⟨none, 0, by rw [hz], fun i x hi => by have := (List.getElem?_eq_some_iff.1 hi).1; omega⟩
  · refine ⟨_, cap, rfl, fun i x hi => ⟨g, rfl, lt_of_block h3, fun j u hj hu => ?_⟩⟩
    have := take_at h7 ((cells_at f z hf L i x j hi hj).trans hu)
    rw [Nat.zero_add]
    simp only [World.cell?, h3]
    rw [Array.getElem?_toList] at this
    simpa using this
theorem HoldRow.seen {base : Nat} {W : World} {v : Value} {L : List (Int × Int)} (h : HoldRow base W v L) (hl : L.length ≤ 1000000) : HoldsSeen W v L := by
  obtain ⟨p, c, e, hc⟩ := row_cells (f := hold2) (fun _ => rfl) h
  refine ⟨p, c, e, hl, fun i x hi => ?_⟩
  obtain ⟨g, rfl, hg, hj⟩ := hc i x hi
  exact ⟨g, 0, rfl, hg, hj 0 _ (by omega) rfl, hj 1 _ (by omega) rfl⟩
theorem TranRow.seen {base : Nat} {W : World} {v : Value} {day : Int} {L : List (ByteArray × Int)} (h : TranRow base W v day L) (hl : L.length ≤ 1000000) : TransSeen W v day L := by
  obtain ⟨p, c, e, hc⟩ := row_cells (f := tran3 day) (fun _ => rfl) h
  refine ⟨p, c, e, hl, fun i x hi => ?_⟩
  obtain ⟨g, rfl, hg, hj⟩ := hc i x hi
  exact ⟨g, 0, rfl, hg, hj 0 _ (by omega) rfl, hj 1 _ (by omega) rfl, hj 2 _ (by omega) rfl⟩
theorem HoldsSeen.below {W W' : World} {v : Value} {l : List (Int × Int)} (h : HoldsSeen W v l) (B : Below W.heap.size W W') : HoldsSeen W' v l := by
  obtain ⟨p, c, e, hl, h⟩ := h
  refine ⟨p, c, e, hl, fun i x hx => ?_⟩
  obtain ⟨b, off, e, hb, h1, h2⟩ := h i x hx
  exact ⟨b, off, e, Nat.lt_of_lt_of_le hb B.size, cell_below B hb h1, cell_below B hb h2⟩
theorem TransSeen.below {W W' : World} {v : Value} {day : Int} {l : List (ByteArray × Int)} (h : TransSeen W v day l) (B : Below W.heap.size W W') : TransSeen W' v day l := by
  obtain ⟨p, c, e, hl, h⟩ := h
  refine ⟨p, c, e, hl, fun i x hx => ?_⟩
  obtain ⟨b, off, e, hb, h1, h2, h3⟩ := h i x hx
  exact ⟨b, off, e, Nat.lt_of_lt_of_le hb B.size, cell_below B hb h1, cell_below B hb h2, cell_below B hb h3⟩
set_option maxHeartbeats 4000000 in
theorem sameHolds_yes (va vb : Value) (l : List (Int × Int)) (w : World) (ha : HoldsSeen w va l) (hb : HoldsSeen w vb l) : Calls Tryd.prog 6 #[va, vb] w (True1 w) := by
  obtain ⟨pa, ca, rfl, hl, HA⟩ := ha
  obtain ⟨pb, cb, rfl, _, HB⟩ := hb
  have HA' := hid' HA
  have HB' := hid' HB
  clear HA HB
  have hl' : (l.length : Int) ≤ 1000000 := by omega
  clear hl
  go_enter Tryd.func6, Tryd.ntmps6
  go_wp2_with fail
  go_loopw [5] (fun iv wr => ∃ i : Nat, iv = .int .i64 (i : Int) ∧ i ≤ l.length ∧ Hid (Below w.heap.size w wr)) (fun iv _ => l.length - (intOf iv).toNat)
  case atStart => exact ⟨0, rfl, Nat.zero_le _, Below.refl _ _⟩
  case round =>
    obtain ⟨i, rfl, hi, HW⟩ := hrel
    by_cases hin : i < l.length
    · obtain ⟨x, hx⟩ : ∃ x, l[i]? = some x := ⟨_, List.getElem?_eq_getElem hin⟩
      obtain ⟨b1, o1, rfl, _, x1, x2⟩ := HA'.out i x hx
      obtain ⟨b2, o2, rfl, _, y1, y2⟩ := HB'.out i x hx
      replace x1 := keep_all HW.out _ _ x1
      replace x2 := keep_all HW.out _ _ x2
      replace y1 := keep_all HW.out _ _ y1
      replace y2 := keep_all HW.out _ _ y2
      have j1 : (0 : Int) ≤ (i : Int) := by omega
      have j2 : (i : Int) < (l.length : Int) := by omega
      have hne := hold_neq x.1 x.2
      have hgd := fun a b => hold_guard a b x.1 x.2
      clear hx
      go_wp2_with fail
      go_quiet (fail)
      go_wp2_with fail
      go_roundw
      case rel => exact ⟨i + 1, by go_num, by omega, hid' (Below.drewn HW.out _)⟩
      case measure => simp [intOf]; omega
    · obtain rfl : i = l.length := by omega
      have g9 : decide (l.length < l.length) = false := by simp
      clear hin
      go_wp2_with fail
      go_ret
      exact ⟨rfl, HW.out⟩
set_option maxHeartbeats 4000000 in
theorem sameTrans_yes (va vb : Value) (day : Int) (l : List (ByteArray × Int)) (w : World) (ha : TransSeen w va day l) (hb : TransSeen w vb day l) : Calls Tryd.prog 7 #[va, vb] w (True1 w) := by
  obtain ⟨pa, ca, rfl, hl, HA⟩ := ha
  obtain ⟨pb, cb, rfl, _, HB⟩ := hb
  have HA' := hid' HA
  have HB' := hid' HB
  clear HA HB
  have hl' : (l.length : Int) ≤ 1000000 := by omega
  clear hl
  go_enter Tryd.func7, Tryd.ntmps7
  go_wp2_with fail
  go_loopw [5] (fun iv wr => ∃ i : Nat, iv = .int .i64 (i : Int) ∧ i ≤ l.length ∧ Hid (Below w.heap.size w wr)) (fun iv _ => l.length - (intOf iv).toNat)
  case atStart => exact ⟨0, rfl, Nat.zero_le _, Below.refl _ _⟩
  case round =>
    obtain ⟨i, rfl, hi, HW⟩ := hrel
    by_cases hin : i < l.length
    · obtain ⟨x, hx⟩ : ∃ x, l[i]? = some x := ⟨_, List.getElem?_eq_getElem hin⟩
      obtain ⟨b1, o1, rfl, _, x1, x2, x3⟩ := HA'.out i x hx
      obtain ⟨b2, o2, rfl, _, y1, y2, y3⟩ := HB'.out i x hx
      replace x1 := keep_all HW.out _ _ x1
      replace x2 := keep_all HW.out _ _ x2
      replace x3 := keep_all HW.out _ _ x3
      replace y1 := keep_all HW.out _ _ y1
      replace y2 := keep_all HW.out _ _ y2
      replace y3 := keep_all HW.out _ _ y3
      have j1 : (0 : Int) ≤ (i : Int) := by omega
      have j2 : (i : Int) < (l.length : Int) := by omega
      have hne := tran_neq day x.2 x.1
      have hgd := fun a b => tran_guard a b day x.2 x.1
      clear hx
      go_wp2_with fail
      go_quiet (fail)
      go_wp2_with fail
      go_roundw
      case rel => exact ⟨i + 1, by go_num, by omega, hid' (Below.drewn HW.out _)⟩
      case measure => simp [intOf]; omega
    · obtain rfl : i = l.length := by omega
      have g9 : decide (l.length < l.length) = false := by simp
      clear hin
      go_wp2_with fail
      go_ret
      exact ⟨rfl, HW.out⟩
def eur : ByteArray := ⟨#[69, 85, 82]⟩
def cd1 : Gen.Cd := ⟨0, [], [⟨27, 0, 0, 0, 0, eur, 0⟩, ⟨30, 0, 0, 0, 0, ⟨#[]⟩, 0⟩]⟩
theorem cd1_right : Gen.right cd1 = true := by decide +kernel
theorem cd1_run : Vm.run cd1 (Vm.env [] 3) 0 1000000 Vm.zeros Vm.st0 = ⟨[], [(eur, 1000000)], 2, false⟩ := by
  have h := Vm.run_in cd1 (Vm.env [] 3) (a := 0) (x := ⟨27, 0, 0, 0, 0, eur, 0⟩) rfl 1000000 Vm.zeros (H := []) (O := []) (s := 0) (by omega)
  rw [Vm.act_pay rfl (by decide)] at h
  have h2 := Vm.run_in cd1 (Vm.env [] 3) (a := 1) (x := ⟨30, 0, 0, 0, 0, ⟨#[]⟩, 0⟩) rfl 1000000 Vm.zeros (H := []) (O := [(eur, 1000000)]) (s := 1) (by omega)
  exact h.trans h2
theorem fd_nil : Fd.right [] = true := Fd.right_yes ⟨by simp, fun i f h => by simp at h⟩
theorem cd1_begin : Vm.begin' cd1 3 [] = some ⟨[], [(eur, 1000000)], 2, false⟩ := by
  unfold Vm.begin' Vm.beginOk
  rw [cd1_run, cd1_right, fd_nil, if_pos ⟨rfl, rfl⟩]
set_option maxHeartbeats 4000000 in
theorem shown18_any (w : World) : Calls Tryd.prog 4 #[] w (True1 w) := by
  obtain ⟨w1, hw1⟩ : ∃ w1, w1 = w.alloc (.cells #[.int .i64 27, .int .i64 0, .int .i64 0, .int .i64 0, .int .i64 0, .string ⟨#[69, 85, 82]⟩, .int .i64 0, .int .i64 30, .int .i64 0, .int .i64 0, .int .i64 0, .int .i64 0, .string ⟨#[]⟩, .int .i64 0] 39) := ⟨_, rfl⟩
  obtain ⟨w2, hw2⟩ : ∃ w2, w2 = w1.alloc (.cells #[.int .i64 0, .slice none 0 0, .slice (some ⟨w.heap.size, 0, none⟩) 2 2] 25) := ⟨_, rfl⟩
  have hsz : w1.heap.size = w.heap.size + 1 := by rw [hw1]; simp
  have B01 : Below w.heap.size w w1 := by rw [hw1]; exact (Below.refl _ _).alloc (Nat.le_refl _) _
  have B12 : Below w1.heap.size w1 w2 := by rw [hw2]; exact (Below.refl _ _).alloc (Nat.le_refl _) _
  have hi := heap_alloc_new w (.cells #[.int .i64 27, .int .i64 0, .int .i64 0, .int .i64 0, .int .i64 0, .string ⟨#[69, 85, 82]⟩, .int .i64 0, .int .i64 30, .int .i64 0, .int .i64 0, .int .i64 0, .int .i64 0, .string ⟨#[]⟩, .int .i64 0] 39)
  rw [← hw1] at hi
  have hi2 := box_below B12 hi
  have hc := heap_alloc_new w1 (.cells #[.int .i64 0, .slice none 0 0, .slice (some ⟨w.heap.size, 0, none⟩) 2 2] 25)
  rw [← hw2, hsz] at hc
  have hcd : CdAt w2 (.agg #[.int .i64 0, .slice none 0 0, .slice (some ⟨w.heap.size, 0, none⟩) 2 2]) cd1 := by
    refine ⟨_, _, rfl, ⟨none, 0, rfl, ⟨Nat.le_refl _, Nat.zero_le _⟩, fun i w h => by simp [cd1] at h⟩, ⟨_, 2, rfl, ⟨Nat.le_refl _, by unfold maxLen; omega⟩, fun i x hx => ?_⟩, ⟨by decide, by decide⟩⟩
    have c := fun j v h => bcells hi2 j v h
    have hcase : (i = 0 ∧ x = ⟨27, 0, 0, 0, 0, eur, 0⟩) ∨ (i = 1 ∧ x = ⟨30, 0, 0, 0, 0, ⟨#[]⟩, 0⟩) := by
      match i, hx with
      | 0, hx => exact .inl ⟨rfl, by simpa [cd1] using hx.symm⟩
      | 1, hx => exact .inr ⟨rfl, by simpa [cd1] using hx.symm⟩
      | j + 2, hx => simp [cd1] at hx
    rcases hcase with ⟨rfl, rfl⟩ | ⟨rfl, rfl⟩
    · exact ⟨w.heap.size, 0, rfl, lt_of_block hi2, ⟨c 0 _ rfl, c 1 _ rfl, c 2 _ rfl, c 3 _ rfl, c 4 _ rfl, c 5 _ rfl, c 6 _ rfl⟩, ⟨⟨by decide, by decide⟩, ⟨by decide, by decide⟩, ⟨by decide, by decide⟩, ⟨by decide, by decide⟩, ⟨by decide, by decide⟩, by decide, ⟨by decide, by decide⟩⟩⟩
    · exact ⟨w.heap.size, 0, rfl, lt_of_block hi2, ⟨c 7 _ rfl, c 8 _ rfl, c 9 _ rfl, c 10 _ rfl, c 11 _ rfl, c 12 _ rfl, c 13 _ rfl⟩, ⟨⟨by decide, by decide⟩, ⟨by decide, by decide⟩, ⟨by decide, by decide⟩, ⟨by decide, by decide⟩, ⟨by decide, by decide⟩, by decide, ⟨by decide, by decide⟩⟩⟩
  have HB := hid' (begin_any cd1 3 [] (.slice none 0 0) (.slice (some ⟨w.heap.size, 0, none⟩) 2 2) (.slice none 0 0) w2 hcd ⟨none, 0, rfl, ⟨Nat.le_refl _, Nat.zero_le _⟩, fun i x h => by simp at h⟩)
  rw [cd1_begin] at HB
  have HW1 := hid' hw1
  have HW2 := hid' hw2
  have HC := hid' hc
  have H02 := hid' (Below.more B01 B12)
  have HSZ := hid' hsz
  clear hw1 hw2 hcd hi hi2 hc B01 B12 hsz
  go_enter Tryd.func4, Tryd.ntmps4
  go_upto_region 2 with (fail)
  rw [← HW1.out]
  rw [← HSZ.out]
  rw [← HW2.out]
  rw [HSZ.out]
  have d0 := bcells HC.out 0 _ rfl
  have d1 := bcells HC.out 1 _ rfl
  have d2 := bcells HC.out 2 _ rfl
  clear HW1 HW2
  go_upto_region 3 with (go_at_call 8; refine HB.out.mono ?_; rintro e w3 ⟨b3, hst, vh, vo, rfl, hh, ht⟩)
  obtain ⟨hp, hc, rfl⟩ := row_form hh
  obtain ⟨op, oc, e1, -, hts⟩ := ht.seen (by simp)
  obtain ⟨tb, to', rfl, -, t0, t1, t2⟩ := hts 0 (eur, 1000000) rfl
  subst e1
  have HB3 := hid' (Below.more H02.out b3)
  have g1 : (List.length [(eur, (1000000 : Int))] : Nat) = 1 := rfl
  have g0 : (List.length ([] : List (Int × Int)) : Nat) = 0 := rfl
  rw [show eur = ⟨#[69, 85, 82]⟩ from rfl] at t1
  clear hst hh ht hts b3 d0 d1 d2 HC
  rw [g0, g1]
  simp only [Nat.zero_mul, Nat.add_zero] at t0 t1 t2
  go_wp2_with fail
  go_ret
  exact ⟨rfl, HB3.out⟩
end Go.Proofs.YtbpcgcmlpgdmbaaDoor

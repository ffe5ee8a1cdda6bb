/- Proved: the reference's Encode of a bytecode, as a contract. -/
import Derived.Test.YtiejoapnljkjdaaGreatDoorGenEnc
import Derived.Deep.RegionHeld3

namespace Go.Proofs.YtiejoapnljkjdaaGreatDoor
open Go.RowKit
set_option linter.unusedVariables false
set_option linter.unusedSimpArgs false
set_option maxRecDepth 100000
theorem vbytes_shape {base : Nat} {w : World} {v : Value} {l : List Int} (h : Owns base w v l) (hl : 1 ≤ l.length) : ∃ g cap, v = .slice (some ⟨g, 0, none⟩) l.length cap ∧ base ≤ g ∧ ∀ i, i < l.length → w.cell? ⟨g, 0 + i, none⟩ = some (.int .u8 (l.getD i 0)) := by
  rcases h.shape with ⟨_, rfl⟩ | ⟨g, cap, hv, hg, _, _, _, hc, _⟩
  · simp at hl
  · exact ⟨g, cap, hv, hg, fun i hi => by rw [Nat.zero_add]; exact hc i hi⟩
theorem vb_pos (u : Nat) : 1 ≤ (nums (Wire.vbytes u)).length := by rw [nums_length]; exact Wire.vbytes_pos u
theorem nums_put2 (a b : Int) : nums (Wire.putInt a ++ Wire.putInt b) = nums (Wire.vbytes (Wire.zig a)) ++ nums (Wire.vbytes (Wire.zig b)) := by
  unfold nums Wire.putInt; rw [List.map_append]
/-- Blocks of cells that are no bytes are kept. -/
def KeepT (W W' : World) : Prop := ∀ (b : Nat) (xs : Array Value) (t : TypeId), t ≠ 5 → W.heap[b]? = some (.cells xs t (0, 0)) → W'.heap[b]? = some (.cells xs t (0, 0))
theorem keepT_below {W W' : World} (b : Below W.heap.size W W') : KeepT W W' := fun _ _ _ _ h => box_below b h
theorem keepT_own {W W' : World} {base : Nat} {v : Value} {l : List Int} (o : Owns base W v l) (g : W.grownBy W' v.ownBlock) : KeepT W W' := by
  intro b xs t ht h
  refine (g.block b (lt_of_block h) ?_).trans h
  rcases o.2 with ⟨rfl, _⟩ | ⟨g2, cap2, cur2, rfl, _, hgb, _⟩
  · intro e; cases e
  · intro e
    cases e
    have e := h.symm.trans hgb
    simp at e
    exact ht e.2
theorem KeepT.trans {A B C : World} (h : KeepT A B) (k : KeepT B C) : KeepT A C := fun b xs t ht e => k b xs t ht (h b xs t ht e)
/-- A number's bytes, or a text's, are put behind. -/
theorem Held.refInt {w wr W3 : World} {l : List UInt8} {v : Value} {n : Int} {e : Ending} (A : Held w l v wr) (f : Fresh wr (nums (Wire.vbytes (Wire.zig n))) e W3) :
    ∃ v3, e = .returned v3 ∧ Held w l v W3 ∧ Reads W3 v3 (nums (Wire.putInt n)) ∧ KeepT wr W3 := by
  obtain ⟨v3, rfl, o3, b3⟩ := f
  exact ⟨v3, rfl, A.below b3, o3.reads, keepT_below b3⟩
theorem Held.refText {w wr W3 : World} {l : List UInt8} {v : Value} {s : ByteArray} {e : Ending} (A : Held w l v wr) (f : Fresh wr (nums (Wire.vbytes (Wire.zig (s.size : Int))) ++ nums s.data.toList) e W3) :
    ∃ v3, e = .returned v3 ∧ Held w l v W3 ∧ Reads W3 v3 (nums (Wire.putText s.data.toList)) ∧ KeepT wr W3 := by
  obtain ⟨v3, rfl, o3, b3⟩ := f
  exact ⟨v3, rfl, A.below b3, by have := o3.reads; rwa [putText_nums'] at this, keepT_below b3⟩
set_option maxHeartbeats 8000000 in
theorem refEncode_any (v : Value) (c : Gen.Cd) (w : World) (h : CdAt w v c) : Calls Tryz.prog 9 #[v] w (GenEncPost c w) := by
  have hcd := h
  obtain ⟨vw, vi, rfl, ⟨pw, cw, rfl, ⟨hw1, hw2⟩, -⟩, ⟨pi, ci, rfl, ⟨hi1, hi2⟩, -⟩, hr⟩ := h
  have B0 := (Below.refl w.heap.size w).alloc (Nat.le_refl _) (.cells #[.int .i64 c.regs, .slice pw c.waits.length cw, .slice pi c.ins.length ci] 25)
  have HS := hid' (show RSt w w.heap.size _ _ c _ from ⟨B0, heap_alloc_new w _, hcd.below B0⟩)
  have c0 := bcells HS.out.cb 0 _ rfl
  have c1 := bcells HS.out.cb 1 _ rfl
  have c2 := bcells HS.out.cb 2 _ rfl
  have HF := hid' hcd.fits
  clear hcd B0
  obtain ⟨ok, hok⟩ : ∃ ok, Hid (Gen.right c = ok) := ⟨_, hid' rfl⟩
  have HR := hid' (refRight_any _ c _ HS.out.cd)
  rw [hok.out] at HR
  unfold GenEncPost
  rw [hok.out]
  go_enter Tryz.func9, Tryz.ntmps9
  go_wp2_with fail
  refine HR.out.mono ?_
  rintro e w1 ⟨rfl, b3⟩
  have H1 := hid' (HS.out.below b3)
  clear c0 c1 c2 b3 HR HS
  cases ok with
  | false =>
    go_wp2_with fail
    refine bodyPost_ret (results_tmp2 rfl _ _ _) rfl ?_
    exact ⟨_, rfl, Reads.nil _, H1.out.bel⟩
  | true =>
    obtain ⟨r1, r2, r3⟩ := right_small hok.out
    have HOK := hid' (And.intro r1 (And.intro r2 r3))
    obtain ⟨b0, hb0⟩ : ∃ b0, b0 = w.heap.size := ⟨_, rfl⟩
    have HB1 := hid' H1.out.bel
    have H1' := hid' (show CdBox w1 b0 c.regs (.slice pw c.waits.length cw) (.slice pi c.ins.length ci) ∧ CdAt w1 (.agg #[.int .i64 c.regs, .slice pw c.waits.length cw, .slice pi c.ins.length ci]) c by rw [hb0]; exact ⟨H1.out.cb, H1.out.cd⟩)
    rw [← hb0]
    clear hb0 H1
    have hd := HF.out.regs
    have hi' : -9223372036854775808 ≤ (c.waits.length : Int) ∧ (c.waits.length : Int) ≤ 9223372036854775807 := ⟨by omega, by omega⟩
    have HKB := hid' (fun (wx : World) (hbx : Below w1.heap.size w1 wx) => box_below hbx H1'.out.1)
    have hbx := (Below.refl w1.heap.size w1).drew
    have HBND := hid' (show (nums (Wire.vbytes (Wire.zig c.regs))).length + (nums (Wire.vbytes (Wire.zig (c.waits.length : Int)))).length ≤ 140737488355328 by
      have h1 := putInt_len c.regs hd.1 hd.2
      have h2 := putInt_len (c.waits.length : Int) hi'.1 hi'.2
      unfold Wire.putInt at h1 h2
      rw [nums_length, nums_length]; omega)
    clear r1 r2 r3 hw2 hi2
    go_upto_region 4 with (fail)
    go_cut [5] (fun v wx => ∃ wn, wn = wx ∧ Below w1.heap.size w1 wn ∧ Owns w1.heap.size wn v (nums (Wire.putInt c.regs ++ Wire.putInt c.waits.length)))
    case first =>
      go_region_held3 (fun w' => w'.cell? ⟨b0, 0, none⟩ = some (.int .i64 c.regs) ∧ w'.cell? ⟨b0, 1, none⟩ = some (.slice pw c.waits.length cw) ∧ Below w1.heap.size w1 w') (exact ⟨bcells (HKB.out _ hbx) 0 _ rfl, bcells (HKB.out _ hbx) 1 _ rfl, hbx⟩)
        (first | (go_at_call_of 22 (Value.int IntKind.i64 c.regs); refine (refInt_any c.regs _ hd.1 hd.2).mono ?_; rintro e w2 ⟨v1, rfl, o1, b1⟩; have hbx := Below.more hbx b1) | (go_at_call_of 22 (Value.int IntKind.i64 (c.waits.length : Int)); refine (refInt_any (c.waits.length : Int) _ hi'.1 hi'.2).mono ?_; rintro e w3 ⟨v2, rfl, o2, b2⟩; have o1 := o1.below b2; have hbx := Below.more hbx b2; obtain ⟨g2, c2, rfl, hg2, hc2⟩ := vbytes_shape o2 (vb_pos _)) | (refine step_bytes rfl _ _ (by rfl) w1.heap.size v1 _ (by rfl) o1 g2 0 _ c2 _ (by rfl) rfl hc2 HBND.out hbx.size ?_; intro v' w4 h5 h6; have hbx := Below.owned hbx h6 o1 hbx.size (Nat.le_refl _)))
      all_goals go_wp2_with fail
      all_goals go_meet
      all_goals exact ⟨_, rfl, hbx, by rw [nums_put2]; exact h5⟩
    case rest =>
      obtain ⟨w2, rfl, b2, o2⟩ := hcut
      have e0 : Gen.pW c 0 = Wire.putInt c.regs ++ Wire.putInt c.waits.length := by rw [Gen.pW_zero]; rfl
      rw [← e0] at o2
      have HA := hid' (show Held w1 (Gen.pW c 0) _ w2 from ⟨o2, b2⟩)
      clear b2 o2 e0 hbx HBND hd hi'
      go_wp2_with fail
      go_loopw [5, 6] (fun v iv wr => ∃ i : Nat, iv = .int .i64 (i : Int) ∧ i ≤ c.waits.length ∧ Hid (Held w1 (Gen.pW c i) v wr)) (fun _ iv _ => c.waits.length - (intOf iv).toNat)
      case atStart => exact ⟨0, rfl, by omega, HA⟩
      case round =>
        obtain ⟨i, rfl, hi, HR⟩ := hrel
        clear HA
        have c1 := bcells (HKB.out _ HR.out.bel) 1 _ rfl
        have c2 := bcells (HKB.out _ HR.out.bel) 2 _ rfl
        by_cases hin : i < c.waits.length
        · obtain ⟨x, hx⟩ : ∃ x, c.waits[i]? = some x := ⟨_, List.getElem?_eq_getElem hin⟩
          obtain ⟨wb, wo, rfl, ⟨y0, y1, y2, y3, y4⟩, hwf⟩ := (H1'.out.2.below (HR.out.bel)).waitCells hx
          have hwn := HOK.out.1
          have j1 : (0 : Int) ≤ (i : Int) := by omega
          have j2 : (i : Int) < (c.waits.length : Int) := by omega
          have wi : IntKind.i64.wrap ((i : Int) + 1) = (i : Int) + 1 := IntWalk.i64_in _ (by omega)
          have g8 : decide (i < c.waits.length) = true := decide_eq_true hin
          have HX := hid' (And.intro hx hwf)
          have HI := hid' hin
          have B6 := (Below.refl wr.heap.size wr).alloc (Nat.le_refl _) (.cells #[.int .i64 x.entry, .int .i64 x.day, .string x.label, .int .i64 x.first, .int .i64 x.second] 56)
          have hPL := Gen.pW_len c i HF.out hwn
          have H6 := hid' (show Held w1 (Gen.pW c i) _ _ ∧ WtBox _ wr.heap.size x from ⟨HR.out.below B6, heap_alloc_new wr _⟩)
          clear hx hwf hin B6
          go_upto_region 9 with (fail)
          clear y0 y1 y2 y3 y4 HR c1 c2
          generalize wr.alloc (.cells #[.int .i64 x.entry, .int .i64 x.day, .string x.label, .int .i64 x.first, .int .i64 x.second] 56) = w6 at *
          generalize wr.heap.size = b6 at *
          obtain ⟨L0, e0⟩ : ∃ L0, L0 = Gen.pW c i := ⟨_, rfl⟩
          rw [← e0] at H6 hPL
          have E0 := hid' e0
          clear e0
          have z := bcells H6.out.2 0 _ rfl
          go_wp2_with fail
          refine (refInt_any x.entry _ HX.out.2.entry.1 HX.out.2.entry.2).mono ?_
          intro e wA hfr
          obtain ⟨v3, rfl, ha, hre, hk⟩ := H6.out.1.refInt hfr
          have hlen : L0.length + (Wire.putInt x.entry).length ≤ 500020010 := by have := putInt_len x.entry HX.out.2.entry.1 HX.out.2.entry.2; omega
          have hbox := hk _ _ _ (by decide) H6.out.2
          have HA := hid' (And.intro ha (And.intro hre hbox))
          have HN := hid' (show (nums L0).length + (nums (Wire.putInt x.entry)).length ≤ 140737488355328 by rw [nums_length, nums_length]; omega)
          clear ha hre hk hbox hfr z H6
          go_wp2_with (refine append_reads rfl _ _ rfl w1.heap.size _ _ rfl HA.out.1.own _ HA.out.2.1 HN.out HA.out.1.bel.size (fun v' w' h1 h2 h3 => ?_); refine halt' ?_)
          have hq := keepT_own HA.out.1.own h3 _ _ _ (by decide) HA.out.2.2
          have hp := HA.out.1.app h1 h2
          obtain ⟨L1, e0⟩ : ∃ L, L = L0 ++ Wire.putInt x.entry := ⟨_, rfl⟩
          rw [← e0] at hp
          rw [← List.length_append, ← e0] at hlen
          have E1 := hid' e0
          have H1s := hid' (And.intro hp hq)
          clear h1 h2 h3 hq hp e0 HA HN hPL
          have hPL := hlen
          clear hlen
          refine hid' ?_
          have z := bcells H1s.out.2 1 _ rfl
          go_wp2_with fail
          refine (refInt_any x.day _ HX.out.2.day.1 HX.out.2.day.2).mono ?_
          intro e wA hfr
          obtain ⟨v3, rfl, ha, hre, hk⟩ := H1s.out.1.refInt hfr
          have hlen : L1.length + (Wire.putInt x.day).length ≤ 500020020 := by have := putInt_len x.day HX.out.2.day.1 HX.out.2.day.2; omega
          have hbox := hk _ _ _ (by decide) H1s.out.2
          have HA := hid' (And.intro ha (And.intro hre hbox))
          have HN := hid' (show (nums L1).length + (nums (Wire.putInt x.day)).length ≤ 140737488355328 by rw [nums_length, nums_length]; omega)
          clear ha hre hk hbox hfr z H1s
          go_wp2_with (refine append_reads rfl _ _ rfl w1.heap.size _ _ rfl HA.out.1.own _ HA.out.2.1 HN.out HA.out.1.bel.size (fun v' w' h1 h2 h3 => ?_); refine halt' ?_)
          have hq := keepT_own HA.out.1.own h3 _ _ _ (by decide) HA.out.2.2
          have hp := HA.out.1.app h1 h2
          obtain ⟨L2, e0⟩ : ∃ L, L = L1 ++ Wire.putInt x.day := ⟨_, rfl⟩
          rw [← e0] at hp
          rw [← List.length_append, ← e0] at hlen
          have E2 := hid' e0
          have H2s := hid' (And.intro hp hq)
          clear h1 h2 h3 hq hp e0 HA HN hPL
          have hPL := hlen
          clear hlen
          refine hid' ?_
          have z := bcells H2s.out.2 2 _ rfl
          go_wp2_with fail
          refine (refText_any x.label _ (by have := HX.out.2.label; omega)).mono ?_
          intro e wA hfr
          obtain ⟨v3, rfl, ha, hre, hk⟩ := H2s.out.1.refText hfr
          have hlen : L2.length + (Wire.putText x.label.data.toList).length ≤ 502020030 := by have := Gen.text_len x.label HX.out.2.label; omega
          have hbox := hk _ _ _ (by decide) H2s.out.2
          have HA := hid' (And.intro ha (And.intro hre hbox))
          have HN := hid' (show (nums L2).length + (nums (Wire.putText x.label.data.toList)).length ≤ 140737488355328 by rw [nums_length, nums_length]; omega)
          clear ha hre hk hbox hfr z H2s
          go_wp2_with (refine append_reads rfl _ _ rfl w1.heap.size _ _ rfl HA.out.1.own _ HA.out.2.1 HN.out HA.out.1.bel.size (fun v' w' h1 h2 h3 => ?_); refine halt' ?_)
          have hq := keepT_own HA.out.1.own h3 _ _ _ (by decide) HA.out.2.2
          have hp := HA.out.1.app h1 h2
          obtain ⟨L3, e0⟩ : ∃ L, L = L2 ++ Wire.putText x.label.data.toList := ⟨_, rfl⟩
          rw [← e0] at hp
          rw [← List.length_append, ← e0] at hlen
          have E3 := hid' e0
          have H3s := hid' (And.intro hp hq)
          clear h1 h2 h3 hq hp e0 HA HN hPL
          have hPL := hlen
          clear hlen
          refine hid' ?_
          have z := bcells H3s.out.2 3 _ rfl
          go_wp2_with fail
          refine (refInt_any x.first _ HX.out.2.first.1 HX.out.2.first.2).mono ?_
          intro e wA hfr
          obtain ⟨v3, rfl, ha, hre, hk⟩ := H3s.out.1.refInt hfr
          have hlen : L3.length + (Wire.putInt x.first).length ≤ 502020040 := by have := putInt_len x.first HX.out.2.first.1 HX.out.2.first.2; omega
          have hbox := hk _ _ _ (by decide) H3s.out.2
          have HA := hid' (And.intro ha (And.intro hre hbox))
          have HN := hid' (show (nums L3).length + (nums (Wire.putInt x.first)).length ≤ 140737488355328 by rw [nums_length, nums_length]; omega)
          clear ha hre hk hbox hfr z H3s
          go_wp2_with (refine append_reads rfl _ _ rfl w1.heap.size _ _ rfl HA.out.1.own _ HA.out.2.1 HN.out HA.out.1.bel.size (fun v' w' h1 h2 h3 => ?_); refine halt' ?_)
          have hq := keepT_own HA.out.1.own h3 _ _ _ (by decide) HA.out.2.2
          have hp := HA.out.1.app h1 h2
          obtain ⟨L4, e0⟩ : ∃ L, L = L3 ++ Wire.putInt x.first := ⟨_, rfl⟩
          rw [← e0] at hp
          rw [← List.length_append, ← e0] at hlen
          have E4 := hid' e0
          have H4s := hid' (And.intro hp hq)
          clear h1 h2 h3 hq hp e0 HA HN hPL
          have hPL := hlen
          clear hlen
          refine hid' ?_
          have z := bcells H4s.out.2 4 _ rfl
          go_wp2_with fail
          refine (refInt_any x.second _ HX.out.2.second.1 HX.out.2.second.2).mono ?_
          intro e wA hfr
          obtain ⟨v3, rfl, ha, hre, hk⟩ := H4s.out.1.refInt hfr
          have hlen : L4.length + (Wire.putInt x.second).length ≤ 502020050 := by have := putInt_len x.second HX.out.2.second.1 HX.out.2.second.2; omega
          have hbox := hk _ _ _ (by decide) H4s.out.2
          have HA := hid' (And.intro ha (And.intro hre hbox))
          have HN := hid' (show (nums L4).length + (nums (Wire.putInt x.second)).length ≤ 140737488355328 by rw [nums_length, nums_length]; omega)
          clear ha hre hk hbox hfr z H4s
          go_wp2_with (refine append_reads rfl _ _ rfl w1.heap.size _ _ rfl HA.out.1.own _ HA.out.2.1 HN.out HA.out.1.bel.size (fun v' w' h1 h2 h3 => ?_); refine halt' ?_)
          have hq := keepT_own HA.out.1.own h3 _ _ _ (by decide) HA.out.2.2
          have hp := HA.out.1.app h1 h2
          obtain ⟨L5, e0⟩ : ∃ L, L = L4 ++ Wire.putInt x.second := ⟨_, rfl⟩
          rw [← e0] at hp
          rw [← List.length_append, ← e0] at hlen
          have E5 := hid' e0
          have H5s := hid' (And.intro hp hq)
          clear h1 h2 h3 hq hp e0 HA HN hPL
          have hPL := hlen
          clear hlen
          refine hid' ?_
          have e5 : L5 = Gen.pW c (i + 1) := by
            rw [E5.out, E4.out, E3.out, E2.out, E1.out, E0.out, Gen.pW_step c i x HX.out.1]
            simp [putAll]
          rw [e5] at H5s
          have H10 := hid' H5s.out.1
          clear e5 H5s hPL E0 E1 E2 E3 E4 E5
          go_wp2_with fail
          go_roundw
          case rel => exact ⟨i + 1, by go_num, by have := HI.out; omega, H10⟩
          case measure => have := HI.out; simp [intOf]; omega
        · obtain rfl : i = c.waits.length := by omega
          have g9 : decide (c.waits.length < c.waits.length) = false := by simp
          have hin3 := HOK.out.2.2
          have hPL := Gen.pW_len c c.waits.length HF.out HOK.out.1
          clear hin
          go_wp2_with fail
          refine (refInt_any (c.ins.length : Int) _ (by omega) (by omega)).mono ?_
          intro e wA hfr
          obtain ⟨v3, rfl, ha, hre, hk⟩ := HR.out.refInt hfr
          have hlen := putInt_len (c.ins.length : Int) (by omega) (by omega)
          have HA := hid' (And.intro ha hre)
          have HN := hid' (show (nums (Gen.pW c c.waits.length)).length + (nums (Wire.putInt (c.ins.length : Int))).length ≤ 140737488355328 by rw [nums_length, nums_length]; omega)
          clear ha hre hk hfr hlen hPL HR c1 c2
          go_wp2_with (refine append_reads rfl _ _ rfl w1.heap.size _ _ rfl HA.out.1.own _ HA.out.2 HN.out HA.out.1.bel.size (fun v' w' h1 h2 h3 => ?_); refine halt' ?_)
          have hp := HA.out.1.app h1 h2
          rw [← Gen.pI_zero] at hp
          have HP0 := hid' hp
          clear h1 h2 h3 hp HA HN
          refine hid' ?_
          go_wp2_with fail
          go_loopw [5, 8] (fun v iv wr => ∃ i : Nat, iv = .int .i64 (i : Int) ∧ i ≤ c.ins.length ∧ Hid (Held w1 (Gen.pI c i) v wr)) (fun _ iv _ => c.ins.length - (intOf iv).toNat)
          case atStart => exact ⟨0, rfl, by omega, HP0⟩
          case round =>
            obtain ⟨i, rfl, hi, HR⟩ := hrel
            clear HP0
            have c2 := bcells (HKB.out _ HR.out.bel) 2 _ rfl
            by_cases hin : i < c.ins.length
            · obtain ⟨x, hx⟩ : ∃ x, c.ins[i]? = some x := ⟨_, List.getElem?_eq_getElem hin⟩
              obtain ⟨ib, io, rfl, ⟨y0, y1, y2, y3, y4, y5, y6⟩, hxf⟩ := (H1'.out.2.below (HR.out.bel)).insAll hx
              have j1 : (0 : Int) ≤ (i : Int) := by omega
              have j2 : (i : Int) < (c.ins.length : Int) := by omega
              have wi : IntKind.i64.wrap ((i : Int) + 1) = (i : Int) + 1 := IntWalk.i64_in _ (by omega)
              have g8 : decide (i < c.ins.length) = true := decide_eq_true hin
              have HX := hid' (And.intro hx hxf)
              have HI := hid' hin
              have B6 := (Below.refl wr.heap.size wr).alloc (Nat.le_refl _) (.cells #[.int .i64 x.op, .int .i64 x.a, .int .i64 x.b, .int .i64 x.c, .int .i64 x.n, .string x.s, .int .i64 x.to] 53)
              have hPL := Gen.pI_len c i HF.out HOK.out.1 HOK.out.2.2
              have H6 := hid' (show Held w1 (Gen.pI c i) _ _ ∧ IxBox _ wr.heap.size x from ⟨HR.out.below B6, heap_alloc_new wr _⟩)
              clear hx hxf hin B6 hin3
              go_upto_region 19 with (fail)
              clear y0 y1 y2 y3 y4 y5 y6 HR c2
              generalize wr.alloc (.cells #[.int .i64 x.op, .int .i64 x.a, .int .i64 x.b, .int .i64 x.c, .int .i64 x.n, .string x.s, .int .i64 x.to] 53) = w6 at *
              generalize wr.heap.size = b6 at *
              obtain ⟨L0, e0⟩ : ∃ L0, L0 = Gen.pI c i := ⟨_, rfl⟩
              rw [← e0] at H6 hPL
              have E0 := hid' e0
              clear e0
              have y0 := bcells H6.out.2 0 _ rfl
              have y1 := bcells H6.out.2 1 _ rfl
              have y2 := bcells H6.out.2 2 _ rfl
              have y3 := bcells H6.out.2 3 _ rfl
              have y4 := bcells H6.out.2 4 _ rfl
              go_upto_region 20 with (fail)
              have B7 := (Below.refl w6.heap.size w6).alloc (Nat.le_refl _) (.cells #[.int .i64 x.op, .int .i64 x.a, .int .i64 x.b, .int .i64 x.c, .int .i64 x.n] 64)
              have h7 : Held w1 L0 _ _ ∧ IxBox _ b6 x ∧ (w6.alloc (.cells #[.int .i64 x.op, .int .i64 x.a, .int .i64 x.b, .int .i64 x.c, .int .i64 x.n] 64)).heap[w6.heap.size]? = some (.cells #[.int .i64 x.op, .int .i64 x.a, .int .i64 x.b, .int .i64 x.c, .int .i64 x.n] 64 (0, 0)) := ⟨H6.out.1.below B7, box_below B7 H6.out.2, heap_alloc_new _ _⟩
              have hns : ∀ n ∈ [x.op, x.a, x.b, x.c, x.n], -9223372036854775808 ≤ n ∧ n ≤ 9223372036854775807 := by
                have hq := HX.out.2
                intro n hn; simp at hn
                rcases hn with rfl | rfl | rfl | rfl | rfl
                · exact hq.op
                · exact hq.a
                · exact hq.b
                · exact hq.c
                · exact hq.n
              have HNS := hid' hns
              have h70 : L0 = L0 ++ putAll (([x.op, x.a, x.b, x.c, x.n] : List Int).take 0) := by simp [putAll]
              rw [h70] at h7
              have H7 := hid' h7
              clear y0 y1 y2 y3 y4 B7 H6 h7 hns h70
              generalize w6.alloc (.cells #[.int .i64 x.op, .int .i64 x.a, .int .i64 x.b, .int .i64 x.c, .int .i64 x.n] 64) = w7 at *
              generalize w6.heap.size = b7 at *
              go_wp2_with fail
              go_loopw [5, 11] (fun v kv wz => ∃ k : Nat, kv = .int .i64 (k : Int) ∧ k ≤ 5 ∧ Hid (Held w1 (L0 ++ putAll (([x.op, x.a, x.b, x.c, x.n] : List Int).take k)) v wz ∧ IxBox wz b6 x ∧ wz.heap[b7]? = some (.cells #[.int .i64 x.op, .int .i64 x.a, .int .i64 x.b, .int .i64 x.c, .int .i64 x.n] 64 (0, 0)))) (fun _ kv _ => 5 - (intOf kv).toNat)
              case atStart => exact ⟨0, rfl, by omega, H7⟩
              case round =>
                obtain ⟨k, rfl, hk5, HK⟩ := hrel
                by_cases hkn : k < 5
                · obtain ⟨n, hn⟩ : ∃ n, ([x.op, x.a, x.b, x.c, x.n] : List Int)[k]? = some n := ⟨_, List.getElem?_eq_getElem (by simpa using hkn)⟩
                  have z := bcells HK.out.2.2 k (.int .i64 n) (by have : (#[.int .i64 x.op, .int .i64 x.a, .int .i64 x.b, .int .i64 x.c, .int .i64 x.n] : Array Value) = (([x.op, x.a, x.b, x.c, x.n] : List Int).map (Value.int .i64)).toArray := rfl; rw [this]; simp only [List.getElem?_toArray, List.getElem?_map, hn]; rfl)
                  have m1 : (0 : Int) ≤ (k : Int) := by omega
                  have m2 : (k : Int) < 5 := by omega
                  have m3 : k < 5 := hkn
                  have m4 : decide ((k : Int) < 5) = true := decide_eq_true m2
                  have wk : IntKind.i64.wrap ((k : Int) + 1) = (k : Int) + 1 := IntWalk.i64_in _ (by omega)
                  have hnb := HNS.out n (List.mem_of_getElem? hn)
                  have hlk : (L0 ++ putAll (([x.op, x.a, x.b, x.c, x.n] : List Int).take k)).length ≤ 40000000050 := by
                    have := putAll_len (([x.op, x.a, x.b, x.c, x.n] : List Int).take k) (fun n hn => HNS.out n (List.mem_of_mem_take hn))
                    rw [List.length_append]
                    rw [List.length_take] at this
                    omega
                  have HKN := hid' hn
                  clear hn
                  go_wp2_with fail
                  refine (refInt_any n _ hnb.1 hnb.2).mono ?_
                  intro e wA hfr
                  obtain ⟨v3, rfl, ha, hre, hk⟩ := HK.out.1.refInt hfr
                  have hlen := putInt_len n hnb.1 hnb.2
                  have HA := hid' (And.intro ha (And.intro hre (And.intro (hk _ _ _ (by decide) HK.out.2.1) (hk _ _ _ (by decide) HK.out.2.2))))
                  have HN := hid' (show (nums (L0 ++ putAll (([x.op, x.a, x.b, x.c, x.n] : List Int).take k))).length + (nums (Wire.putInt n)).length ≤ 140737488355328 by rw [nums_length, nums_length]; omega)
                  clear ha hre hk hfr hlen z hlk HK
                  go_wp2_with (refine append_reads rfl _ _ rfl w1.heap.size _ _ rfl HA.out.1.own _ HA.out.2.1 HN.out HA.out.1.bel.size (fun v' w' h1 h2 h3 => ?_); refine halt' ?_)
                  have hp := HA.out.1.app h1 h2
                  rw [List.append_assoc, ← putAll_snoc _ k n HKN.out] at hp
                  have hkt := keepT_own HA.out.1.own h3
                  have HK2 := hid' (And.intro hp (And.intro (hkt _ _ _ (by decide) HA.out.2.2.1) (hkt _ _ _ (by decide) HA.out.2.2.2)))
                  clear h1 h2 h3 hp hkt HA HN
                  refine hid' ?_
                  go_wp2_with fail
                  go_roundw
                  case rel => exact ⟨k + 1, by go_num, by omega, HK2⟩
                  case measure => simp [intOf]; omega
                · obtain rfl : k = 5 := by omega
                  have H8 := hid' (show Held w1 (L0 ++ putAll [x.op, x.a, x.b, x.c, x.n]) _ _ ∧ IxBox _ b6 x from ⟨HK.out.1, HK.out.2.1⟩)
                  obtain ⟨L1, e1⟩ : ∃ L1, L1 = L0 ++ putAll [x.op, x.a, x.b, x.c, x.n] := ⟨_, rfl⟩
                  have hPL1 : L1.length ≤ 40000000050 := by
                    have := putAll_len [x.op, x.a, x.b, x.c, x.n] HNS.out
                    rw [e1, List.length_append]
                    simp only [List.length_cons, List.length_nil] at this
                    omega
                  rw [← e1] at H8
                  have E1 := hid' e1
                  clear e1 hkn HK hPL
                  have hPL := hPL1
                  clear hPL1
                  have z := bcells H8.out.2 5 _ rfl
                  go_wp2_with fail
                  refine (refText_any x.s _ (by have := HX.out.2.s; omega)).mono ?_
                  intro e wA hfr
                  obtain ⟨v3, rfl, ha, hre, hk⟩ := H8.out.1.refText hfr
                  have hlen : L1.length + (Wire.putText x.s.data.toList).length ≤ 40002000060 := by have := Gen.text_len x.s HX.out.2.s; omega
                  have hbox := hk _ _ _ (by decide) H8.out.2
                  have HA := hid' (And.intro ha (And.intro hre hbox))
                  have HN := hid' (show (nums L1).length + (nums (Wire.putText x.s.data.toList)).length ≤ 140737488355328 by rw [nums_length, nums_length]; omega)
                  clear ha hre hk hbox hfr z H8
                  go_wp2_with (refine append_reads rfl _ _ rfl w1.heap.size _ _ rfl HA.out.1.own _ HA.out.2.1 HN.out HA.out.1.bel.size (fun v' w' h1 h2 h3 => ?_); refine halt' ?_)
                  have hq := keepT_own HA.out.1.own h3 _ _ _ (by decide) HA.out.2.2
                  have hp := HA.out.1.app h1 h2
                  obtain ⟨L2, e0⟩ : ∃ L, L = L1 ++ Wire.putText x.s.data.toList := ⟨_, rfl⟩
                  rw [← e0] at hp
                  rw [← List.length_append, ← e0] at hlen
                  have E2 := hid' e0
                  have H2s := hid' (And.intro hp hq)
                  clear h1 h2 h3 hq hp e0 HA HN hPL
                  have hPL := hlen
                  clear hlen
                  refine hid' ?_
                  have z := bcells H2s.out.2 6 _ rfl
                  go_wp2_with fail
                  refine (refInt_any x.to _ HX.out.2.to.1 HX.out.2.to.2).mono ?_
                  intro e wA hfr
                  obtain ⟨v3, rfl, ha, hre, hk⟩ := H2s.out.1.refInt hfr
                  have hlen : L2.length + (Wire.putInt x.to).length ≤ 40002000070 := by have := putInt_len x.to HX.out.2.to.1 HX.out.2.to.2; omega
                  have hbox := hk _ _ _ (by decide) H2s.out.2
                  have HA := hid' (And.intro ha (And.intro hre hbox))
                  have HN := hid' (show (nums L2).length + (nums (Wire.putInt x.to)).length ≤ 140737488355328 by rw [nums_length, nums_length]; omega)
                  clear ha hre hk hbox hfr z H2s
                  go_wp2_with (refine append_reads rfl _ _ rfl w1.heap.size _ _ rfl HA.out.1.own _ HA.out.2.1 HN.out HA.out.1.bel.size (fun v' w' h1 h2 h3 => ?_); refine halt' ?_)
                  have hq := keepT_own HA.out.1.own h3 _ _ _ (by decide) HA.out.2.2
                  have hp := HA.out.1.app h1 h2
                  obtain ⟨L3, e0⟩ : ∃ L, L = L2 ++ Wire.putInt x.to := ⟨_, rfl⟩
                  rw [← e0] at hp
                  rw [← List.length_append, ← e0] at hlen
                  have E3 := hid' e0
                  have H3s := hid' (And.intro hp hq)
                  clear h1 h2 h3 hq hp e0 HA HN hPL
                  have hPL := hlen
                  clear hlen
                  refine hid' ?_
                  have e3 : L3 = Gen.pI c (i + 1) := by
                    rw [E3.out, E2.out, E1.out, E0.out, Gen.pI_step c i x HX.out.1]
                    simp [putAll]
                  rw [e3] at H3s
                  have H10 := hid' H3s.out.1
                  clear e3 H3s hPL E0 E1 E2 E3
                  go_wp2_with fail
                  go_roundw
                  case rel => exact ⟨i + 1, by go_num, by have := HI.out; omega, H10⟩
                  case measure => have := HI.out; simp [intOf]; omega
            · obtain rfl : i = c.ins.length := by omega
              have g10 : decide (c.ins.length < c.ins.length) = false := by simp
              clear hin
              rw [Gen.pI_all] at HR
              go_wp2_with fail
              refine bodyPost_ret (results_tmp2 rfl _ _ _) rfl ?_
              exact ⟨_, rfl, HR.out.own.reads, Below.more HB1.out HR.out.bel⟩
end Go.Proofs.YtiejoapnljkjdaaGreatDoor

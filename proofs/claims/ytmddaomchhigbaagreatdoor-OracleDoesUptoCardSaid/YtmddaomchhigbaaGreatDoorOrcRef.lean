/- Proved: the reference's Right, said, Encode, Sign as contracts. -/
import Derived.Test.YtmddaomchhigbaaGreatDoorOrcEnc
import Derived.Test.YtmddaomchhigbaaGreatDoorWireNum
import Derived.Test.YtmddaomchhigbaaGreatDoorTagRef
import Derived.Deep.RegionHeld3
namespace Go.Proofs.YtmddaomchhigbaaGreatDoor
open Go.RowKit
open Led Orc
set_option linter.unusedVariables false
set_option linter.unusedSimpArgs false
set_option maxRecDepth 100000
set_option maxHeartbeats 2000000 in
theorem refRight_any (t : Orc.Tip) (w : World) (hs : t.feed.size ≤ 9223372036854775807) :
    Calls Tryz.prog 32 #[.agg #[.string t.feed, .int .i64 t.day, .int .i64 t.n, .int .i64 t.seq, .string t.tag]] w (Gives (.bool (Orc.right t)) w) := by
  have HN := hid' (fun w' => refIsName_any t.feed w' hs)
  have HE := hid' (show Orc.right t = ((isName t.feed && (decide (0 ≤ t.day) && (decide (t.day ≤ 73048) && (decide (-1000000000000000 ≤ t.n) && (decide (t.n ≤ 1000000000000000) && (decide (1 ≤ t.seq) && decide (t.seq ≤ 4611686018427387904))))))) && decide (t.tag.size = 32)) from rfl)
  rw [HE.out]
  have HB := hid' (TipBox.new w t)
  have HW := hid' (show Below w.heap.size w (w.alloc (.cells #[.string t.feed, .int .i64 t.day, .int .i64 t.n, .int .i64 t.seq, .string t.tag] 23)) from (Below.refl _ _).alloc (Nat.le_refl _) _)
  clear HE hs
  cases hn : isName t.feed with
  | false =>
    go_enter Tryz.func32, Tryz.ntmps32
    go_wp2_with fail
    refine (HN.out _).mono ?_
    rintro e w1 ⟨rfl, rfl⟩
    rw [hn]
    obtain ⟨c0, c1, c2, c3, c4, cf⟩ := HB.out.cells
    clear cf
    go_wp2_with fail
    go_ret
    exact ⟨rfl, HW.out⟩
  | true =>
    cases h0 : decide (0 ≤ t.day) with
    | false =>
      go_enter Tryz.func32, Tryz.ntmps32
      go_wp2_with fail
      refine (HN.out _).mono ?_
      rintro e w1 ⟨rfl, rfl⟩
      rw [hn]
      obtain ⟨c0, c1, c2, c3, c4, cf⟩ := HB.out.cells
      clear cf
      go_wp2_with fail
      go_ret
      exact ⟨rfl, HW.out⟩
    | true =>
      cases h1 : decide (t.day ≤ 73048) with
      | false =>
        go_enter Tryz.func32, Tryz.ntmps32
        go_wp2_with fail
        refine (HN.out _).mono ?_
        rintro e w1 ⟨rfl, rfl⟩
        rw [hn]
        obtain ⟨c0, c1, c2, c3, c4, cf⟩ := HB.out.cells
        clear cf
        go_wp2_with fail
        go_ret
        exact ⟨rfl, HW.out⟩
      | true =>
        cases h2 : decide (-1000000000000000 ≤ t.n) with
        | false =>
          go_enter Tryz.func32, Tryz.ntmps32
          go_wp2_with fail
          refine (HN.out _).mono ?_
          rintro e w1 ⟨rfl, rfl⟩
          rw [hn]
          obtain ⟨c0, c1, c2, c3, c4, cf⟩ := HB.out.cells
          clear cf
          go_wp2_with fail
          go_ret
          exact ⟨rfl, HW.out⟩
        | true =>
          cases h3 : decide (t.n ≤ 1000000000000000) with
          | false =>
            go_enter Tryz.func32, Tryz.ntmps32
            go_wp2_with fail
            refine (HN.out _).mono ?_
            rintro e w1 ⟨rfl, rfl⟩
            rw [hn]
            obtain ⟨c0, c1, c2, c3, c4, cf⟩ := HB.out.cells
            clear cf
            go_wp2_with fail
            go_ret
            exact ⟨rfl, HW.out⟩
          | true =>
            cases h4 : decide (1 ≤ t.seq) with
            | false =>
              go_enter Tryz.func32, Tryz.ntmps32
              go_wp2_with fail
              refine (HN.out _).mono ?_
              rintro e w1 ⟨rfl, rfl⟩
              rw [hn]
              obtain ⟨c0, c1, c2, c3, c4, cf⟩ := HB.out.cells
              clear cf
              go_wp2_with fail
              go_ret
              exact ⟨rfl, HW.out⟩
            | true =>
              cases h5 : decide (t.seq ≤ 4611686018427387904) with
              | false =>
                go_enter Tryz.func32, Tryz.ntmps32
                go_wp2_with fail
                refine (HN.out _).mono ?_
                rintro e w1 ⟨rfl, rfl⟩
                rw [hn]
                obtain ⟨c0, c1, c2, c3, c4, cf⟩ := HB.out.cells
                clear cf
                go_wp2_with fail
                go_ret
                exact ⟨rfl, HW.out⟩
              | true =>
                by_cases h7 : t.tag.size = 32
                · have g7 : ((t.tag.size : Int) == 32) = true := by rw [beq_iff_eq]; omega
                  rw [decide_eq_true h7]
                  clear h7
                  go_enter Tryz.func32, Tryz.ntmps32
                  go_wp2_with fail
                  refine (HN.out _).mono ?_
                  rintro e w1 ⟨rfl, rfl⟩
                  rw [hn]
                  obtain ⟨c0, c1, c2, c3, c4, cf⟩ := HB.out.cells
                  clear cf
                  go_wp2_with fail
                  go_ret
                  exact ⟨rfl, HW.out⟩
                · have g7 : ((t.tag.size : Int) == 32) = false := by rw [beq_eq_false_iff_ne]; omega
                  rw [decide_eq_false h7]
                  clear h7
                  go_enter Tryz.func32, Tryz.ntmps32
                  go_wp2_with fail
                  refine (HN.out _).mono ?_
                  rintro e w1 ⟨rfl, rfl⟩
                  rw [hn]
                  obtain ⟨c0, c1, c2, c3, c4, cf⟩ := HB.out.cells
                  clear cf
                  go_wp2_with fail
                  go_ret
                  exact ⟨rfl, HW.out⟩
set_option maxHeartbeats 2000000 in
theorem refSaid_any (t : Orc.Tip) (w : World) (h : Orc.Fits t) :
    Calls Tryz.prog 33 #[.agg #[.string t.feed, .int .i64 t.day, .int .i64 t.n, .int .i64 t.seq, .string t.tag]] w (Fresh w (nums (Orc.said t))) := by
  have HF := hid' h
  have HL := hid' (text_len t.feed h.feed)
  have HL1 := hid' (putInt_len t.day h.day.1 h.day.2)
  have HL2 := hid' (putInt_len t.n h.n.1 h.n.2)
  have HL3 := hid' (putInt_len t.seq h.seq.1 h.seq.2)
  have HS := hid' (show Orc.said t = [84] ++ Wire.putText t.feed.data.toList ++ Wire.putInt t.day ++ Wire.putInt t.n ++ Wire.putInt t.seq by rw [Orc.said_is]; rfl)
  clear h
  have HBX := hid' (TipBox.new w t)
  have HB0 := hid' (show Below w.heap.size w (w.alloc (.cells #[.string t.feed, .int .i64 t.day, .int .i64 t.n, .int .i64 t.seq, .string t.tag] 23)) from (Below.refl _ _).alloc (Nat.le_refl _) _)
  have hown := World.ownsRow_lit (base := (w.alloc (.cells #[.string t.feed, .int .i64 t.day, .int .i64 t.n, .int .i64 t.seq, .string t.tag] 23)).heap.size) (e := 5) (size := 1) (w.alloc (.cells #[.string t.feed, .int .i64 t.day, .int .i64 t.n, .int .i64 t.seq, .string t.tag] 23)) #[.int .u8 84] 1 (Nat.le_refl _) (by decide) (by simp)
  have HA0 := hid' (show Held (w.alloc (.cells #[.string t.feed, .int .i64 t.day, .int .i64 t.n, .int .i64 t.seq, .string t.tag] 23)) [84] (.slice (some ⟨w.heap.size + 1, 0, none⟩) 1 1) ((w.alloc (.cells #[.string t.feed, .int .i64 t.day, .int .i64 t.n, .int .i64 t.seq, .string t.tag] 23)).alloc (.cells #[.int .u8 84] 5)) from
    ⟨by simpa [Owns, nums] using hown, (Below.refl _ _).alloc (Nat.le_refl _) _⟩)
  clear hown
  go_enter Tryz.func33, Tryz.ntmps33
  go_upto_block 0 with (fail)
  obtain ⟨W0, hW⟩ : ∃ W0, W0 = w.alloc (.cells #[.string t.feed, .int .i64 t.day, .int .i64 t.n, .int .i64 t.seq, .string t.tag] 23) := ⟨_, rfl⟩
  rw [← hW] at HBX HB0 HA0 ⊢
  clear hW
  generalize W0.alloc (.cells #[.int .u8 84] 5) = W1 at *
  refine (refText_any t.feed _ (by have := HF.out.feed; omega)).mono ?_
  rintro e wx0 ⟨vx0, rfl, o0, b0⟩
  rw [putText_nums' t.feed] at o0
  have HX0 := hid' (HA0.out.below b0)
  have HR0 := hid' o0.reads
  clear b0 o0
  go_wp2_with (refine append_reads rfl _ _ rfl W0.heap.size _ _ rfl HX0.out.own _ HR0.out (by rw [nums_length, nums_length]; have := HL.out; simp; omega) HX0.out.bel.size (fun v' w' h1 h2 h3 => ?_); refine halt' ?_)
  have HA1 := hid' (HX0.out.app h1 h2)
  clear h1 h2 h3 HX0 HR0 HA0
  refine hid' ?_
  obtain ⟨c0, c1, c2, c3, c4, _⟩ := (HBX.out.below HA1.out.bel).cells
  go_wp2_with fail
  refine (refInt_any t.day _ HF.out.day.1 HF.out.day.2).mono ?_
  rintro e wx1 ⟨vx1, rfl, o1, b1⟩
  change Owns _ wx1 vx1 (nums (Wire.putInt t.day)) at o1
  have HX1 := hid' (HA1.out.below b1)
  have HR1 := hid' o1.reads
  clear b1 o1 c0 c1 c2 c3 c4
  go_wp2_with (refine append_reads rfl _ _ rfl W0.heap.size _ _ rfl HX1.out.own _ HR1.out (by rw [nums_length, nums_length]; have := HL.out; have := HL1.out; simp only [List.length_append, List.length_singleton]; omega) HX1.out.bel.size (fun v' w' h1 h2 h3 => ?_); refine halt' ?_)
  have HA2 := hid' (HX1.out.app h1 h2)
  clear h1 h2 h3 HX1 HR1 HA1
  refine hid' ?_
  obtain ⟨c0, c1, c2, c3, c4, _⟩ := (HBX.out.below HA2.out.bel).cells
  go_wp2_with fail
  refine (refInt_any t.n _ HF.out.n.1 HF.out.n.2).mono ?_
  rintro e wx2 ⟨vx2, rfl, o2, b2⟩
  change Owns _ wx2 vx2 (nums (Wire.putInt t.n)) at o2
  have HX2 := hid' (HA2.out.below b2)
  have HR2 := hid' o2.reads
  clear b2 o2 c0 c1 c2 c3 c4
  go_wp2_with (refine append_reads rfl _ _ rfl W0.heap.size _ _ rfl HX2.out.own _ HR2.out (by rw [nums_length, nums_length]; have := HL.out; have := HL1.out; have := HL2.out; simp only [List.length_append, List.length_singleton]; omega) HX2.out.bel.size (fun v' w' h1 h2 h3 => ?_); refine halt' ?_)
  have HA3 := hid' (HX2.out.app h1 h2)
  clear h1 h2 h3 HX2 HR2 HA2
  refine hid' ?_
  obtain ⟨c0, c1, c2, c3, c4, _⟩ := (HBX.out.below HA3.out.bel).cells
  go_wp2_with fail
  refine (refInt_any t.seq _ HF.out.seq.1 HF.out.seq.2).mono ?_
  rintro e wx3 ⟨vx3, rfl, o3, b3⟩
  change Owns _ wx3 vx3 (nums (Wire.putInt t.seq)) at o3
  have HX3 := hid' (HA3.out.below b3)
  have HR3 := hid' o3.reads
  clear b3 o3 c0 c1 c2 c3 c4
  go_wp2_with (refine append_reads rfl _ _ rfl W0.heap.size _ _ rfl HX3.out.own _ HR3.out (by rw [nums_length, nums_length]; have := HL.out; have := HL1.out; have := HL2.out; have := HL3.out; simp only [List.length_append, List.length_singleton]; omega) HX3.out.bel.size (fun v' w' h1 h2 h3 => ?_); refine halt' ?_)
  have HA4 := hid' (HX3.out.app h1 h2)
  clear h1 h2 h3 HX3 HR3 HA3
  refine hid' ?_
  rw [← HS.out] at HA4
  go_wp2_with fail
  go_ret
  exact ⟨_, rfl, HA4.out.own.mono HB0.out.size, Below.more HB0.out HA4.out.bel⟩
end Go.Proofs.YtmddaomchhigbaaGreatDoor

/- Proved: the reference's Encode as a contract: a posting's bytes where it is right. -/
import Derived.Test.YtmmbhmlhenpgbaaDoorRefRight
import Derived.Test.YtmmbhmlhenpgbaaDoorLedEnc
namespace Go.Proofs.YtmmbhmlhenpgbaaDoor
open Go.RowKit
open Led
set_option linter.unusedVariables false
set_option linter.unusedSimpArgs false
set_option maxRecDepth 100000
theorem vbytes_shape {base : Nat} {w : World} {v : Value} {l : List Int} (h : Owns base w v l) (hl : 1 ≤ l.length) : ∃ g cap, v = .slice (some ⟨g, 0, none⟩) l.length cap ∧ base ≤ g ∧ ∀ i, i < l.length → w.cell? ⟨g, 0 + i, none⟩ = some (.int .u8 (l.getD i 0)) := by
  rcases h.shape with ⟨_, rfl⟩ | ⟨g, cap, hv, hg, _, _, _, hc, _⟩
  · simp at hl
  · exact ⟨g, cap, hv, hg, fun i hi => by rw [Nat.zero_add]; exact hc i hi⟩
theorem vb_pos (u : Nat) : 1 ≤ (nums (Wire.vbytes u)).length := by rw [nums_length]; exact Wire.vbytes_pos u
theorem nums_add (l m : List UInt8) : nums (l ++ m) = nums l ++ nums m := by unfold nums; rw [List.map_append]
theorem nums_put2 (a b : Int) : nums (Wire.putInt a ++ Wire.putInt b) = nums (Wire.vbytes (Wire.zig a)) ++ nums (Wire.vbytes (Wire.zig b)) := by
  unfold nums Wire.putInt; rw [List.map_append]
theorem Held.app {w wr w' : World} {l m : List UInt8} {v v' : Value} (A : Held w l v wr) (h1 : Owns w.heap.size w' v' (nums l ++ nums m)) (h2 : Below w.heap.size wr w') : Held w (l ++ m) v' w' :=
  ⟨by rw [nums_add]; exact h1, A.bel.trans h2⟩
theorem Held.start {p : Post} {w wr w' : World} {v v' : Value} (A : Held w (Wire.putInt p.day ++ Wire.putInt p.id) v wr) (h1 : Owns w.heap.size w' v' (nums (Wire.putInt p.day ++ Wire.putInt p.id) ++ nums (Wire.vbytes (Wire.zig (p.legs.length : Int))))) (h2 : Below w.heap.size wr w') : Held w (hb p 3 ++ encLegs (p.legs.take 0)) v' w' := by
  have := Held.app (m := Wire.putInt p.legs.length) A h1 h2
  rw [List.take_zero]; unfold encLegs; rw [List.append_nil]
  simp only [hb, hv, List.nil_append]
  exact this
theorem nums_text (s : ByteArray) : nums (Wire.putText s.data.toList) = nums (Wire.vbytes (Wire.zig (s.size : Int))) ++ nums s.data.toList := by
  unfold nums Wire.putText Wire.putInt; rw [List.map_append, len_ba]
theorem cells3 {w : World} {b o : Nat} {x : Leg} {Q : Prop} (h : w.cell? ⟨b, o, none⟩ = some (.string x.party) ∧ w.cell? ⟨b, o + 1, none⟩ = some (.string x.cur) ∧ w.cell? ⟨b, o + 2, none⟩ = some (.int .i64 x.amount) ∧ Q) :
    w.cell? ⟨b, o, none⟩ = some (.string x.party) ∧ w.cell? ⟨b, o + 1, none⟩ = some (.string x.cur) ∧ w.cell? ⟨b, o + 2, none⟩ = some (.int .i64 x.amount) := ⟨h.1, h.2.1, h.2.2.1⟩
set_option maxHeartbeats 4000000 in
theorem refEncode_any (p : Post) (lv : Value) (w : World) (hl : LegsAt w lv p.legs) (hd : -9223372036854775808 ≤ p.day ∧ p.day ≤ 9223372036854775807) (hi' : -9223372036854775808 ≤ p.id ∧ p.id ≤ 9223372036854775807) :
    Calls Tryd.prog 12 #[.agg #[.int .i64 p.day, .int .i64 p.id, lv]] w (EncPost p w) := by
  have HRT := hid' (fun w' (hb : Below w.heap.size w w') => refRight_any p lv w' (hl.below hb) hd hi')
  cases hr : right p with
  | false =>
    have HE := hid' (encOf_no hr)
    rw [hr] at HRT
    clear hr
    go_enter Tryd.func12, Tryd.ntmps12
    go_wp2_with fail
    refine (HRT.out _ ((Below.refl _ _).alloc (Nat.le_refl _) _)).mono ?_
    rintro e w1 ⟨rfl, b1⟩
    go_wp2_with fail
    go_ret2
    exact ⟨.slice none 0 0, by rw [HE.out]; rfl, by rw [HE.out]; exact Owns.nil _ _, Below.more ((Below.refl _ _).alloc (Nat.le_refl _) _) b1⟩
  | true =>
    have HE := hid' (encOf_yes hr)
    have HP := hid' (right_parts hr)
    have HH := hid' (head_parts HP.out.1)
    have HF := hid' (show ∀ x ∈ p.legs, Fits x from fun x hx => legOk_fits (List.all_eq_true.1 HP.out.2.1 x hx))
    have n1 : p.legs.length ≤ 64 := HH.out.2.2.2.2.2
    rw [hr] at HRT
    rcases hl with ⟨rfl, h1⟩ | ⟨b, off, cap, rfl, h1, h2, h3, h4⟩
    · obtain ⟨_, _, _, _, n1, _⟩ := HH.out
      rw [h1] at n1; simp at n1
    · clear hr
      have HC := hid' h4
      clear h4
      have HM := hid' h2
      clear h2
      go_enter Tryd.func12, Tryd.ntmps12
      go_wp2_with fail
      refine (HRT.out _ ((Below.refl _ _).alloc (Nat.le_refl _) _)).mono ?_
      rintro e w1 ⟨rfl, b1⟩
      have b2 := Below.more ((Below.refl _ w).alloc (Nat.le_refl _) _) b1
      have k1 := keep_all b1 _ _ (new_cell (W := w) (t := 24) (xs := #[.int .i64 p.day, .int .i64 p.id, .slice (some ⟨b, off, none⟩) p.legs.length cap]) (b := w.heap.size) (o := 0) rfl rfl)
      have k2 := keep_all b1 _ _ (new_cell (W := w) (t := 24) (xs := #[.int .i64 p.day, .int .i64 p.id, .slice (some ⟨b, off, none⟩) p.legs.length cap]) (b := w.heap.size) (o := 1) rfl rfl)
      have k3 := keep_all b1 _ _ (new_cell (W := w) (t := 24) (xs := #[.int .i64 p.day, .int .i64 p.id, .slice (some ⟨b, off, none⟩) p.legs.length cap]) (b := w.heap.size) (o := 2) rfl rfl)
      have HB2 := hid' b2
      clear b1 b2
      go_wp2_with fail
      have HKB := hid' (fun (wx : World) (hbx : Below w1.heap.size w1 wx) => And.intro (keep_all hbx _ _ k1) (And.intro (keep_all hbx _ _ k2) (keep_all hbx _ _ k3)))
      have hbx := (Below.refl w1.heap.size w1).drew
      have HBND := hid' (show (nums (Wire.vbytes (Wire.zig p.day))).length + (nums (Wire.vbytes (Wire.zig p.id))).length ≤ 140737488355328 by
        have h1 := putInt_len p.day hd.1 hd.2
        have h2 := putInt_len p.id hi'.1 hi'.2
        unfold Wire.putInt at h1 h2
        rw [nums_length, nums_length]; omega)
      go_upto_region 4 with (fail)
      go_cut [5] (fun v wx => ∃ wn, wn = wx ∧ Below w1.heap.size w1 wn ∧ Owns w1.heap.size wn v (nums (Wire.putInt p.day ++ Wire.putInt p.id)))
      case first =>
        go_region_held3 (fun w' => w'.cell? ⟨w.heap.size, 0, none⟩ = some (.int .i64 p.day) ∧ w'.cell? ⟨w.heap.size, 1, none⟩ = some (.int .i64 p.id) ∧ Below w1.heap.size w1 w') (exact ⟨(HKB.out _ hbx).1, (HKB.out _ hbx).2.1, hbx⟩)
          (first | (go_at_call_of 30 (Value.int IntKind.i64 p.day); refine (refInt_any p.day _ hd.1 hd.2).mono ?_; rintro e w2 ⟨v1, rfl, o1, b1⟩; have hbx := Below.more hbx b1) | (go_at_call_of 30 (Value.int IntKind.i64 p.id); refine (refInt_any p.id _ hi'.1 hi'.2).mono ?_; rintro e w3 ⟨v2, rfl, o2, b2⟩; have o1 := o1.below b2; have hbx := Below.more hbx b2; obtain ⟨g2, c2, rfl, hg2, hc2⟩ := vbytes_shape o2 (vb_pos _)) | (refine step_bytes rfl _ _ (by rfl) w1.heap.size v1 _ (by rfl) o1 g2 0 _ c2 _ (by rfl) rfl hc2 HBND.out hbx.size ?_; intro v' w4 h5 h6; have hbx := Below.owned hbx h6 o1 hbx.size (Nat.le_refl _)))
        all_goals go_wp2_with fail
        all_goals go_meet
        all_goals exact ⟨_, rfl, hbx, by rw [nums_put2]; exact h5⟩
      case rest =>
        obtain ⟨w2, rfl, b2, o2⟩ := hcut
        have HA := hid' (show Held w1 (Wire.putInt p.day ++ Wire.putInt p.id) _ w2 from ⟨o2, b2⟩)
        have k4 := (HKB.out _ b2).2.2
        clear b2 o2 k1 k2 k3 hbx HBND
        go_wp2_with fail
        refine (refInt_any p.legs.length w2 (by omega) (by omega)).mono ?_
        rintro e w3 ⟨v3, rfl, o3, b3⟩
        have HA3 := hid' (Held.below HA.out b3)
        have HR3 := hid' o3.reads
        have HN := hid' (show (nums (Wire.putInt p.day ++ Wire.putInt p.id)).length + (nums (Wire.vbytes (Wire.zig (p.legs.length : Int)))).length ≤ 140737488355328 by
          have h1 := putInt_len p.day hd.1 hd.2
          have h2 := putInt_len p.id hi'.1 hi'.2
          have h3 := putInt_len p.legs.length (by omega) (by omega)
          unfold Wire.putInt at *
          rw [nums_length, nums_length, List.length_append]; omega)
        clear o3 b3 HA k4
        go_wp2_with (refine append_reads rfl _ _ rfl w1.heap.size _ _ rfl HA3.out.own _ HR3.out HN.out HA3.out.bel.size (fun v' w' h1 h2 h3 => ?_); refine halt' ?_)
        have HA4 := hid' (Held.start (p := p) HA3.out h1 h2)
        clear h1 h2 h3 HA3 HR3 HN
        refine hid' ?_
        go_wp2_with fail
        go_loopw [5, 6] (fun v iv wr => ∃ i : Nat, iv = .int .i64 (i : Int) ∧ i ≤ p.legs.length ∧ Hid (Held w1 (hb p 3 ++ encLegs (p.legs.take i)) v wr)) (fun _ iv _ => p.legs.length - (intOf iv).toNat)
        case atStart => exact ⟨0, rfl, by omega, HA4⟩
        case round =>
          obtain ⟨i, rfl, hin, HA⟩ := hrel
          have k4 := (HKB.out _ HA.out.bel).2.2
          by_cases hi : i < p.legs.length
          · obtain ⟨x, hx⟩ : ∃ x, p.legs[i]? = some x := ⟨_, List.getElem?_eq_getElem hi⟩
            have hfx := HF.out x (List.mem_of_getElem? hx)
            have HCX := hid' (fun (wx : World) (hbx : Below w1.heap.size w1 wx) => cells3 ((HC.out.below h3 (Below.more HB2.out hbx)) i x hx))
            have g0 : decide ((i : Int) < (p.legs.length : Int)) = true := by simp; omega
            have j1 : (0 : Int) ≤ (i : Int) := by omega
            have j2 : (i : Int) < (p.legs.length : Int) := by omega
            have HST := hid' (encLegs_step p.legs i x hx)
            have HLN := hid' (show (hb p 3 ++ encLegs (p.legs.take i)).length ≤ 6000 by
              have h5 := hb_len p 3 hd hi' n1 (by omega)
              have h6 := encLegs_len (p.legs.take i) (fun y hy => HF.out y (List.mem_of_mem_take hy))
              rw [List.length_append, List.length_take] at *; omega)
            have HFX := hid' hfx
            have x1 := (HCX.out _ HA.out.bel).1
            have hl1 := txt_len x.party hfx.party
            have hl2 := txt_len x.cur hfx.cur
            have hl3 := putInt_len x.amount hfx.lo hfx.hi
            have HL := hid' (And.intro hl1 (And.intro hl2 hl3))
            clear hx hfx hl1 hl2 hl3
            go_wp2_with fail
            refine (refText_any x.party wr (by have := HFX.out.party; omega)).mono ?_
            rintro e w3 ⟨v3, rfl, o3, b3⟩
            have HA3 := hid' (Held.below HA.out b3)
            have HR3 := hid' (show Reads w3 v3 (nums (Wire.putText x.party.data.toList)) by have := o3.reads; rwa [← nums_text] at this)
            have HN := hid' (show (nums (hb p 3 ++ encLegs (p.legs.take i))).length + (nums (Wire.putText x.party.data.toList)).length ≤ 140737488355328 by
              rw [nums_length, nums_length]; have := HLN.out; have := HL.out.1; omega)
            clear o3 b3 x1 k4
            go_wp2_with (refine append_reads rfl _ _ rfl w1.heap.size _ _ rfl HA3.out.own _ HR3.out HN.out HA3.out.bel.size (fun v' w' h1 h2 h3 => ?_); refine halt' ?_)
            have HA4 := hid' (Held.app HA3.out h1 h2)
            clear h1 h2 h3 HA3 HR3 HN
            have k4 := (HKB.out _ HA4.out.bel).2.2
            have x1 := (HCX.out _ HA4.out.bel).2.1
            refine hid' ?_
            go_wp2_with fail
            refine (refText_any x.cur w' (by have := HFX.out.cur; omega)).mono ?_
            rintro e w5 ⟨v5, rfl, o3, b3⟩
            have HA3 := hid' (Held.below HA4.out b3)
            have HR3 := hid' (show Reads w5 v5 (nums (Wire.putText x.cur.data.toList)) by have := o3.reads; rwa [← nums_text] at this)
            have HN := hid' (show (nums (hb p 3 ++ encLegs (p.legs.take i) ++ Wire.putText x.party.data.toList)).length + (nums (Wire.putText x.cur.data.toList)).length ≤ 140737488355328 by
              rw [nums_length, nums_length, List.length_append]; have := HLN.out; have := HL.out.1; have := HL.out.2.1; omega)
            clear o3 b3 x1 k4
            go_wp2_with (refine append_reads rfl _ _ rfl w1.heap.size _ _ rfl HA3.out.own _ HR3.out HN.out HA3.out.bel.size (fun v' w' h1 h2 h3 => ?_); refine halt' ?_)
            have HA5 := hid' (Held.app HA3.out h1 h2)
            clear h1 h2 h3 HA3 HR3 HN
            have k4 := (HKB.out _ HA5.out.bel).2.2
            have x1 := (HCX.out _ HA5.out.bel).2.2
            refine hid' ?_
            go_wp2_with fail
            rename_i w7
            refine (refInt_any x.amount _ HFX.out.lo HFX.out.hi).mono ?_
            rintro e w8 ⟨v8, rfl, o3, b3⟩
            have HA3 := hid' (Held.below HA5.out b3)
            have HR3 := hid' (show Reads w8 v8 (nums (Wire.putInt x.amount)) from o3.reads)
            have HN := hid' (show (nums (hb p 3 ++ encLegs (p.legs.take i) ++ Wire.putText x.party.data.toList ++ Wire.putText x.cur.data.toList)).length + (nums (Wire.putInt x.amount)).length ≤ 140737488355328 by
              rw [nums_length, nums_length, List.length_append, List.length_append]; have := HLN.out; have := HL.out.1; have := HL.out.2.1; have := HL.out.2.2; omega)
            clear o3 b3 x1 k4
            go_wp2_with (refine append_reads rfl _ _ rfl w1.heap.size _ _ rfl HA3.out.own _ HR3.out HN.out HA3.out.bel.size (fun v' w' h1 h2 h3 => ?_); refine halt' ?_)
            have HA6 := hid' (Held.leg (Held.app HA3.out h1 h2) HST.out)
            clear h1 h2 h3 HA3 HR3 HN
            refine hid' ?_
            go_wp2_with fail
            go_roundw
            case rel => exact ⟨i + 1, by go_num, by omega, HA6⟩
            case measure => simp [intOf]; omega
          · obtain rfl : i = p.legs.length := by omega
            have g9 : decide (p.legs.length < p.legs.length) = false := by simp
            clear hi
            rw [List.take_length, ← enc_is] at HA
            go_wp2_with fail
            go_ret2
            exact ⟨_, by rw [HE.out]; rfl, by rw [HE.out]; exact HA.out.own.mono HB2.out.size, Below.more HB2.out HA.out.bel⟩
end Go.Proofs.YtmmbhmlhenpgbaaDoor

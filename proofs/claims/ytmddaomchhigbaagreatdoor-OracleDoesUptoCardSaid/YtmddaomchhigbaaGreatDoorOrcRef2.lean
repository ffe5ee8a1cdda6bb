/- Proved: the reference's Encode, Sign, Decode as contracts. -/
import Derived.Test.YtmddaomchhigbaaGreatDoorOrcRead
namespace Go.Proofs.YtmddaomchhigbaaGreatDoor
open Go.RowKit
open Led Orc
set_option linter.unusedVariables false
set_option linter.unusedSimpArgs false
set_option maxRecDepth 100000
set_option maxHeartbeats 4000000 in
theorem refEncode_any (t : Orc.Tip) (w : World) (h : Orc.Fits t) :
    Calls Tryz.prog 11 #[.agg #[.string t.feed, .int .i64 t.day, .int .i64 t.n, .int .i64 t.seq, .string t.tag]] w (TipEnc t w) := by
  have HR := hid' (fun w' => refRight_any t w' (by have := h.feed; omega))
  have HF := hid' h
  have HSL := hid' (said_len h)
  have HTL := hid' h.tag
  have hts : (t.tag.size : Int) ≤ 10000000 := by have := h.tag; omega
  clear h
  cases hc : Orc.right t with
  | false =>
    have HE := hid' (Orc.encOf_no hc)
    rw [hc] at HR
    clear hc
    go_enter Tryz.func11, Tryz.ntmps11
    obtain ⟨c0, c1, c2, c3, c4, _⟩ := (TipBox.new w t).cells
    go_wp2_with fail
    refine (HR.out _).mono ?_
    rintro e w1 ⟨rfl, b1⟩
    go_wp2_with fail
    go_ret2
    exact ⟨.slice none 0 0, by rw [HE.out]; rfl, by rw [HE.out]; exact Owns.nil _ _, Below.more ((Below.refl _ _).alloc (Nat.le_refl _) _) b1⟩
  | true =>
    rw [hc] at HR
    have HE := hid' (Orc.encOf_yes hc)
    clear hc
    go_enter Tryz.func11, Tryz.ntmps11
    obtain ⟨c0, c1, c2, c3, c4, _⟩ := (TipBox.new w t).cells
    go_wp2_with fail
    refine (HR.out _).mono ?_
    rintro e w1 ⟨rfl, b1⟩
    have HBX := hid' ((TipBox.new w t).below b1)
    have HW1 := hid' (Below.more ((Below.refl _ w).alloc (Nat.le_refl _) _) b1)
    clear b1 c0 c1 c2 c3 c4
    obtain ⟨c0, c1, c2, c3, c4, _⟩ := HBX.out.cells
    have HKB := hid' (fun (wx : World) (hbx : Below w1.heap.size w1 wx) => (HBX.out.below hbx).cells)
    have hbx := (Below.refl w1.heap.size w1).drew
    go_upto_region 4 with (fail)
    go_region_held3 (fun w' => w'.cell? ⟨w.heap.size, 0, none⟩ = some (.string t.feed) ∧ w'.cell? ⟨w.heap.size, 1, none⟩ = some (.int .i64 t.day) ∧ w'.cell? ⟨w.heap.size, 2, none⟩ = some (.int .i64 t.n) ∧ w'.cell? ⟨w.heap.size, 3, none⟩ = some (.int .i64 t.seq) ∧ w'.cell? ⟨w.heap.size, 4, none⟩ = some (.string t.tag) ∧ Below w1.heap.size w1 w') (exact ⟨(HKB.out _ hbx).1, (HKB.out _ hbx).2.1, (HKB.out _ hbx).2.2.1, (HKB.out _ hbx).2.2.2.1, (HKB.out _ hbx).2.2.2.2.1, hbx⟩)
      (first | (go_at_call 33; refine (refSaid_any t _ HF.out).mono ?_; rintro e w2 ⟨v1, rfl, o1, b1⟩; have o1 := o1.mono hbx.size; have hbx := Below.more hbx b1) | (refine step_text rfl _ _ (by rfl) w1.heap.size v1 _ (by rfl) o1 t.tag (by rfl) (by have := HSL.out; have := HTL.out; omega) hbx.size ?_; intro v' w4 h5 h6; have hbx := Below.owned hbx h6 o1 hbx.size (Nat.le_refl _)))
    all_goals
      rw [enc_nums] at h5
      have HO := hid' (h5.mono HW1.out.size)
      have HB := hid' (Below.more HW1.out hbx)
      clear h5 h6 o1
      go_wp2_with fail
      go_ret2
      exact ⟨_, by rw [HE.out]; rfl, by rw [HE.out]; exact HO.out, HB.out⟩
set_option maxHeartbeats 4000000 in
theorem refSign_any (t : Orc.Tip) (key : ByteArray) (w : World) (h : Orc.Fits t) (hkl : key.size ≤ 10000000) :
    Calls Tryz.prog 15 #[.agg #[.string t.feed, .int .i64 t.day, .int .i64 t.n, .int .i64 t.seq, .string t.tag], .string key] w (Gives (.string (Orc.sign t key)) w) := by
  obtain ⟨dt, hdt⟩ : ∃ dt : ByteArray, dt = ⟨#[46, 46, 46, 46, 46, 46, 46, 46, 46, 46, 46, 46, 46, 46, 46, 46, 46, 46, 46, 46, 46, 46, 46, 46, 46, 46, 46, 46, 46, 46, 46, 46]⟩ := ⟨_, rfl⟩
  have hsz : dt.size = 32 := by rw [hdt]; rfl
  have hfu : Orc.Fits ⟨t.feed, t.day, t.n, t.seq, dt⟩ := ⟨h.feed, by show dt.size ≤ _; omega, h.day, h.n, h.seq⟩
  have hru : Orc.right ⟨t.feed, t.day, t.n, t.seq, dt⟩ = Orc.core t := by
    unfold Orc.right
    show (Orc.core t && decide (dt.size = 32)) = _
    rw [decide_eq_true hsz, Bool.and_true]
  have HR := hid' (fun w' => refRight_any ⟨t.feed, t.day, t.n, t.seq, dt⟩ w' (by have := hfu.feed; omega))
  rw [hru] at HR
  have HF := hid' hfu
  have HSA := hid' (fun w' => refSaid_any ⟨t.feed, t.day, t.n, t.seq, dt⟩ w' hfu)
  rw [show Orc.said ⟨t.feed, t.day, t.n, t.seq, dt⟩ = Orc.said t from rfl] at HSA
  have HSL := hid' (said_len h)
  have HKL := hid' hkl
  have HB1 := hid' (TipBox.new w ⟨t.feed, t.day, t.n, t.seq, dt⟩)
  have HW1 := hid' (show Below w.heap.size w (w.alloc (.cells #[.string t.feed, .int .i64 t.day, .int .i64 t.n, .int .i64 t.seq, .string dt] 23)) from (Below.refl _ _).alloc (Nat.le_refl _) _)
  clear h hkl hfu hru hsz
  cases hc : Orc.core t with
  | false =>
    rw [Orc.sign_no hc key]
    rw [hc] at HR
    clear hc
    go_enter Tryz.func15, Tryz.ntmps15
    go_upto_region 2 with (fail)
    rw [← hdt]
    clear hdt
    generalize w.alloc (.cells #[.string t.feed, .int .i64 t.day, .int .i64 t.n, .int .i64 t.seq, .string dt] 23) = W1 at *
    obtain ⟨c0, c1, c2, c3, c4, _⟩ := HB1.out.cells
    go_wp2_with fail
    refine (HR.out _).mono ?_
    rintro e w1 ⟨rfl, b1⟩
    go_wp2_with fail
    go_ret
    exact ⟨rfl, Below.more HW1.out b1⟩
  | true =>
    have HE := hid' (Orc.sign_yes hc key)
    rw [hc] at HR
    clear hc
    go_enter Tryz.func15, Tryz.ntmps15
    go_upto_region 2 with (fail)
    rw [← hdt]
    clear hdt
    generalize w.alloc (.cells #[.string t.feed, .int .i64 t.day, .int .i64 t.n, .int .i64 t.seq, .string dt] 23) = W1 at *
    obtain ⟨c0, c1, c2, c3, c4, _⟩ := HB1.out.cells
    go_wp2_with fail
    refine (HR.out _).mono ?_
    rintro e w2 ⟨rfl, b1⟩
    have HB2 := hid' (HB1.out.below b1)
    have HW2 := hid' (Below.more HW1.out b1)
    clear b1 c0 c1 c2 c3 c4
    obtain ⟨c0, c1, c2, c3, c4, _⟩ := HB2.out.cells
    go_wp2_with fail
    refine (HSA.out _).mono ?_
    rintro e w3 ⟨v1, rfl, o1, b1⟩
    have HRT := hid' (reftag_any w3 key v1 (nums (Orc.said t)) o1.reads (by have := HSL.out; omega) (fun x hx => by
      unfold nums at hx
      obtain ⟨c, _, rfl⟩ := List.mem_map.1 hx
      have := c.toNat_lt
      omega) HKL.out)
    have HW3 := hid' (Below.more HW2.out b1)
    clear b1 c0 c1 c2 c3 c4 o1
    go_wp2_with fail
    refine HRT.out.mono ?_
    rintro e w4 ⟨v2, rfl, b2, o2⟩
    have hcv := o2.conv
    rw [← HE.out] at hcv
    have HW4 := hid' (Below.more HW3.out b2)
    clear b2 o2
    go_wp2_with fail
    go_ret
    exact ⟨rfl, HW4.out⟩
/-- Between the steps of the reference's Decode. -/
structure RfAt (w : World) (rb : Nat) (W : World) : Prop where
  bel : Below w.heap.size w W
  kr : W.heap[rb]? = some (.cells #[.string ⟨#[]⟩, .int .i64 0, .int .i64 0, .int .i64 0, .string ⟨#[]⟩] 23 (0, 0))
  lo : w.heap.size ≤ rb
theorem RfAt.below {w : World} {rb : Nat} {W W' : World} (h : RfAt w rb W) (B : Below W.heap.size W W') : RfAt w rb W' := ⟨Below.more h.bel B, block_kept B h.kr, h.lo⟩
theorem RfAt.cells {w : World} {rb : Nat} {W : World} (h : RfAt w rb W) : W.cell? ⟨rb, 0, none⟩ = some (.string ⟨#[]⟩) ∧ W.cell? ⟨rb, 1, none⟩ = some (.int .i64 0) ∧ W.cell? ⟨rb, 2, none⟩ = some (.int .i64 0) ∧ W.cell? ⟨rb, 3, none⟩ = some (.int .i64 0) ∧ W.cell? ⟨rb, 4, none⟩ = some (.string ⟨#[]⟩) ∧
    W.frozen? ⟨rb, 0, none⟩ = false ∧ W.frozen? ⟨rb, 1, none⟩ = false ∧ W.frozen? ⟨rb, 2, none⟩ = false ∧ W.frozen? ⟨rb, 3, none⟩ = false ∧ W.frozen? ⟨rb, 4, none⟩ = false := by
  obtain ⟨c, f⟩ := block_cells h.kr
  exact ⟨c 0 _ rfl, c 1 _ rfl, c 2 _ rfl, c 3 _ rfl, c 4 _ rfl, f 0, f 1, f 2, f 3, f 4⟩
theorem rf_bad {w : World} {rb : Nat} {W : World} {l : List UInt8} (h : RfAt w rb W) (hd : Orc.dec l = none) (x0 x1 x2 x3 x4 : Value) :
    TipDec l w (.returned (.tuple #[.agg #[.string ⟨#[]⟩, .int .i64 0, .int .i64 0, .int .i64 0, .string ⟨#[]⟩], .int .i64 210])) (((((W.setCell ⟨rb, 0, none⟩ x0).setCell ⟨rb, 1, none⟩ x1).setCell ⟨rb, 2, none⟩ x2).setCell ⟨rb, 3, none⟩ x3).setCell ⟨rb, 4, none⟩ x4) :=
  ⟨by unfold decTip decCode; rw [hd]; rfl, five_below h.bel h.lo _ _ _ _ _⟩
theorem rf_good {w : World} {rb : Nat} {W : World} {l : List UInt8} {t : Orc.Tip} (h : RfAt w rb W) (hd : Orc.dec l = some t) (x0 x1 x2 x3 x4 : Value) :
    TipDec l w (.returned (.tuple #[.agg #[.string t.feed, .int .i64 t.day, .int .i64 t.n, .int .i64 t.seq, .string t.tag], .int .i64 0])) (((((W.setCell ⟨rb, 0, none⟩ x0).setCell ⟨rb, 1, none⟩ x1).setCell ⟨rb, 2, none⟩ x2).setCell ⟨rb, 3, none⟩ x3).setCell ⟨rb, 4, none⟩ x4) :=
  ⟨by unfold decTip decCode; rw [hd]; rfl, five_below h.bel h.lo _ _ _ _ _⟩
set_option maxHeartbeats 4000000 in
theorem refDecode_any (v0 : Value) (l : List UInt8) (w : World) (h : Reads w v0 (nums l)) (hl : l.length ≤ 100000000) :
    Calls Tryz.prog 13 #[v0] w (TipDec l w) := by
  have HTI := hid' (fun (a : Nat) (W : World) (hb : Below w.heap.size w W) => refTakeInt_any v0 l (a : Int) W (h.below hb) (by omega))
  have HTT := hid' (show ∀ (W : World), Below w.heap.size w W → Calls Tryz.prog 36 #[v0, .int .i64 1, .int .i64 24] W (Gives (.tuple #[.string (txtV l 1), .int .i64 (txtN l 1 : Int), .bool (txtOk l 1)]) W) from fun W hb => by
    have := refTakeText_any v0 l ((1 : Nat) : Int) 24 W (h.below hb) (by omega) (by omega)
    rw [takenS_is] at this
    exact this)
  simp only [takenI_is] at HTI
  have HR := hid' (fun (W : World) (hb : Below w.heap.size w W) => h.below hb)
  obtain ⟨p0, c0, rfl⟩ := h.len
  rw [nums_length] at *
  have HLL := hid' hl
  have l2 : (l.length : Int) ≤ 100000000 := by omega
  have HA0 := hid' (show RfAt w w.heap.size (w.alloc (.cells #[.string ⟨#[]⟩, .int .i64 0, .int .i64 0, .int .i64 0, .string ⟨#[]⟩] 23)) from ⟨(Below.refl _ _).alloc (Nat.le_refl _) _, heap_alloc_new _ _, Nat.le_refl _⟩)
  clear h hl
  go_enter Tryz.func13, Tryz.ntmps13
  go_upto_region 1 with (fail)
  obtain ⟨rb, hrb⟩ : ∃ rb, rb = w.heap.size := ⟨_, rfl⟩
  have HA := hid' (show RfAt w rb (w.alloc (.cells #[.string ⟨#[]⟩, .int .i64 0, .int .i64 0, .int .i64 0, .string ⟨#[]⟩] 23)) by rw [hrb]; exact HA0.out)
  rw [← hrb]
  clear hrb HA0
  generalize w.alloc (.cells #[.string ⟨#[]⟩, .int .i64 0, .int .i64 0, .int .i64 0, .string ⟨#[]⟩] 23) = w1 at *
  obtain ⟨r0, r1, r2, r3, r4, f0, f1, f2, f3, f4⟩ := HA.out.cells
  by_cases h0 : l.length = 0
  · have g0 : ((l.length : Int) == 0) = true := by rw [beq_iff_eq]; omega
    have HD := hid' (dec_no_head (l := l) (by rw [List.length_eq_zero_iff.1 h0]; simp))
    clear h0
    go_wp2_with fail
    refine bodyPost_ret (v := .tuple #[.agg #[.string ⟨#[]⟩, .int .i64 0, .int .i64 0, .int .i64 0, .string ⟨#[]⟩], .int .i64 210]) ?_ rfl ?_
    · simp [results, Tryz.results13, go_sem, r0, r1, r2, r3, r4]
    · exact rf_bad HA.out HD.out _ _ _ _ _
  · have g0 : ((l.length : Int) == 0) = false := by rw [beq_eq_false_iff_ne]; omega
    obtain ⟨bb, off, hp, hb, hcell⟩ := Reads.cellAt (HR.out w1 HA.out.bel) 0 (by omega)
    subst hp
    have j2 : (0 : Int) < (l.length : Int) := by omega
    rw [Nat.add_zero] at hcell
    have hhead : l.head? = some (l.getD 0 0) := by
      cases l with
      | nil => exact absurd rfl h0
      | cons c r => rfl
    obtain ⟨x, hx⟩ : ∃ x : UInt8, x = l.getD 0 0 := ⟨_, rfl⟩
    rw [← hx] at hcell hhead
    have HH := hid' hhead
    clear h0 hb hx hhead
    by_cases h84 : x = 84
    · subst h84
      replace hcell : w1.cell? ⟨bb, off, none⟩ = some (.int .u8 84) := hcell
      go_wp2_with fail
      refine (HTT.out w1 HA.out.bel).mono ?_
      rintro e w2 ⟨rfl, b2⟩
      rw [show txtN l 1 = rdA l 0 from rfl, show txtOk l 1 = rdK l 0 from rfl]
      have HA2 := hid' (HA.out.below b2)
      clear b2 hcell r0 r1 r2 r3 r4 f0 f1 f2 f3 f4 HA
      obtain ⟨r0, r1, r2, r3, r4, f0, f1, f2, f3, f4⟩ := HA2.out.cells
      cases hk0 : rdK l 0 with
      | false =>
        have HD := hid' (dec_no_ok (i := 0) (by omega) hk0)
        clear hk0
        go_wp2_with fail
        refine bodyPost_ret (v := .tuple #[.agg #[.string ⟨#[]⟩, .int .i64 0, .int .i64 0, .int .i64 0, .string ⟨#[]⟩], .int .i64 210]) ?_ rfl ?_
        · simp [results, Tryz.results13, go_sem, r0, r1, r2, r3, r4]
        · exact rf_bad HA2.out HD.out _ _ _ _ _
      | true =>
        go_wp2_with fail
        refine (HTI.out (rdA l 0) _ HA2.out.bel).mono ?_
        rintro e wk0 ⟨rfl, b2⟩
        rw [show numV l (rdA l 0) = rdV l 0 from rfl, show numN l (rdA l 0) = rdA l 1 from rfl, show numOk l (rdA l 0) = rdK l 1 from rfl]
        have HB0 := hid' (HA2.out.below b2)
        clear b2 r0 r1 r2 r3 r4 f0 f1 f2 f3 f4 HA2
        obtain ⟨r0, r1, r2, r3, r4, f0, f1, f2, f3, f4⟩ := HB0.out.cells
        cases hk1 : rdK l 1 with
        | false =>
          have HD := hid' (dec_no_ok (i := 1) (by omega) hk1)
          clear hk1
          go_wp2_with fail
          refine bodyPost_ret (v := .tuple #[.agg #[.string ⟨#[]⟩, .int .i64 0, .int .i64 0, .int .i64 0, .string ⟨#[]⟩], .int .i64 210]) ?_ rfl ?_
          · simp [results, Tryz.results13, go_sem, r0, r1, r2, r3, r4]
          · exact rf_bad HB0.out HD.out _ _ _ _ _
        | true =>
          go_wp2_with fail
          refine (HTI.out (rdA l 1) _ HB0.out.bel).mono ?_
          rintro e wk1 ⟨rfl, b2⟩
          rw [show numV l (rdA l 1) = rdV l 1 from rfl, show numN l (rdA l 1) = rdA l 2 from rfl, show numOk l (rdA l 1) = rdK l 2 from rfl]
          have HB1 := hid' (HB0.out.below b2)
          clear b2 r0 r1 r2 r3 r4 f0 f1 f2 f3 f4 HB0
          obtain ⟨r0, r1, r2, r3, r4, f0, f1, f2, f3, f4⟩ := HB1.out.cells
          cases hk2 : rdK l 2 with
          | false =>
            have HD := hid' (dec_no_ok (i := 2) (by omega) hk2)
            clear hk2
            go_wp2_with fail
            refine bodyPost_ret (v := .tuple #[.agg #[.string ⟨#[]⟩, .int .i64 0, .int .i64 0, .int .i64 0, .string ⟨#[]⟩], .int .i64 210]) ?_ rfl ?_
            · simp [results, Tryz.results13, go_sem, r0, r1, r2, r3, r4]
            · exact rf_bad HB1.out HD.out _ _ _ _ _
          | true =>
            go_wp2_with fail
            refine (HTI.out (rdA l 2) _ HB1.out.bel).mono ?_
            rintro e wk2 ⟨rfl, b2⟩
            rw [show numV l (rdA l 2) = rdV l 2 from rfl, show numN l (rdA l 2) = rdA l 3 from rfl, show numOk l (rdA l 2) = rdK l 3 from rfl]
            have HB2 := hid' (HB1.out.below b2)
            clear b2 r0 r1 r2 r3 r4 f0 f1 f2 f3 f4 HB1
            obtain ⟨r0, r1, r2, r3, r4, f0, f1, f2, f3, f4⟩ := HB2.out.cells
            cases hk3 : rdK l 3 with
            | false =>
              have HD := hid' (dec_no_ok (i := 3) (by omega) hk3)
              clear hk3
              go_wp2_with fail
              refine bodyPost_ret (v := .tuple #[.agg #[.string ⟨#[]⟩, .int .i64 0, .int .i64 0, .int .i64 0, .string ⟨#[]⟩], .int .i64 210]) ?_ rfl ?_
              · simp [results, Tryz.results13, go_sem, r0, r1, r2, r3, r4]
              · exact rf_bad HB2.out HD.out _ _ _ _ _
            | true =>
              have HSP := hid' (dec_all HH.out (fun i hi => by
                rcases (by omega : i = 0 ∨ i = 1 ∨ i = 2 ∨ i = 3) with rfl | rfl | rfl | rfl <;> assumption))
              have hle := rdA_le hk3
              have HCV := hid' (fun (W : World) (hb : Below w.heap.size w W) => tail_conv (HR.out W hb) (rdA l 3) hle)
              have hle1 : (rdA l 3 : Int) ≤ (l.length : Int) := by omega
              have hle0 : (0 : Int) ≤ (rdA l 3 : Int) := by omega
              clear hk0 hk1 hk2 hk3 hle
              by_cases hci : c0 = rdA l 3
              · subst hci
                have hcv2 : (convert 24 9 (.slice (some ⟨bb, off, none⟩) (l.length - rdA l 3) 0)).run Tryz.prog wk2 = .ok (.string ⟨(l.drop (rdA l 3)).toArray⟩) wk2 := by
                  have := HCV.out wk2 HB2.out.bel
                  rw [if_pos rfl, Nat.sub_self] at this
                  exact this
                have HW9 := hid' (HB2.out.below ((Below.refl _ _).alloc (Nat.le_refl _) (.cells #[.string (txtV l 1), .int .i64 (rdV l 0), .int .i64 (rdV l 1), .int .i64 (rdV l 2), .string ⟨(l.drop (rdA l 3)).toArray⟩] 23)))
                have HT9 := hid' (show TipBox (wk2.alloc (.cells #[.string (txtV l 1), .int .i64 (rdV l 0), .int .i64 (rdV l 1), .int .i64 (rdV l 2), .string ⟨(l.drop (rdA l 3)).toArray⟩] 23)) wk2.heap.size (rdTip l) from heap_alloc_new wk2 _)
                clear r0 r1 r2 r3 r4 f0 f1 f2 f3 f4
                go_upto_region 16 with (fail)
                generalize wk2.alloc (.cells #[.string (txtV l 1), .int .i64 (rdV l 0), .int .i64 (rdV l 1), .int .i64 (rdV l 2), .string ⟨(l.drop (rdA l 3)).toArray⟩] 23) = w5 at *
                obtain ⟨t0, t1, t2, t3, t4, _⟩ := HT9.out.cells
                have HRG := hid' (refRight_any (rdTip l) w5 (by have := txtV_len l 1; show (txtV l 1).size ≤ _; omega))
                clear hcv2
                go_wp2_with fail
                refine HRG.out.mono ?_
                rintro e w6 ⟨rfl, b6⟩
                have HRA6 := hid' (HW9.out.below b6)
                have HTB6 := hid' (HT9.out.below b6)
                clear b6 t0 t1 t2 t3 t4 HRG
                obtain ⟨t0, t1, t2, t3, t4, _⟩ := HTB6.out.cells
                obtain ⟨r0, r1, r2, r3, r4, f0, f1, f2, f3, f4⟩ := HRA6.out.cells
                cases hc : Orc.right (rdTip l) with
                | false =>
                  have HD := hid' (dec_bad HSP.out hc)
                  clear hc
                  go_wp2_with fail
                  refine bodyPost_ret (v := .tuple #[.agg #[.string ⟨#[]⟩, .int .i64 0, .int .i64 0, .int .i64 0, .string ⟨#[]⟩], .int .i64 210]) ?_ rfl ?_
                  · simp [results, Tryz.results13, go_sem, r0, r1, r2, r3, r4]
                  · exact rf_bad HRA6.out HD.out _ _ _ _ _
                | true =>
                  have HD := hid' (dec_good HSP.out hc)
                  clear hc
                  go_wp2_with fail
                  refine bodyPost_ret (v := .tuple #[.agg #[.string (rdTip l).feed, .int .i64 (rdTip l).day, .int .i64 (rdTip l).n, .int .i64 (rdTip l).seq, .string (rdTip l).tag], .int .i64 0]) ?_ rfl ?_
                  · simp [results, Tryz.results13, go_sem, r0, r1, r2, r3, r4]
                  · exact rf_good HRA6.out HD.out _ _ _ _ _
              · have hcv2 : (convert 24 9 (.slice (some ⟨bb, off + rdA l 3, none⟩) (l.length - rdA l 3) (c0 - rdA l 3))).run Tryz.prog wk2 = .ok (.string ⟨(l.drop (rdA l 3)).toArray⟩) wk2 := by
                  have := HCV.out wk2 HB2.out.bel
                  rw [if_neg hci] at this
                  simpa [add_gen] using this
                have HW9 := hid' (HB2.out.below ((Below.refl _ _).alloc (Nat.le_refl _) (.cells #[.string (txtV l 1), .int .i64 (rdV l 0), .int .i64 (rdV l 1), .int .i64 (rdV l 2), .string ⟨(l.drop (rdA l 3)).toArray⟩] 23)))
                have HT9 := hid' (show TipBox (wk2.alloc (.cells #[.string (txtV l 1), .int .i64 (rdV l 0), .int .i64 (rdV l 1), .int .i64 (rdV l 2), .string ⟨(l.drop (rdA l 3)).toArray⟩] 23)) wk2.heap.size (rdTip l) from heap_alloc_new wk2 _)
                clear r0 r1 r2 r3 r4 f0 f1 f2 f3 f4
                go_upto_region 16 with (fail)
                generalize wk2.alloc (.cells #[.string (txtV l 1), .int .i64 (rdV l 0), .int .i64 (rdV l 1), .int .i64 (rdV l 2), .string ⟨(l.drop (rdA l 3)).toArray⟩] 23) = w5 at *
                obtain ⟨t0, t1, t2, t3, t4, _⟩ := HT9.out.cells
                have HRG := hid' (refRight_any (rdTip l) w5 (by have := txtV_len l 1; show (txtV l 1).size ≤ _; omega))
                clear hcv2
                go_wp2_with fail
                refine HRG.out.mono ?_
                rintro e w6 ⟨rfl, b6⟩
                have HRA6 := hid' (HW9.out.below b6)
                have HTB6 := hid' (HT9.out.below b6)
                clear b6 t0 t1 t2 t3 t4 HRG
                obtain ⟨t0, t1, t2, t3, t4, _⟩ := HTB6.out.cells
                obtain ⟨r0, r1, r2, r3, r4, f0, f1, f2, f3, f4⟩ := HRA6.out.cells
                cases hc : Orc.right (rdTip l) with
                | false =>
                  have HD := hid' (dec_bad HSP.out hc)
                  clear hc
                  go_wp2_with fail
                  refine bodyPost_ret (v := .tuple #[.agg #[.string ⟨#[]⟩, .int .i64 0, .int .i64 0, .int .i64 0, .string ⟨#[]⟩], .int .i64 210]) ?_ rfl ?_
                  · simp [results, Tryz.results13, go_sem, r0, r1, r2, r3, r4]
                  · exact rf_bad HRA6.out HD.out _ _ _ _ _
                | true =>
                  have HD := hid' (dec_good HSP.out hc)
                  clear hc
                  go_wp2_with fail
                  refine bodyPost_ret (v := .tuple #[.agg #[.string (rdTip l).feed, .int .i64 (rdTip l).day, .int .i64 (rdTip l).n, .int .i64 (rdTip l).seq, .string (rdTip l).tag], .int .i64 0]) ?_ rfl ?_
                  · simp [results, Tryz.results13, go_sem, r0, r1, r2, r3, r4]
                  · exact rf_good HRA6.out HD.out _ _ _ _ _
    · have hx2 := x.toNat_lt
      have g1 : ((x.toNat : Int) != 84) = true := by
        rw [bne_iff_ne]; intro e; apply h84
        apply UInt8.toNat_inj.1
        show x.toNat = 84
        omega
      have HD := hid' (dec_no_head (l := l) (by rw [HH.out]; intro e; exact h84 (Option.some.inj e)))
      clear h84
      go_wp2_with fail
      refine bodyPost_ret (v := .tuple #[.agg #[.string ⟨#[]⟩, .int .i64 0, .int .i64 0, .int .i64 0, .string ⟨#[]⟩], .int .i64 210]) ?_ rfl ?_
      · simp [results, Tryz.results13, go_sem, r0, r1, r2, r3, r4]
      · exact rf_bad HA.out HD.out _ _ _ _ _
set_option maxHeartbeats 2000000 in
theorem refDecode_any0 (v0 : Value) (l : List UInt8) (w : World) (h : Reads0 w v0 l) (hl : l.length ≤ 100000000) :
    Calls Tryz.prog 13 #[v0] w (TipDec l w) := by
  rcases h with h | ⟨rfl, p0, rfl⟩
  · exact refDecode_any v0 l w h hl
  have HA0 := hid' (show RfAt w w.heap.size (w.alloc (.cells #[.string ⟨#[]⟩, .int .i64 0, .int .i64 0, .int .i64 0, .string ⟨#[]⟩] 23)) from ⟨(Below.refl _ _).alloc (Nat.le_refl _) _, heap_alloc_new _ _, Nat.le_refl _⟩)
  clear hl
  go_enter Tryz.func13, Tryz.ntmps13
  go_upto_region 1 with (fail)
  obtain ⟨rb, hrb⟩ : ∃ rb, rb = w.heap.size := ⟨_, rfl⟩
  have HA := hid' (show RfAt w rb (w.alloc (.cells #[.string ⟨#[]⟩, .int .i64 0, .int .i64 0, .int .i64 0, .string ⟨#[]⟩] 23)) by rw [hrb]; exact HA0.out)
  rw [← hrb]
  clear hrb HA0
  generalize w.alloc (.cells #[.string ⟨#[]⟩, .int .i64 0, .int .i64 0, .int .i64 0, .string ⟨#[]⟩] 23) = w1 at *
  obtain ⟨r0, r1, r2, r3, r4, f0, f1, f2, f3, f4⟩ := HA.out.cells
  · have HD := hid' (dec_no_head (l := []) (by simp))
    go_wp2_with fail
    refine bodyPost_ret (v := .tuple #[.agg #[.string ⟨#[]⟩, .int .i64 0, .int .i64 0, .int .i64 0, .string ⟨#[]⟩], .int .i64 210]) ?_ rfl ?_
    · simp [results, Tryz.results13, go_sem, r0, r1, r2, r3, r4]
    · exact rf_bad HA.out HD.out _ _ _ _ _
end Go.Proofs.YtmddaomchhigbaaGreatDoor

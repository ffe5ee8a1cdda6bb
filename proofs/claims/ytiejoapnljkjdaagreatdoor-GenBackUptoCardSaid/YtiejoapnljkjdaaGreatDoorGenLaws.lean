/- Proved: GenRights, GenBytes, GenBack answer yes, at every input as it is read. -/
import Derived.Test.YtiejoapnljkjdaaGreatDoorGenShow4
import Derived.Test.YtiejoapnljkjdaaGreatDoorGenSame
import Derived.Deep.DeepCutAuto
namespace Go.Proofs.YtiejoapnljkjdaaGreatDoor
open Go.RowKit
set_option linter.unusedVariables false
set_option linter.unusedSimpArgs false
set_option maxRecDepth 100000
set_option maxHeartbeats 4000000 in
theorem law_rights (v : Value) (c : Gen.Cd) (w : World) (h : CdAt w v c) : Calls Tryz.prog 3 #[v] w (True1 w) := by
  have hcd := h
  obtain ⟨vw, vi, rfl, ⟨pw, cw, rfl, ⟨hw1, hw2⟩, -⟩, ⟨pi, ci, rfl, ⟨hi1, hi2⟩, -⟩, hr⟩ := h
  have B0 := (Below.refl w.heap.size w).alloc (Nat.le_refl _) (.cells #[.int .i64 c.regs, .slice pw c.waits.length cw, .slice pi c.ins.length ci] 25)
  have HS := hid' (show RSt w w.heap.size _ _ c _ from ⟨B0, heap_alloc_new w _, hcd.below B0⟩)
  clear hcd B0
  obtain ⟨ok, hok⟩ : ∃ ok, Hid (Gen.right c = ok) := ⟨_, hid' rfl⟩
  have HS0 := hid' (shown_any (w.alloc (.cells #[.int .i64 c.regs, .slice pw c.waits.length cw, .slice pi c.ins.length ci] 25)))
  go_enter Tryz.func3, Tryz.ntmps3
  go_wp2_with fail
  refine HS0.out.mono ?_
  rintro e w1 ⟨rfl, b1⟩
  have H1 := hid' (HS.out.below b1)
  have c0 := bcells H1.out.cb 0 _ rfl
  have c1 := bcells H1.out.cb 1 _ rfl
  have c2 := bcells H1.out.cb 2 _ rfl
  have HR := hid' (refRight_any _ c w1 H1.out.cd)
  rw [hok.out] at HR
  clear b1 HS HS0
  go_wp2_with fail
  refine HR.out.mono ?_
  rintro e w2 ⟨rfl, b2⟩
  have H2 := hid' (H1.out.below b2)
  clear c0 c1 c2 b2 HR H1
  have c0 := bcells H2.out.cb 0 _ rfl
  have c1 := bcells H2.out.cb 1 _ rfl
  have c2 := bcells H2.out.cb 2 _ rfl
  have HE := hid' (encode_any _ c w2 H2.out.cd)
  unfold GenEncPost at HE
  rw [hok.out] at HE
  go_wp2_with fail
  refine HE.out.mono ?_
  rintro e w3 ⟨va, rfl, hra, b3⟩
  have H3 := hid' (H2.out.below b3)
  clear c0 c1 c2 b3 HE H2
  have c0 := bcells H3.out.cb 0 _ rfl
  have c1 := bcells H3.out.cb 1 _ rfl
  have c2 := bcells H3.out.cb 2 _ rfl
  have HF := hid' (refEncode_any _ c w3 H3.out.cd)
  unfold GenEncPost at HF
  rw [hok.out] at HF
  have HRA := hid' hra
  clear hra
  go_wp2_with fail
  refine HF.out.mono ?_
  rintro e w4 ⟨vb, rfl, hrb, b4⟩
  have H4 := hid' (And.intro (H3.out.below b4) (And.intro (HRA.out.below b4) hrb))
  clear c0 c1 c2 b4 HF H3 HRA hrb
  have c0 := bcells H4.out.1.cb 0 _ rfl
  have c1 := bcells H4.out.1.cb 1 _ rfl
  have c2 := bcells H4.out.1.cb 2 _ rfl
  have HG := hid' (genRight_any _ c w4 H4.out.1.cd)
  rw [hok.out] at HG
  generalize (bif ok then Gen.enc c else []) = out at *
  cases ok with
  | false =>
    go_wp2_with fail
    refine HG.out.mono ?_
    rintro e w5 ⟨rfl, b5⟩
    have H5 := hid' (And.intro (H4.out.1.below b5) (And.intro (H4.out.2.1.below b5) (H4.out.2.2.below b5)))
    clear c0 c1 c2 b5 HG H4
    have c0 := bcells H5.out.1.cb 0 _ rfl
    have c1 := bcells H5.out.1.cb 1 _ rfl
    have c2 := bcells H5.out.1.cb 2 _ rfl
    have HU := hid' (fuel_any _ c w5 H5.out.1.cd)
    rw [hok.out] at HU
    go_wp2_with fail
    refine HU.out.mono ?_
    rintro e w6 ⟨rfl, b6⟩
    have hca := (H5.out.2.1.below b6).conv
    have hcb := (H5.out.2.2.below b6).conv
    have H6 := hid' (H5.out.1.below b6)
    clear c0 c1 c2 b6 HU H5
    go_wp2_with fail
    go_ret
    exact ⟨rfl, H6.out.bel⟩
  | true =>
    go_wp2_with fail
    refine HG.out.mono ?_
    rintro e w5 ⟨rfl, b5⟩
    have H5 := hid' (And.intro (H4.out.1.below b5) (And.intro (H4.out.2.1.below b5) (H4.out.2.2.below b5)))
    clear c0 c1 c2 b5 HG H4
    have c0 := bcells H5.out.1.cb 0 _ rfl
    have c1 := bcells H5.out.1.cb 1 _ rfl
    have c2 := bcells H5.out.1.cb 2 _ rfl
    have HU := hid' (fuel_any _ c w5 H5.out.1.cd)
    rw [hok.out] at HU
    go_wp2_with fail
    refine HU.out.mono ?_
    rintro e w6 ⟨rfl, b6⟩
    have hca := (H5.out.2.1.below b6).conv
    have hcb := (H5.out.2.2.below b6).conv
    have H6 := hid' (H5.out.1.below b6)
    clear c0 c1 c2 b6 HU H5
    go_wp2_with fail
    go_ret
    exact ⟨rfl, H6.out.bel⟩
/-- A bytecode that a call handed over, stored in a box. -/
theorem cd_parts {W : World} {u : Value} {c : Gen.Cd} (h : CdAt W u c) : ∃ pw nw cw pi ni ci, u = .agg #[.int .i64 c.regs, .slice pw nw cw, .slice pi ni ci] := by
  obtain ⟨vw, vi, rfl, ⟨pw, cw, rfl, -, -⟩, ⟨pi, ci, rfl, -, -⟩, -⟩ := h
  exact ⟨_, _, _, _, _, _, rfl⟩
set_option maxHeartbeats 4000000 in
theorem law_bytes (v : Value) (l : List UInt8) (w : World) (hv : Reads w v (nums l)) (hl : l.length ≤ 140737488355300) : Calls Tryz.prog 4 #[v] w (True1 w) := by
  have HS0 := hid' (shown_any w)
  have HV := hid' (fun (W : World) (b : Below w.heap.size w W) => hv.below b)
  have HL := hid' hl
  obtain ⟨p, c, rfl⟩ := hv.len
  clear hv hl
  go_enter Tryz.func4, Tryz.ntmps4
  go_wp2_with fail
  refine HS0.out.mono ?_
  rintro e w1 ⟨rfl, b1⟩
  have HD := hid' (decode_any _ l w1 (HV.out _ b1) HL.out)
  have H1 := hid' b1
  unfold GenDecPost at HD
  clear b1 HS0
  go_wp2_with fail
  refine HD.out.mono ?_
  rintro e w2 ⟨u, rfl, hu, b2⟩
  have HR := hid' (fun W b => refDecode_any _ l W (HV.out W b) HL.out)
  unfold GenDecPost at HR
  generalize Gen.dec 172 170 l = dd at *
  obtain ⟨cd, at', code⟩ := dd
  obtain ⟨pw, nw, cw, pi, ni, ci, rfl⟩ := cd_parts hu
  have B3 := (Below.refl w2.heap.size w2).alloc (Nat.le_refl _) (.cells #[.int .i64 cd.regs, .slice pw nw cw, .slice pi ni ci] 25)
  have H3 := hid' (And.intro (heap_alloc_new w2 (.cells #[.int .i64 cd.regs, .slice pw nw cw, .slice pi ni ci] 25)) (And.intro (hu.below B3) (Below.more (Below.more H1.out b2) B3)))
  clear hu b2 B3 HD H1
  go_upto_region 3 with (fail)
  generalize w2.alloc (.cells #[.int .i64 cd.regs, .slice pw nw cw, .slice pi ni ci] 25) = w3 at *
  generalize w2.heap.size = t4 at *
  go_wp2_with fail
  refine (HR.out _ H3.out.2.2).mono ?_
  rintro e w4 ⟨u, rfl, hu, b4⟩
  obtain ⟨qw, mw, dw, qi, mi, di, rfl⟩ := cd_parts hu
  have B5 := (Below.refl w4.heap.size w4).alloc (Nat.le_refl _) (.cells #[.int .i64 cd.regs, .slice qw mw dw, .slice qi mi di] 25)
  have H5 := hid' (And.intro (heap_alloc_new w4 (.cells #[.int .i64 cd.regs, .slice qw mw dw, .slice qi mi di] 25)) (And.intro (hu.below B5) (And.intro (box_below B5 (box_below b4 H3.out.1)) (And.intro ((H3.out.2.1.below b4).below B5) (Below.more (Below.more H3.out.2.2 b4) B5)))))
  clear hu b4 B5 HR H3
  go_upto_region 4 with (fail)
  generalize w4.alloc (.cells #[.int .i64 cd.regs, .slice qw mw dw, .slice qi mi di] 25) = w5 at *
  generalize w4.heap.size = t7 at *
  have c0 := bcells H5.out.1 0 _ rfl
  have c1 := bcells H5.out.1 1 _ rfl
  have c2 := bcells H5.out.1 2 _ rfl
  have d0 := bcells H5.out.2.2.1 0 _ rfl
  have d1 := bcells H5.out.2.2.1 1 _ rfl
  have d2 := bcells H5.out.2.2.1 2 _ rfl
  have HSC := hid' (sameCode_yes _ _ cd w5 H5.out.2.2.2.1 H5.out.2.1)
  go_wp2_with fail
  refine HSC.out.mono ?_
  rintro e w6 ⟨rfl, b6⟩
  have H6 := hid' (Below.more H5.out.2.2.2.2 b6)
  clear b6 c0 c1 c2 d0 d1 d2 HSC H5
  go_wp2_with fail
  go_ret
  exact ⟨rfl, H6.out⟩
theorem enc_len {c : Gen.Cd} (h : Gen.CdFits c) (hr : Gen.right c = true) : (Gen.enc c).length ≤ 40000000000 := by
  obtain ⟨r1, r2, r3⟩ := right_small hr
  rw [← Gen.pI_all]
  exact Gen.pI_len c _ h r1 r3
theorem strOf_nums (l : List UInt8) : strOfNums (nums l) = strOfNums (nums l) := rfl
set_option maxHeartbeats 8000000 in
theorem law_back (v : Value) (c : Gen.Cd) (vb : Value) (l : List UInt8) (w : World) (h : CdAt w v c) (hv : Reads w vb (nums l)) (hl : l.length ≤ 140737488355300) : Calls Tryz.prog 5 #[v, vb] w (True1 w) := by
  have hcd := h
  obtain ⟨vw, vi, rfl, ⟨pw, cw, rfl, ⟨hw1, hw2⟩, -⟩, ⟨pi, ci, rfl, ⟨hi1, hi2⟩, -⟩, hr⟩ := h
  have B0 := (Below.refl w.heap.size w).alloc (Nat.le_refl _) (.cells #[.int .i64 c.regs, .slice pw c.waits.length cw, .slice pi c.ins.length ci] 25)
  have HS := hid' (show RSt w w.heap.size _ _ c _ from ⟨B0, heap_alloc_new w _, hcd.below B0⟩)
  have HV := hid' (fun (W : World) (b : Below w.heap.size w W) => hv.below b)
  have HL := hid' hl
  have HF := hid' hcd.fits
  obtain ⟨pb, cb, rfl⟩ := hv.len
  clear hcd B0 hv hl
  obtain ⟨ok, hok⟩ : ∃ ok, Hid (Gen.right c = ok) := ⟨_, hid' rfl⟩
  have HS0 := hid' (shown_any (w.alloc (.cells #[.int .i64 c.regs, .slice pw c.waits.length cw, .slice pi c.ins.length ci] 25)))
  go_enter Tryz.func5, Tryz.ntmps5
  go_wp2_with fail
  refine HS0.out.mono ?_
  rintro e w1 ⟨rfl, b1⟩
  have H1 := hid' (HS.out.below b1)
  clear b1 HS HS0
  have c0 := bcells H1.out.cb 0 _ rfl
  have c1 := bcells H1.out.cb 1 _ rfl
  have c2 := bcells H1.out.cb 2 _ rfl
  have HE := hid' (encode_any _ c w1 H1.out.cd)
  unfold GenEncPost at HE
  rw [hok.out] at HE
  have hol : (bif ok then Gen.enc c else []).length ≤ 140737488355300 := by
    cases ok with
    | false => exact Nat.zero_le _
    | true => rw [cond_true]; have := enc_len HF.out hok.out; omega
  have HOL := hid' hol
  have hdo : ok = true → Gen.dec 172 170 (bif ok then Gen.enc c else []) = (c, 0, 0) := by
    rintro rfl
    exact Gen.dec_enc hok.out
  have HDO := hid' hdo
  clear hol hdo
  generalize (bif ok then Gen.enc c else []) = out at *
  go_wp2_with fail
  refine HE.out.mono ?_
  rintro e w2 ⟨va, rfl, hra, b2⟩
  have H2 := hid' (H1.out.below b2)
  have HD := hid' (decode_any _ out w2 hra HOL.out)
  unfold GenDecPost at HD
  clear c0 c1 c2 b2 HE H1 hra
  go_wp2_with fail
  refine HD.out.mono ?_
  rintro e w3 ⟨u, rfl, hu, b3⟩
  generalize Gen.dec 172 170 out = dd at *
  obtain ⟨cd, at1, code⟩ := dd
  obtain ⟨qw, mw, dw, qi, mi, di, rfl⟩ := cd_parts hu
  have B4 := (Below.refl w3.heap.size w3).alloc (Nat.le_refl _) (.cells #[.int .i64 cd.regs, .slice qw mw dw, .slice qi mi di] 25)
  have H4 := hid' (And.intro ((H2.out.below b3).below B4) (And.intro (heap_alloc_new w3 (.cells #[.int .i64 cd.regs, .slice qw mw dw, .slice qi mi di] 25)) (hu.below B4)))
  clear hu b3 B4 H2 HD
  go_upto_region 4 with (fail)
  generalize w3.alloc (.cells #[.int .i64 cd.regs, .slice qw mw dw, .slice qi mi di] 25) = w4 at *
  generalize w3.heap.size = t8 at *
  go_cut [43] (fun v wx => v = .bool false ∧ Hid (Below w4.heap.size w4 wx))
  case first =>
    cases ok with
    | false =>
      go_wp2_with fail
      go_meet
      exact ⟨rfl, Below.refl _ _⟩
    | true =>
      obtain ⟨rfl, rfl, rfl⟩ : cd = c ∧ at1 = 0 ∧ code = 0 := by simpa using HDO.out rfl
      have c0 := bcells H4.out.1.cb 0 _ rfl
      have c1 := bcells H4.out.1.cb 1 _ rfl
      have c2 := bcells H4.out.1.cb 2 _ rfl
      have d0 := bcells H4.out.2.1 0 _ rfl
      have d1 := bcells H4.out.2.1 1 _ rfl
      have d2 := bcells H4.out.2.1 2 _ rfl
      have HSC := hid' (sameCode_yes _ _ cd w4 H4.out.1.cd H4.out.2.2)
      go_wp2_with fail
      refine HSC.out.mono ?_
      rintro e w6 ⟨rfl, b6⟩
      have HB6 := hid' b6
      clear b6 c0 c1 c2 d0 d1 d2 HSC
      go_wp2_with fail
      go_meet
      exact ⟨rfl, HB6⟩
  case rest =>
    obtain ⟨rfl, hb⟩ := hcut
    have H5 := hid' (Below.more H4.out.1.bel hb.out)
    clear hb H4
    have HD2 := hid' (decode_any _ l wc (HV.out _ H5.out) HL.out)
    unfold GenDecPost at HD2
    have HBK := hid' (fun (cc : Gen.Cd) (k : Nat) (hh : Gen.dec 172 170 l = (cc, k, 0)) => Gen.dec_back hh (by decide) (by decide))
    go_wp2_with fail
    refine HD2.out.mono ?_
    rintro e w6 ⟨u, rfl, hu, b6⟩
    generalize Gen.dec 172 170 l = dd at *
    obtain ⟨cx, at2, code2⟩ := dd
    obtain ⟨rw', rn, rc, ri, rm, rd, rfl⟩ := cd_parts hu
    have B7 := (Below.refl w6.heap.size w6).alloc (Nat.le_refl _) (.cells #[.int .i64 cx.regs, .slice rw' rn rc, .slice ri rm rd] 25)
    have H7 := hid' (And.intro (heap_alloc_new w6 (.cells #[.int .i64 cx.regs, .slice rw' rn rc, .slice ri rm rd] 25)) (And.intro (hu.below B7) (Below.more (Below.more H5.out b6) B7)))
    clear hu b6 B7 H5 HD2
    go_upto_region 7 with (fail)
    generalize w6.alloc (.cells #[.int .i64 cx.regs, .slice rw' rn rc, .slice ri rm rd] 25) = w7 at *
    generalize w6.heap.size = t11 at *
    by_cases hcode : code2 = 0
    · subst hcode
      have hbk := HBK.out _ _ rfl
      have HX := hid' hbk
      have c0 := bcells H7.out.1 0 _ rfl
      have c1 := bcells H7.out.1 1 _ rfl
      have c2 := bcells H7.out.1 2 _ rfl
      have HE2 := hid' (encode_any _ cx w7 H7.out.2.1)
      unfold GenEncPost at HE2
      rw [hbk.1, cond_true, cond_true, hbk.2] at HE2
      clear hbk
      go_wp2_with fail
      refine HE2.out.mono ?_
      rintro e w8 ⟨vy, rfl, hry, b8⟩
      have H8 := hid' (Below.more H7.out.2.2 b8)
      have hca := hry.conv
      have hcb := (HV.out _ H8.out).conv
      clear c0 c1 c2 b8 hry HE2 H7
      go_wp2_with fail
      go_ret
      exact ⟨rfl, H8.out⟩
    · have g1 : (code2 == 0) = false := by rw [beq_eq_false_iff_ne]; exact hcode
      have g2 : (code2 != 0) = true := by rw [bne_iff_ne]; exact hcode
      clear hcode
      go_wp2_with fail
      go_ret
      exact ⟨rfl, H7.out.2.2⟩
end Go.Proofs.YtiejoapnljkjdaaGreatDoor

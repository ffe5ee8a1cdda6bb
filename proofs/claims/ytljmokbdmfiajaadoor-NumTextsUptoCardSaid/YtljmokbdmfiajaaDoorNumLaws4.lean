/- Proved: NumBack and NumSigns as contracts: they return true and write nothing that was there. Conditions: MaxLen's cell holds an int; NumBack's text is shorter than 4 000 000 000 bytes. -/
import Derived.Test.YtljmokbdmfiajaaDoorNumBackPlain
namespace Go.Proofs.YtljmokbdmfiajaaDoor
open Go.RowKit
set_option linter.unusedVariables false
open Num
namespace Num
theorem text_size (x : Nat) (hx : x ≤ 1000000000000000) : (text x).size ≤ 20 := by
  rw [show text x = if tailOf (go1 x 6).1 = ⟨#[]⟩ then decOnto (go1 x 6).2 ⟨#[]⟩ else decOnto (go1 x 6).2 ⟨#[]⟩ ++ (⟨#[46]⟩ ++ tailOf (go1 x 6).1) from rfl]
  have hw : (go1 x 6).2 ≤ 1000000000 := by rw [(go1_list x 6 0).2.2]; omega
  have h1 := digs_len 9 _ (Nat.lt_of_le_of_lt hw (by omega))
  have h2 : (decOnto (go1 x 6).2 ⟨#[]⟩).size ≤ 10 := by
    have : (decOnto (go1 x 6).2 ⟨#[]⟩).data.toList.length = (digs (go1 x 6).2).length := by rw [decOnto_list]; simp
    rw [Array.length_toList] at this
    show (decOnto (go1 x 6).2 ⟨#[]⟩).data.size ≤ 10
    omega
  have h3 : (tailOf (go1 x 6).1).size ≤ 6 := by have := tailOf_le (go1 x 6).1; rw [go1_size] at this; exact this
  split
  · omega
  · rw [ByteArray.size_append, ByteArray.size_append]
    show _ + (1 + _) ≤ 20
    omega
theorem show_size (a : Int) : (show' a).size ≤ 21 := by
  have a1 := clamp_le a
  have a2 := clamp_ge a
  have h := text_size (clamp a).natAbs (by omega)
  unfold show'
  split
  · rw [ByteArray.size_append]
    show 1 + _ ≤ 21
    omega
  · omega
end Num

set_option maxHeartbeats 2000000 in
theorem law_back (a : Int) (s : ByteArray) (w : World) (hs : s.size ≤ 4000000000) (hm : MaxAt w) : Calls Tryd.prog 9 #[.int .i64 a, .string s] w (True1 w) := by
  have z1 := show_size a
  have HP := hid' (parse_show a)
  have HR := hid' (parse_in s.data.toList)
  have HM := hid' hm
  have HS1 := hid' (fun w hm => parse_any (show' a) w (by omega) hm)
  have HS2 := hid' (fun w hm => parse_any s w hs hm)
  rw [HP.out] at HS1
  clear HP z1 hm hs
  have HSa := hid' (fun w => show_any a w)
  generalize show' a = t at *
  generalize parse s.data.toList = p at *
  obtain ⟨m, is⟩ := p
  dsimp only at HR
  obtain ⟨r1, r2⟩ := HR.out
  have z2 := show_size m
  have HC := hid' (show clamp m = m from clamp_in r1 r2)
  have HP2 := hid' (parse_show m)
  rw [HC.out] at HP2
  have HS3 := hid' (fun w hm => parse_any (show' m) w (by omega) hm)
  rw [HP2.out] at HS3
  have HSh := hid' (fun w => show_any m w)
  clear HP2 HC z2 HR
  generalize show' m = u at *
  go_enter Tryd.func9, Tryd.ntmps9
  go_wp2_with fail
  refine (shown_any w).mono ?_
  rintro e w1 ⟨rfl, b1⟩
  go_wp2_with fail
  refine (HSa.out _).mono ?_
  rintro e w2 ⟨rfl, b2⟩
  have b2 := b1.trans (b2.mono b1.size)
  go_wp2_with fail
  refine (HS1.out _ (HM.out.below b2)).mono ?_
  rintro e w3 ⟨rfl, b3⟩
  have b3 := b2.trans (b3.mono b2.size)
  go_wp2_with fail
  refine (HS2.out _ (HM.out.below b3)).mono ?_
  rintro e w4 ⟨rfl, b4⟩
  have b4 := b3.trans (b4.mono b3.size)
  cases is
  · go_wp2_with fail
    refine (clamp_any a _).mono ?_
    rintro e w5 ⟨rfl, rfl⟩
    go_wp2_with fail
    go_ret
    exact ⟨rfl, b4⟩
  · go_wp2_with fail
    refine (HSh.out _).mono ?_
    rintro e w5 ⟨rfl, b5⟩
    have b5 := b4.trans (b5.mono b4.size)
    go_wp2_with fail
    refine (HS3.out _ (HM.out.below b5)).mono ?_
    rintro e w6 ⟨rfl, b6⟩
    have b6 := b5.trans (b6.mono b5.size)
    go_wp2_with fail
    refine (clamp_any a _).mono ?_
    rintro e w7 ⟨rfl, rfl⟩
    go_wp2_with fail
    go_ret
    exact ⟨rfl, b6⟩

theorem show_zero : show' 0 = ⟨#[48]⟩ := by decide +kernel
theorem show_neg (x : Int) (h : 0 < x) (h2 : x ≤ 1000000000000000) : show' (-x) = ⟨#[45]⟩ ++ show' x := by
  unfold show'
  rw [clamp_in (a := -x) (by omega) (by omega), clamp_in (a := x) (by omega) (by omega), if_pos (by omega), if_neg (by omega), Int.natAbs_neg]
theorem parse_neg_show (x : Int) (h : 0 ≤ x) (h2 : x ≤ 1000000000000000) : parse ((⟨#[45]⟩ : ByteArray) ++ show' x).data.toList = tell true x.natAbs := by
  unfold show'
  rw [clamp_in (a := x) (by omega) (by omega), if_neg (by omega), minus_list, parse_minus _ (by omega)]

set_option maxHeartbeats 2000000 in
theorem law_signs (a : Int) (w : World) (hm : MaxAt w) : Calls Tryd.prog 10 #[.int .i64 a] w (True1 w) := by
  have a1 := clamp_le a
  have a2 := clamp_ge a
  have HM := hid' hm
  clear hm
  go_enter Tryd.func10, Tryd.ntmps10
  go_wp2_with fail
  refine (shown_any w).mono ?_
  rintro e w1 ⟨rfl, b1⟩
  go_wp2_with fail
  refine (clamp_any a _).mono ?_
  rintro e w2 ⟨rfl, rfl⟩
  have hcc := clamp_clamp a
  generalize clamp a = c at *
  rcases Int.lt_trichotomy c 0 with h | h | h
  · have hx : neg c = -c := by unfold neg; rw [hcc]
    have hneg := show_neg (-c) (by omega) (by omega)
    have hpar := parse_neg_show (-c) (by omega) (by omega)
    rw [Int.neg_neg] at hneg
    rw [tell, if_neg (by omega), if_pos rfl, show -((-c).natAbs : Int) = c by omega] at hpar
    have z := show_size (-c)
    have E := hid' hx
    have HN := hid' hneg
    have HP := hid' hpar
    have c1 : c ≤ 0 := by omega
    clear hcc hx hneg hpar
    go_wp2_with fail
    refine (neg_any c _).mono ?_
    rintro e w3 ⟨rfl, rfl⟩
    rw [E.out]
    go_wp2_with fail
    refine (show_any (-c) _).mono ?_
    rintro e w4 ⟨rfl, b4⟩
    have b4 := b1.trans (b4.mono b1.size)
    have HS := hid' (fun w hm => parse_any (⟨#[45]⟩ ++ show' (-c)) w (by rw [ByteArray.size_append]; show 1 + _ ≤ _; omega) hm)
    rw [HP.out] at HS
    have HS2 := hid' (fun w => show_any c w)
    rw [HN.out] at HS2
    have k3 : ¬ 9223372036854775807 < (⟨#[45]⟩ : ByteArray).size + (show' (-c)).size := by show ¬ 9223372036854775807 < 1 + _; omega
    generalize show' (-c) = t at *
    go_wp2_with fail
    refine (HS.out _ (HM.out.below b4)).mono ?_
    rintro e w5 ⟨rfl, b5⟩
    have b5 := b4.trans (b5.mono b4.size)
    have c3 : ((-c : Int) == 0) = false := by rw [beq_eq_false_iff_ne]; omega
    go_wp2_with fail
    refine (HS2.out _).mono ?_
    rintro e w6 ⟨rfl, b6⟩
    have b6 := b5.trans (b6.mono b5.size)
    go_wp2_with fail
    go_ret
    exact ⟨rfl, b6⟩
  · subst h
    have hpar := parse_neg_show 0 (by omega) (by omega)
    rw [tell, if_pos (Or.inr ⟨rfl, rfl⟩), show_zero] at hpar
    have HP := hid' hpar
    have E := hid' (show neg 0 = 0 by decide)
    clear hcc hpar
    go_wp2_with fail
    refine (neg_any 0 _).mono ?_
    rintro e w3 ⟨rfl, rfl⟩
    rw [E.out]
    go_wp2_with fail
    refine (show_any 0 _).mono ?_
    rintro e w4 ⟨rfl, b4⟩
    have b4 := b1.trans (b4.mono b1.size)
    rw [show_zero]
    have HS := hid' (fun w hm => parse_any (⟨#[45]⟩ ++ ⟨#[48]⟩) w (by decide) hm)
    rw [HP.out] at HS
    have k4 : (⟨#[45]⟩ : ByteArray) ++ ⟨#[48]⟩ = ⟨#[45, 48]⟩ := by decide
    rw [k4] at HS
    go_wp2_with fail
    refine (HS.out _ (HM.out.below b4)).mono ?_
    rintro e w5 ⟨rfl, b5⟩
    have b5 := b4.trans (b5.mono b4.size)
    go_wp2_with fail
    go_ret
    exact ⟨rfl, b5⟩
  · have hneg := show_neg c (by omega) (by omega)
    have hpar := parse_neg_show c (by omega) (by omega)
    rw [tell, if_neg (by omega), if_pos rfl, show -((c).natAbs : Int) = -c by omega] at hpar
    have z := show_size c
    have HN := hid' hneg
    have HP := hid' hpar
    have c1 : ¬ c ≤ 0 := by omega
    clear hcc hneg hpar
    go_wp2_with fail
    refine (show_any c _).mono ?_
    rintro e w4 ⟨rfl, b4⟩
    have b4 := b1.trans (b4.mono b1.size)
    have HS := hid' (fun w hm => parse_any (⟨#[45]⟩ ++ show' c) w (by rw [ByteArray.size_append]; show 1 + _ ≤ _; omega) hm)
    rw [HP.out] at HS
    have HS2 := hid' (fun w => show_any (-c) w)
    rw [HN.out] at HS2
    have k3 : ¬ 9223372036854775807 < (⟨#[45]⟩ : ByteArray).size + (show' c).size := by show ¬ 9223372036854775807 < 1 + _; omega
    generalize show' c = t at *
    go_wp2_with fail
    refine (HS.out _ (HM.out.below b4)).mono ?_
    rintro e w5 ⟨rfl, b5⟩
    have b5 := b4.trans (b5.mono b4.size)
    have c3 : ((c : Int) == 0) = false := by rw [beq_eq_false_iff_ne]; omega
    go_wp2_with fail
    refine (HS2.out _).mono ?_
    rintro e w6 ⟨rfl, b6⟩
    have b6 := b5.trans (b6.mono b5.size)
    go_wp2_with fail
    go_ret
    exact ⟨rfl, b6⟩
end Go.Proofs.YtljmokbdmfiajaaDoor

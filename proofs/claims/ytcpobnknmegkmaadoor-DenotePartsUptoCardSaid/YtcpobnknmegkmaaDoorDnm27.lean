/- Proved: lemmas and contracts of the functions that the law reaches, part 27 of 27: DnTimes, DnParts. Conditions: as each states. -/
import Derived.Deep.AppendLies
import Derived.Laws.OwnMore
import Derived.Test.YtcpobnknmegkmaaDoorDnm21
import Derived.Test.YtcpobnknmegkmaaDoorDnm26
namespace Go.Proofs.YtcpobnknmegkmaaDoor
open Go.RowKit
open Rw
set_option linter.unusedVariables false
set_option linter.unusedSimpArgs false
set_option maxRecDepth 100000
theorem wrongOut_eq : wrongOut = .tuple #[.slice none 0 0, .slice none 0 0, .int .i64 150] := rfl
set_option maxHeartbeats 16000000 in
theorem law_times (t : Co.T) (v : Value) (n day : Int) (F : List Fd.Feed) (vf : Value) (w : World) (hv : CoreIn (fun _ => True) w t v) (hsz : t.size ≤ 1048576) (hF : FeedsAt w vf F) :
    Calls Tryd.prog 6 #[v, .int .i64 n, .int .i64 day, vf] w (True1 w) := by
  obtain ⟨p, c, hve, -⟩ := hv.open
  obtain ⟨op, tn, s, ln, rfl⟩ : ∃ op n s ln, v = .agg #[.int .i64 op, .int .i64 n, .string s, .slice p ln c] := ⟨_, _, _, _, hve⟩
  clear hve
  have HB0 := hid' ((Below.refl w.heap.size w).alloc (Nat.le_refl _) (.cells #[.int .i64 op, .int .i64 tn, .string s, .slice p ln c] 24))
  have HC0 := hid' (heap_alloc_new w (.cells #[.int .i64 op, .int .i64 tn, .string s, .slice p ln c] 24))
  have HV := hid' hv
  have HF := hid' hF
  obtain ⟨fp, fc, rfl, -, -⟩ := hF
  have HSZ := hid' hsz
  clear hv hsz
  go_enter Tryd.func6, Tryd.ntmps6
  go_upto_region 1 with (fail)
  generalize World.alloc _ _ = w1 at *
  have HSH := hid' (fun W => shown15_any W)
  go_upto_region 2 with (first | (go_at_call 7; refine (HSH.out _).mono ?_; rintro e w2 ⟨rfl, b2⟩; have HB2 := hid' (HB0.out.trans (b2.mono HB0.out.size)); have HC2 := hid' (box_below b2 HC0.out); clear b2))
  by_cases h1 : n < -1000000000000000
  · have g1 : decide (n < -1000000000000000) = true := decide_eq_true h1
    clear h1
    go_wp2_with fail
    go_ret
    exact ⟨rfl, HB2.out⟩
  have g1 : decide (n < -1000000000000000) = false := decide_eq_false h1
  by_cases h2 : 1000000000000000 < n
  · have g2 : decide (1000000000000000 < n) = true := decide_eq_true h2
    clear h1 h2
    go_wp2_with fail
    go_ret
    exact ⟨rfl, HB2.out⟩
  have g2 : decide (1000000000000000 < n) = false := decide_eq_false h2
  have HN := hid' (show Dn.NumOk n from by unfold Dn.NumOk; omega)
  have HNI := hid' (show I64 n from by unfold I64; omega)
  clear h1 h2
  have z1 : ∀ (W : World) (o : Obj) (k : Nat) (x : Obj), W.heap[k]? = some x → (W.alloc o).heap[k]? = some x := fun W o k x h => (((Below.refl W.heap.size W).alloc (Nat.le_refl _) o).block k (lt_of_block h)).trans h
  have b3 := ((Below.refl w2.heap.size w2).alloc (Nat.le_refl _) (.cells #[.int .i64 1, .int .i64 n, .string ⟨#[]⟩, .slice none 0 0] 24)).alloc (by simp) (.cells #[.int .i64 1, .int .i64 1000000, .string ⟨#[]⟩, .slice none 0 0] 24)
  have nb := z1 _ (.cells #[.int .i64 1, .int .i64 1000000, .string ⟨#[]⟩, .slice none 0 0] 24) _ _ (heap_alloc_new w2 (.cells #[.int .i64 1, .int .i64 n, .string ⟨#[]⟩, .slice none 0 0] 24))
  have ob := heap_alloc_new (w2.alloc (.cells #[.int .i64 1, .int .i64 n, .string ⟨#[]⟩, .slice none 0 0] 24)) (.cells #[.int .i64 1, .int .i64 1000000, .string ⟨#[]⟩, .slice none 0 0] 24)
  rw [World.size_alloc] at ob
  go_upto_region 6 with (fail)
  have HB3 := hid' (HB2.out.trans (b3.mono HB2.out.size))
  have HC3 := hid' (box_below b3 HC2.out)
  have HNB := hid' nb
  have HOB := hid' ob
  clear b3 nb ob g1 g2 HC2
  generalize World.alloc _ _ = w3 at *
  generalize w2.heap.size = nbk at *
  -- the row of the first sum
  have r1 := heap_alloc_new w3 (.cells #[.int .i64 1, .int .i64 n, .string ⟨#[]⟩, .slice none 0 0, .int .i64 24, .int .i64 0, .string ⟨#[69, 85, 82]⟩, .slice none 0 0] 24)
  have b4 := (Below.refl w3.heap.size w3).alloc (Nat.le_refl _) (.cells #[.int .i64 1, .int .i64 n, .string ⟨#[]⟩, .slice none 0 0, .int .i64 24, .int .i64 0, .string ⟨#[69, 85, 82]⟩, .slice none 0 0] 24)
  have HB4 := hid' (HB3.out.trans (b4.mono HB3.out.size))
  have HC4 := hid' (box_below b4 HC3.out)
  have HOB4 := hid' (box_below b4 HOB.out)
  have HG1 := hid' (dnbegin_any (Dn.timesT n oneT) day F (fun _ => True) _ _ _ (times_in r1 trivial HNI.out one_in) (by rw [Dn.times_size]; decide) (HF.out.below HB4.out))
  obtain ⟨nb0, nb1, nb2, nb3⟩ := heap_cells4 HNB.out
  clear r1 b4 HC3 HOB z1
  have HG2 := hid' (fun W (h : Below w.heap.size w W) => dnbegin_any t day F (fun _ => True) _ _ W (HV.out.under h) (Nat.le_trans HSZ.out (by decide)) (HF.out.below h))
  have HG3 := hid' (fun (W : World) (k : Nat) (h : Below w.heap.size w W) (hk : W.heap[k]? = some (.cells #[.int .i64 1, .int .i64 1000000, .string ⟨#[]⟩, .slice none 0 0, .int .i64 op, .int .i64 tn, .string s, .slice p ln c] 24 (0, 0))) => dnbegin_any (Dn.timesT 1000000 t) day F (fun _ => True) _ _ W (times_in hk trivial (by unfold I64; omega) (HV.out.under h)) (by rw [Dn.times_size]; have := HSZ.out; omega) (HF.out.below h))
  have HRF := hid' (fun W (h : Below w.heap.size w W) => refRightFeeds_any _ F W (HF.out.below h))
  obtain ⟨r2, hr2⟩ : ∃ r, Hid (Dn.beginR t day F = r) := ⟨_, hid' rfl⟩
  obtain ⟨r3, hr3⟩ : ∃ r, Hid (Dn.beginR (Dn.timesT 1000000 t) day F = r) := ⟨_, hid' rfl⟩
  obtain ⟨rf, hrf⟩ : ∃ r, Hid (Fd.right F = r) := ⟨_, hid' rfl⟩
  rw [hr2.out] at HG2
  rw [hr3.out] at HG3
  rw [hrf.out] at HRF
  by_cases hP : dayOk day = true ∧ Fd.Ok F
  rotate_left
  · have e1 := Dn.begin_wrong (t := Dn.timesT n oneT) hP
    have e2 : r2 = none := by rw [← hr2.out]; exact Dn.begin_wrong hP
    have e3 : r3 = none := by rw [← hr3.out]; exact Dn.begin_wrong hP
    subst e2
    subst e3
    rw [e1] at HG1
    go_upto_region 7 with (first | (go_at_call 8; refine HG1.out.mono ?_; rintro e w5 ⟨b5, hwr⟩; obtain rfl := (show e = .returned (.tuple #[.slice none 0 0, .slice none 0 0, .int .i64 150]) from hwr); clear hwr))
    have HB5 := hid' (HB4.out.trans (b5.mono HB4.out.size))
    have HC5 := hid' (box_below b5 HC4.out)
    have HO5 := hid' (box_below b5 HOB4.out)
    clear b5 nb0 nb1 nb2 nb3
    obtain ⟨c0, c1, c2, c3⟩ := heap_cells4 HC5.out
    have HGT := hid' (HG2.out w5 HB5.out)
    go_upto_region 8 with (first | (go_at_call 8; refine HGT.out.mono ?_; rintro e w6 ⟨b6, hwr⟩; obtain rfl := (show e = .returned (.tuple #[.slice none 0 0, .slice none 0 0, .int .i64 150]) from hwr); clear hwr))
    have HB6 := hid' (HB5.out.trans (b6.mono HB5.out.size))
    have HC6 := hid' (box_below b6 HC5.out)
    have HO6 := hid' (box_below b6 HO5.out)
    clear b6 c0 c1 c2 c3 HC5 HO5 HC4 HOB4
    obtain ⟨c0, c1, c2, c3⟩ := heap_cells4 HC6.out
    obtain ⟨o0, o1, o2, o3⟩ := heap_cells4 HO6.out
    have r7 := heap_alloc_new w6 (.cells #[.int .i64 1, .int .i64 1000000, .string ⟨#[]⟩, .slice none 0 0, .int .i64 op, .int .i64 tn, .string s, .slice p ln c] 24)
    have b7 := (Below.refl w6.heap.size w6).alloc (Nat.le_refl _) (.cells #[.int .i64 1, .int .i64 1000000, .string ⟨#[]⟩, .slice none 0 0, .int .i64 op, .int .i64 tn, .string s, .slice p ln c] 24)
    have HG7 := hid' (HG3.out _ _ (HB6.out.trans (b7.mono HB6.out.size)) r7)
    clear r7
    go_upto_region 9 with (first | (go_at_call 8; refine HG7.out.mono ?_; rintro e w8 ⟨b8, hwr⟩; obtain rfl := (show e = .returned (.tuple #[.slice none 0 0, .slice none 0 0, .int .i64 150]) from hwr); clear hwr))
    have HB68 := hid' (b7.trans (b8.mono b7.size))
    have HB8 := hid' (HB6.out.trans (HB68.out.mono HB6.out.size))
    clear b7 c0 c1 c2 c3 o0 o1 o2 o3 HC6 HO6
    have HR8 := hid' (HRF.out w8 HB8.out)
    go_upto_region 10 with (first | (go_at_call 13; refine HR8.out.mono ?_; rintro e w9 ⟨rfl, b9⟩))
    have HB9 := hid' (HB8.out.trans (b9.mono HB8.out.size))
    clear b8 b9
    have hD := hid' (show rf = false ∨ (day < 0 ∨ 73048 < day) from by
      cases hr : rf with
      | false => exact .inl rfl
      | true =>
        right
        apply Decidable.byContradiction
        intro hn
        exact hP ⟨by unfold dayOk; rw [decide_eq_true (by omega : 0 ≤ day), decide_eq_true (by omega : day ≤ 73048)]; rfl, Fd.right_ok (by rw [hrf.out, hr])⟩)
    clear hP
    by_cases hd0 : day < 0
    · have q1 : decide (day < 0) = true := decide_eq_true hd0
      clear hd0
      cases rf with
      | false =>
        go_wp2_with fail
        go_ret
        exact ⟨rfl, HB9.out⟩
      | true =>
        go_wp2_with fail
        go_ret
        exact ⟨rfl, HB9.out⟩
    · have q1 : decide (day < 0) = false := decide_eq_false hd0
      by_cases hd1 : 73048 < day
      · have q2 : decide (73048 < day) = true := decide_eq_true hd1
        clear hd0 hd1
        cases rf with
        | false =>
          go_wp2_with fail
          go_ret
          exact ⟨rfl, HB9.out⟩
        | true =>
          go_wp2_with fail
          go_ret
          exact ⟨rfl, HB9.out⟩
      · have q2 : decide (73048 < day) = false := decide_eq_false hd1
        have hrr : rf = false := by rcases hD.out with h | h | h; exact h; exact absurd h hd0; exact absurd h hd1
        subst hrr
        clear hd0 hd1
        go_wp2_with fail
        go_ret
        exact ⟨rfl, HB9.out⟩
  have e1 := Dn.begin_one HN.out hP.1 hP.2
  have hday : 0 ≤ day ∧ day ≤ 73048 := by have h := hP.1; unfold dayOk at h; simpa using h
  have q1 : decide (day < 0) = false := decide_eq_false (by omega)
  have q2 : decide (73048 < day) = false := decide_eq_false (by omega)
  obtain rfl : rf = true := by rw [← hrf.out]; exact Fd.right_yes hP.2
  rw [e1] at HG1
  have HWR := hid' (fun r (h : r3 = some r) => Dn.begin_once (hr3.out.trans h))
  clear hday e1
  by_cases hn0 : n = 0
  · have gn : (n != 0) = false := by rw [hn0]; rfl
    have gn2 : (n == 0) = true := by rw [hn0]; rfl
    have HN0 := hid' hn0
    clear hn0
    cases hq3 : r3 with
    | none =>
      subst hq3
      cases hq2 : r2 with
      | none =>
        subst hq2
        go_upto_region 7 with (first | (go_at_call 8; refine HG1.out.mono ?_; rintro e w5 ⟨b5, vl1, vo1, rfl, hl1, ho1⟩))
        have HB5 := hid' (HB4.out.trans (b5.mono HB4.out.size))
        have HC5 := hid' (box_below b5 HC4.out)
        have HO5 := hid' (box_below b5 HOB4.out)
        obtain ⟨lp1, lc1, el1⟩ := row_form hl1
        replace el1 : vl1 = .slice lp1 0 lc1 := el1
        subst el1
        rw [if_pos HN0.out] at ho1
        obtain ⟨tp1, tc1, et1⟩ := row_form ho1
        replace et1 : vo1 = .slice tp1 0 tc1 := et1
        subst et1
        clear hl1 ho1
        clear b5 nb0 nb1 nb2 nb3
        obtain ⟨c0, c1, c2, c3⟩ := heap_cells4 HC5.out
        have HGT := hid' (HG2.out w5 HB5.out)
        go_upto_region 8 with (first | (go_at_call 8; refine HGT.out.mono ?_; rintro e w6 ⟨b6, hwr⟩; obtain rfl := (show e = .returned (.tuple #[.slice none 0 0, .slice none 0 0, .int .i64 150]) from hwr); clear hwr))
        have HB6 := hid' (HB5.out.trans (b6.mono HB5.out.size))
        have HC6 := hid' (box_below b6 HC5.out)
        have HO6 := hid' (box_below b6 HO5.out)
        have HB56 := hid' b6
        clear b6 c0 c1 c2 c3 HC5 HO5 HC4 HOB4
        obtain ⟨c0, c1, c2, c3⟩ := heap_cells4 HC6.out
        obtain ⟨o0, o1, o2, o3⟩ := heap_cells4 HO6.out
        have r7 := heap_alloc_new w6 (.cells #[.int .i64 1, .int .i64 1000000, .string ⟨#[]⟩, .slice none 0 0, .int .i64 op, .int .i64 tn, .string s, .slice p ln c] 24)
        have b7 := (Below.refl w6.heap.size w6).alloc (Nat.le_refl _) (.cells #[.int .i64 1, .int .i64 1000000, .string ⟨#[]⟩, .slice none 0 0, .int .i64 op, .int .i64 tn, .string s, .slice p ln c] 24)
        have HG7 := hid' (HG3.out _ _ (HB6.out.trans (b7.mono HB6.out.size)) r7)
        clear r7
        go_upto_region 9 with (first | (go_at_call 8; refine HG7.out.mono ?_; rintro e w8 ⟨b8, hwr⟩; obtain rfl := (show e = .returned (.tuple #[.slice none 0 0, .slice none 0 0, .int .i64 150]) from hwr); clear hwr))
        have HB68 := hid' (b7.trans (b8.mono b7.size))
        have HB8 := hid' (HB6.out.trans (HB68.out.mono HB6.out.size))
        clear b7 c0 c1 c2 c3 o0 o1 o2 o3 HC6 HO6
        have HR8 := hid' (HRF.out w8 HB8.out)
        go_upto_region 10 with (first | (go_at_call 13; refine HR8.out.mono ?_; rintro e w9 ⟨rfl, b9⟩))
        have HB9 := hid' (HB8.out.trans (b9.mono HB8.out.size))
        clear b8 b9
        go_wp2_with fail
        go_ret
        exact ⟨rfl, HB9.out⟩
      | some q2 =>
        subst hq2
        go_upto_region 7 with (first | (go_at_call 8; refine HG1.out.mono ?_; rintro e w5 ⟨b5, vl1, vo1, rfl, hl1, ho1⟩))
        have HB5 := hid' (HB4.out.trans (b5.mono HB4.out.size))
        have HC5 := hid' (box_below b5 HC4.out)
        have HO5 := hid' (box_below b5 HOB4.out)
        obtain ⟨lp1, lc1, el1⟩ := row_form hl1
        replace el1 : vl1 = .slice lp1 0 lc1 := el1
        subst el1
        rw [if_pos HN0.out] at ho1
        obtain ⟨tp1, tc1, et1⟩ := row_form ho1
        replace et1 : vo1 = .slice tp1 0 tc1 := et1
        subst et1
        clear hl1 ho1
        clear b5 nb0 nb1 nb2 nb3
        obtain ⟨c0, c1, c2, c3⟩ := heap_cells4 HC5.out
        have HGT := hid' (HG2.out w5 HB5.out)
        go_upto_region 8 with (first | (go_at_call 8; refine HGT.out.mono ?_; rintro e w6 ⟨b6, vl2, vo2, rfl, hl2, ho2⟩))
        have HB6 := hid' (HB5.out.trans (b6.mono HB5.out.size))
        have HC6 := hid' (box_below b6 HC5.out)
        have HO6 := hid' (box_below b6 HO5.out)
        have HB56 := hid' b6
        clear b6 c0 c1 c2 c3 HC5 HO5 HC4 HOB4
        obtain ⟨c0, c1, c2, c3⟩ := heap_cells4 HC6.out
        obtain ⟨o0, o1, o2, o3⟩ := heap_cells4 HO6.out
        have r7 := heap_alloc_new w6 (.cells #[.int .i64 1, .int .i64 1000000, .string ⟨#[]⟩, .slice none 0 0, .int .i64 op, .int .i64 tn, .string s, .slice p ln c] 24)
        have b7 := (Below.refl w6.heap.size w6).alloc (Nat.le_refl _) (.cells #[.int .i64 1, .int .i64 1000000, .string ⟨#[]⟩, .slice none 0 0, .int .i64 op, .int .i64 tn, .string s, .slice p ln c] 24)
        have HG7 := hid' (HG3.out _ _ (HB6.out.trans (b7.mono HB6.out.size)) r7)
        clear r7
        go_upto_region 9 with (first | (go_at_call 8; refine HG7.out.mono ?_; rintro e w8 ⟨b8, hwr⟩; obtain rfl := (show e = .returned (.tuple #[.slice none 0 0, .slice none 0 0, .int .i64 150]) from hwr); clear hwr))
        have HB68 := hid' (b7.trans (b8.mono b7.size))
        have HB8 := hid' (HB6.out.trans (HB68.out.mono HB6.out.size))
        clear b7 c0 c1 c2 c3 o0 o1 o2 o3 HC6 HO6
        have HR8 := hid' (HRF.out w8 HB8.out)
        go_upto_region 10 with (first | (go_at_call 13; refine HR8.out.mono ?_; rintro e w9 ⟨rfl, b9⟩))
        have HB9 := hid' (HB8.out.trans (b9.mono HB8.out.size))
        clear b8 b9
        obtain ⟨lp2, lc2, rfl⟩ := row_form hl2
        obtain ⟨tp2, tc2, rfl⟩ := row_form ho2
        go_wp2_with fail
        go_ret
        exact ⟨rfl, HB9.out⟩
    | some q3 =>
      subst hq3
      obtain ⟨q2, hq2, rfl⟩ := HWR.out q3 rfl
      obtain rfl : r2 = some q2 := by rw [← hr2.out]; exact hq2
      go_upto_region 7 with (first | (go_at_call 8; refine HG1.out.mono ?_; rintro e w5 ⟨b5, vl1, vo1, rfl, hl1, ho1⟩))
      have HB5 := hid' (HB4.out.trans (b5.mono HB4.out.size))
      have HC5 := hid' (box_below b5 HC4.out)
      have HO5 := hid' (box_below b5 HOB4.out)
      obtain ⟨lp1, lc1, el1⟩ := row_form hl1
      replace el1 : vl1 = .slice lp1 0 lc1 := el1
      subst el1
      rw [if_pos HN0.out] at ho1
      obtain ⟨tp1, tc1, et1⟩ := row_form ho1
      replace et1 : vo1 = .slice tp1 0 tc1 := et1
      subst et1
      clear hl1 ho1
      clear b5 nb0 nb1 nb2 nb3
      obtain ⟨c0, c1, c2, c3⟩ := heap_cells4 HC5.out
      have HGT := hid' (HG2.out w5 HB5.out)
      go_upto_region 8 with (first | (go_at_call 8; refine HGT.out.mono ?_; rintro e w6 ⟨b6, vl2, vo2, rfl, hl2, ho2⟩))
      have HB6 := hid' (HB5.out.trans (b6.mono HB5.out.size))
      have HC6 := hid' (box_below b6 HC5.out)
      have HO6 := hid' (box_below b6 HO5.out)
      have HB56 := hid' b6
      clear b6 c0 c1 c2 c3 HC5 HO5 HC4 HOB4
      obtain ⟨c0, c1, c2, c3⟩ := heap_cells4 HC6.out
      obtain ⟨o0, o1, o2, o3⟩ := heap_cells4 HO6.out
      have r7 := heap_alloc_new w6 (.cells #[.int .i64 1, .int .i64 1000000, .string ⟨#[]⟩, .slice none 0 0, .int .i64 op, .int .i64 tn, .string s, .slice p ln c] 24)
      have b7 := (Below.refl w6.heap.size w6).alloc (Nat.le_refl _) (.cells #[.int .i64 1, .int .i64 1000000, .string ⟨#[]⟩, .slice none 0 0, .int .i64 op, .int .i64 tn, .string s, .slice p ln c] 24)
      have HG7 := hid' (HG3.out _ _ (HB6.out.trans (b7.mono HB6.out.size)) r7)
      clear r7
      go_upto_region 9 with (first | (go_at_call 8; refine HG7.out.mono ?_; rintro e w8 ⟨b8, vl3, vo3, rfl, hl3, ho3⟩))
      have HB68 := hid' (b7.trans (b8.mono b7.size))
      have HB8 := hid' (HB6.out.trans (HB68.out.mono HB6.out.size))
      clear b7 c0 c1 c2 c3 o0 o1 o2 o3 HC6 HO6
      have HR8 := hid' (HRF.out w8 HB8.out)
      go_upto_region 10 with (first | (go_at_call 13; refine HR8.out.mono ?_; rintro e w9 ⟨rfl, b9⟩))
      have HB9 := hid' (HB8.out.trans (b9.mono HB8.out.size))
      have HBL := hid' (begin_lives hr2.out)
      have hlen := HBL.out.2.1
      have HLA := hid' ((hl2.seen (by omega)).below (HB68.out.trans (b9.mono HB68.out.size)))
      have HOA := hid' ((TranRow.seen ho2 (by omega)).below (HB68.out.trans (b9.mono HB68.out.size)))
      have HLB := hid' ((LiveRow.seen hl3 (by simp [Dn.shift]; omega)).below b9)
      have HOB := hid' ((TranRow.seen ho3 (by simp [Dn.shift]; omega)).below b9)
      obtain ⟨lp2, lc2, e2, -, hla⟩ := id HLA.out
      obtain ⟨lp3, lc3, e3, -, hlb⟩ := id HLB.out
      have e3l : (Dn.shift 2 q2).1.length = q2.1.length := by simp [Dn.shift]
      rw [e3l] at e3
      obtain ⟨tp2, tc2, e4, -, -⟩ := id HOA.out
      obtain ⟨tp3, tc3, e5, -, -⟩ := id HOB.out
      subst e2
      subst e3
      subst e4
      subst e5
      have HLL := hid' hla
      have HLM := hid' hlb
      have hbig : (q2.1.length : Int) ≤ 2000 := by omega
      have HST := hid' (fun W (h : Below w9.heap.size w9 W) => sameTrans_yes _ _ day q2.2 W (HOA.out.below h) (HOB.out.below h))
      clear b8 b9 hl2 ho2 hl3 ho3 hla hlb e3l hlen
      go_wp2_with fail
      go_loopw [23] (fun iv wz => ∃ i : Nat, iv = .int .i64 (i : Int) ∧ i ≤ q2.1.length ∧ Hid (Below w9.heap.size w9 wz)) (fun iv _ => q2.1.length - (intOf iv).toNat)
      case atStart => exact ⟨0, rfl, Nat.zero_le _, hid' (Below.refl _ _)⟩
      case round =>
        obtain ⟨i, rfl, hi, HW⟩ := hrel
        by_cases hin : i < q2.1.length
        · obtain ⟨x, hx⟩ : ∃ x, q2.1[i]? = some x := ⟨_, List.getElem?_eq_getElem hin⟩
          have hx3 : (Dn.shift 2 q2).1[i]? = some (x.1 + 2, x.2) := by unfold Dn.shift; simp [hx]
          obtain ⟨ba, oa, rfl, -, a0, a1⟩ := HLL.out i x hx
          obtain ⟨bb, ob, rfl, -, y0, y1⟩ := HLM.out i _ hx3
          have hrg := live_range HBL.out.1 hx
          have hsm := ((Co.small_iff t).1 HBL.out.2.2.1.1).1
          have HKA := hid' (fun W (h : Below wr.heap.size wr W) => And.intro (And.intro (keep_all (Below.more HW.out h) _ _ a0) (keep_all (Below.more HW.out h) _ _ a1)) (And.intro (keep_all (Below.more HW.out h) _ _ y0) (keep_all (Below.more HW.out h) _ _ y1)))
          have hxw : IntKind.i64.wrap (x.1 + 2) = x.1 + 2 := IntWalk.i64_in _ (by omega)
          have j1 : (0 : Int) ≤ (i : Int) := by omega
          have j2 : (i : Int) < (q2.1.length : Int) := by omega
          have hiw : IntKind.i64.wrap ((i : Int) + 1) = (i : Int) + 1 := IntWalk.i64_in _ (by omega)
          have m1 : (x.1 + 2 != x.1 + 2) = false := by simp
          have m2 : (x.2 != x.2) = false := by simp
          obtain ⟨xa, xf⟩ := x
          simp only at hxw m1 m2 HKA
          clear hx hx3 a0 a1 y0 y1 hrg hsm
          go_upto_region 22 with (fail)
          refine wp_region_keep (Below wr.heap.size wr) (by kernel_rfl) (by kernel_rfl) (Below.refl _ _).drew ?_
          repeat (first
            | (refine wpKeep_skip ?_ ?_
               · rfl
               simp only [Act.put, List.setIfInBounds_toArray, List.set_cons_zero, List.set_cons_succ])
            | (apply wpKeep_val
               · rfl
               · (intro w hSw; obtain ⟨⟨a0, a1⟩, y0, y1⟩ := HKA.out w hSw; first | (go_simp; done) | (go_simp; with_reducible rfl))
               simp only [Act.put, List.setIfInBounds_toArray, List.set_cons_zero, List.set_cons_succ]))
          refine wpKeep_nil ?_
          intro w10 hS'
          have HWN := hid' (Below.more HW.out hS')
          clear hS'
          go_wp2_with fail
          go_roundw
          case rel => exact ⟨i + 1, by go_num, by omega, HWN⟩
          case measure => simp only [intOf]; omega
        · obtain rfl : i = q2.1.length := by omega
          have j3 : decide (q2.1.length < q2.1.length) = false := by simp
          have HSW := hid' (HST.out wr HW.out)
          clear hin
          go_wp2_with (first | (go_at_call 14; refine HSW.out.mono ?_; rintro e w11 ⟨rfl, b11⟩))
          go_ret
          exact ⟨rfl, HB9.out.trans ((Below.more HW.out b11).mono HB9.out.size)⟩
  · have gn : (n != 0) = true := by rw [bne_iff_ne]; exact hn0
    have gn2 : (n == 0) = false := by rw [beq_eq_false_iff_ne]; exact hn0
    have HN0 := hid' hn0
    clear hn0
    cases hq3 : r3 with
    | none =>
      subst hq3
      cases hq2 : r2 with
      | none =>
        subst hq2
        go_upto_region 7 with (first | (go_at_call 8; refine HG1.out.mono ?_; rintro e w5 ⟨b5, vl1, vo1, rfl, hl1, ho1⟩))
        have HB5 := hid' (HB4.out.trans (b5.mono HB4.out.size))
        have HC5 := hid' (box_below b5 HC4.out)
        have HO5 := hid' (box_below b5 HOB4.out)
        obtain ⟨lp1, lc1, el1⟩ := row_form hl1
        replace el1 : vl1 = .slice lp1 0 lc1 := el1
        subst el1
        rw [if_neg HN0.out] at ho1
        obtain ⟨tp1, tc1, et1, -, hts⟩ := TranRow.seen ho1 (by simp)
        obtain ⟨tb, to', rfl, -, t0, t1, t2⟩ := hts 0 (⟨#[69, 85, 82]⟩, n) rfl
        replace et1 : vo1 = .slice (some ⟨tb, to', none⟩) 1 tc1 := et1
        subst et1
        simp only [Nat.zero_mul, Nat.add_zero] at t0 t1 t2
        have HT := hid' (And.intro t0 (And.intro t1 t2))
        clear hl1 ho1 hts t0 t1 t2
        clear b5 nb0 nb1 nb2 nb3
        obtain ⟨c0, c1, c2, c3⟩ := heap_cells4 HC5.out
        have HGT := hid' (HG2.out w5 HB5.out)
        go_upto_region 8 with (first | (go_at_call 8; refine HGT.out.mono ?_; rintro e w6 ⟨b6, hwr⟩; obtain rfl := (show e = .returned (.tuple #[.slice none 0 0, .slice none 0 0, .int .i64 150]) from hwr); clear hwr))
        have HB6 := hid' (HB5.out.trans (b6.mono HB5.out.size))
        have HC6 := hid' (box_below b6 HC5.out)
        have HO6 := hid' (box_below b6 HO5.out)
        have HB56 := hid' b6
        clear b6 c0 c1 c2 c3 HC5 HO5 HC4 HOB4
        obtain ⟨c0, c1, c2, c3⟩ := heap_cells4 HC6.out
        obtain ⟨o0, o1, o2, o3⟩ := heap_cells4 HO6.out
        have r7 := heap_alloc_new w6 (.cells #[.int .i64 1, .int .i64 1000000, .string ⟨#[]⟩, .slice none 0 0, .int .i64 op, .int .i64 tn, .string s, .slice p ln c] 24)
        have b7 := (Below.refl w6.heap.size w6).alloc (Nat.le_refl _) (.cells #[.int .i64 1, .int .i64 1000000, .string ⟨#[]⟩, .slice none 0 0, .int .i64 op, .int .i64 tn, .string s, .slice p ln c] 24)
        have HG7 := hid' (HG3.out _ _ (HB6.out.trans (b7.mono HB6.out.size)) r7)
        clear r7
        go_upto_region 9 with (first | (go_at_call 8; refine HG7.out.mono ?_; rintro e w8 ⟨b8, hwr⟩; obtain rfl := (show e = .returned (.tuple #[.slice none 0 0, .slice none 0 0, .int .i64 150]) from hwr); clear hwr))
        have HB68 := hid' (b7.trans (b8.mono b7.size))
        have HB8 := hid' (HB6.out.trans (HB68.out.mono HB6.out.size))
        clear b7 c0 c1 c2 c3 o0 o1 o2 o3 HC6 HO6
        have HR8 := hid' (HRF.out w8 HB8.out)
        go_upto_region 10 with (first | (go_at_call 13; refine HR8.out.mono ?_; rintro e w9 ⟨rfl, b9⟩))
        have HB9 := hid' (HB8.out.trans (b9.mono HB8.out.size))
        obtain ⟨t0, t1, t2⟩ := HT.out
        replace t0 := keep_all b9 _ _ (keep_all HB68.out _ _ (keep_all HB56.out _ _ t0))
        replace t1 := keep_all b9 _ _ (keep_all HB68.out _ _ (keep_all HB56.out _ _ t1))
        replace t2 := keep_all b9 _ _ (keep_all HB68.out _ _ (keep_all HB56.out _ _ t2))
        clear b8 b9
        go_wp2_with fail
        go_ret
        exact ⟨rfl, HB9.out⟩
      | some q2 =>
        subst hq2
        go_upto_region 7 with (first | (go_at_call 8; refine HG1.out.mono ?_; rintro e w5 ⟨b5, vl1, vo1, rfl, hl1, ho1⟩))
        have HB5 := hid' (HB4.out.trans (b5.mono HB4.out.size))
        have HC5 := hid' (box_below b5 HC4.out)
        have HO5 := hid' (box_below b5 HOB4.out)
        obtain ⟨lp1, lc1, el1⟩ := row_form hl1
        replace el1 : vl1 = .slice lp1 0 lc1 := el1
        subst el1
        rw [if_neg HN0.out] at ho1
        obtain ⟨tp1, tc1, et1, -, hts⟩ := TranRow.seen ho1 (by simp)
        obtain ⟨tb, to', rfl, -, t0, t1, t2⟩ := hts 0 (⟨#[69, 85, 82]⟩, n) rfl
        replace et1 : vo1 = .slice (some ⟨tb, to', none⟩) 1 tc1 := et1
        subst et1
        simp only [Nat.zero_mul, Nat.add_zero] at t0 t1 t2
        have HT := hid' (And.intro t0 (And.intro t1 t2))
        clear hl1 ho1 hts t0 t1 t2
        clear b5 nb0 nb1 nb2 nb3
        obtain ⟨c0, c1, c2, c3⟩ := heap_cells4 HC5.out
        have HGT := hid' (HG2.out w5 HB5.out)
        go_upto_region 8 with (first | (go_at_call 8; refine HGT.out.mono ?_; rintro e w6 ⟨b6, vl2, vo2, rfl, hl2, ho2⟩))
        have HB6 := hid' (HB5.out.trans (b6.mono HB5.out.size))
        have HC6 := hid' (box_below b6 HC5.out)
        have HO6 := hid' (box_below b6 HO5.out)
        have HB56 := hid' b6
        clear b6 c0 c1 c2 c3 HC5 HO5 HC4 HOB4
        obtain ⟨c0, c1, c2, c3⟩ := heap_cells4 HC6.out
        obtain ⟨o0, o1, o2, o3⟩ := heap_cells4 HO6.out
        have r7 := heap_alloc_new w6 (.cells #[.int .i64 1, .int .i64 1000000, .string ⟨#[]⟩, .slice none 0 0, .int .i64 op, .int .i64 tn, .string s, .slice p ln c] 24)
        have b7 := (Below.refl w6.heap.size w6).alloc (Nat.le_refl _) (.cells #[.int .i64 1, .int .i64 1000000, .string ⟨#[]⟩, .slice none 0 0, .int .i64 op, .int .i64 tn, .string s, .slice p ln c] 24)
        have HG7 := hid' (HG3.out _ _ (HB6.out.trans (b7.mono HB6.out.size)) r7)
        clear r7
        go_upto_region 9 with (first | (go_at_call 8; refine HG7.out.mono ?_; rintro e w8 ⟨b8, hwr⟩; obtain rfl := (show e = .returned (.tuple #[.slice none 0 0, .slice none 0 0, .int .i64 150]) from hwr); clear hwr))
        have HB68 := hid' (b7.trans (b8.mono b7.size))
        have HB8 := hid' (HB6.out.trans (HB68.out.mono HB6.out.size))
        clear b7 c0 c1 c2 c3 o0 o1 o2 o3 HC6 HO6
        have HR8 := hid' (HRF.out w8 HB8.out)
        go_upto_region 10 with (first | (go_at_call 13; refine HR8.out.mono ?_; rintro e w9 ⟨rfl, b9⟩))
        have HB9 := hid' (HB8.out.trans (b9.mono HB8.out.size))
        obtain ⟨t0, t1, t2⟩ := HT.out
        replace t0 := keep_all b9 _ _ (keep_all HB68.out _ _ (keep_all HB56.out _ _ t0))
        replace t1 := keep_all b9 _ _ (keep_all HB68.out _ _ (keep_all HB56.out _ _ t1))
        replace t2 := keep_all b9 _ _ (keep_all HB68.out _ _ (keep_all HB56.out _ _ t2))
        clear b8 b9
        obtain ⟨lp2, lc2, rfl⟩ := row_form hl2
        obtain ⟨tp2, tc2, rfl⟩ := row_form ho2
        go_wp2_with fail
        go_ret
        exact ⟨rfl, HB9.out⟩
    | some q3 =>
      subst hq3
      obtain ⟨q2, hq2, rfl⟩ := HWR.out q3 rfl
      obtain rfl : r2 = some q2 := by rw [← hr2.out]; exact hq2
      go_upto_region 7 with (first | (go_at_call 8; refine HG1.out.mono ?_; rintro e w5 ⟨b5, vl1, vo1, rfl, hl1, ho1⟩))
      have HB5 := hid' (HB4.out.trans (b5.mono HB4.out.size))
      have HC5 := hid' (box_below b5 HC4.out)
      have HO5 := hid' (box_below b5 HOB4.out)
      obtain ⟨lp1, lc1, el1⟩ := row_form hl1
      replace el1 : vl1 = .slice lp1 0 lc1 := el1
      subst el1
      rw [if_neg HN0.out] at ho1
      obtain ⟨tp1, tc1, et1, -, hts⟩ := TranRow.seen ho1 (by simp)
      obtain ⟨tb, to', rfl, -, t0, t1, t2⟩ := hts 0 (⟨#[69, 85, 82]⟩, n) rfl
      replace et1 : vo1 = .slice (some ⟨tb, to', none⟩) 1 tc1 := et1
      subst et1
      simp only [Nat.zero_mul, Nat.add_zero] at t0 t1 t2
      have HT := hid' (And.intro t0 (And.intro t1 t2))
      clear hl1 ho1 hts t0 t1 t2
      clear b5 nb0 nb1 nb2 nb3
      obtain ⟨c0, c1, c2, c3⟩ := heap_cells4 HC5.out
      have HGT := hid' (HG2.out w5 HB5.out)
      go_upto_region 8 with (first | (go_at_call 8; refine HGT.out.mono ?_; rintro e w6 ⟨b6, vl2, vo2, rfl, hl2, ho2⟩))
      have HB6 := hid' (HB5.out.trans (b6.mono HB5.out.size))
      have HC6 := hid' (box_below b6 HC5.out)
      have HO6 := hid' (box_below b6 HO5.out)
      have HB56 := hid' b6
      clear b6 c0 c1 c2 c3 HC5 HO5 HC4 HOB4
      obtain ⟨c0, c1, c2, c3⟩ := heap_cells4 HC6.out
      obtain ⟨o0, o1, o2, o3⟩ := heap_cells4 HO6.out
      have r7 := heap_alloc_new w6 (.cells #[.int .i64 1, .int .i64 1000000, .string ⟨#[]⟩, .slice none 0 0, .int .i64 op, .int .i64 tn, .string s, .slice p ln c] 24)
      have b7 := (Below.refl w6.heap.size w6).alloc (Nat.le_refl _) (.cells #[.int .i64 1, .int .i64 1000000, .string ⟨#[]⟩, .slice none 0 0, .int .i64 op, .int .i64 tn, .string s, .slice p ln c] 24)
      have HG7 := hid' (HG3.out _ _ (HB6.out.trans (b7.mono HB6.out.size)) r7)
      clear r7
      go_upto_region 9 with (first | (go_at_call 8; refine HG7.out.mono ?_; rintro e w8 ⟨b8, vl3, vo3, rfl, hl3, ho3⟩))
      have HB68 := hid' (b7.trans (b8.mono b7.size))
      have HB8 := hid' (HB6.out.trans (HB68.out.mono HB6.out.size))
      clear b7 c0 c1 c2 c3 o0 o1 o2 o3 HC6 HO6
      have HR8 := hid' (HRF.out w8 HB8.out)
      go_upto_region 10 with (first | (go_at_call 13; refine HR8.out.mono ?_; rintro e w9 ⟨rfl, b9⟩))
      have HB9 := hid' (HB8.out.trans (b9.mono HB8.out.size))
      obtain ⟨t0, t1, t2⟩ := HT.out
      replace t0 := keep_all b9 _ _ (keep_all HB68.out _ _ (keep_all HB56.out _ _ t0))
      replace t1 := keep_all b9 _ _ (keep_all HB68.out _ _ (keep_all HB56.out _ _ t1))
      replace t2 := keep_all b9 _ _ (keep_all HB68.out _ _ (keep_all HB56.out _ _ t2))
      have HBL := hid' (begin_lives hr2.out)
      have hlen := HBL.out.2.1
      have HLA := hid' ((hl2.seen (by omega)).below (HB68.out.trans (b9.mono HB68.out.size)))
      have HOA := hid' ((TranRow.seen ho2 (by omega)).below (HB68.out.trans (b9.mono HB68.out.size)))
      have HLB := hid' ((LiveRow.seen hl3 (by simp [Dn.shift]; omega)).below b9)
      have HOB := hid' ((TranRow.seen ho3 (by simp [Dn.shift]; omega)).below b9)
      obtain ⟨lp2, lc2, e2, -, hla⟩ := id HLA.out
      obtain ⟨lp3, lc3, e3, -, hlb⟩ := id HLB.out
      have e3l : (Dn.shift 2 q2).1.length = q2.1.length := by simp [Dn.shift]
      rw [e3l] at e3
      obtain ⟨tp2, tc2, e4, -, -⟩ := id HOA.out
      obtain ⟨tp3, tc3, e5, -, -⟩ := id HOB.out
      subst e2
      subst e3
      subst e4
      subst e5
      have HLL := hid' hla
      have HLM := hid' hlb
      have hbig : (q2.1.length : Int) ≤ 2000 := by omega
      have HST := hid' (fun W (h : Below w9.heap.size w9 W) => sameTrans_yes _ _ day q2.2 W (HOA.out.below h) (HOB.out.below h))
      clear b8 b9 hl2 ho2 hl3 ho3 hla hlb e3l hlen
      go_wp2_with fail
      go_loopw [23] (fun iv wz => ∃ i : Nat, iv = .int .i64 (i : Int) ∧ i ≤ q2.1.length ∧ Hid (Below w9.heap.size w9 wz)) (fun iv _ => q2.1.length - (intOf iv).toNat)
      case atStart => exact ⟨0, rfl, Nat.zero_le _, hid' (Below.refl _ _)⟩
      case round =>
        obtain ⟨i, rfl, hi, HW⟩ := hrel
        by_cases hin : i < q2.1.length
        · obtain ⟨x, hx⟩ : ∃ x, q2.1[i]? = some x := ⟨_, List.getElem?_eq_getElem hin⟩
          have hx3 : (Dn.shift 2 q2).1[i]? = some (x.1 + 2, x.2) := by unfold Dn.shift; simp [hx]
          obtain ⟨ba, oa, rfl, -, a0, a1⟩ := HLL.out i x hx
          obtain ⟨bb, ob, rfl, -, y0, y1⟩ := HLM.out i _ hx3
          have hrg := live_range HBL.out.1 hx
          have hsm := ((Co.small_iff t).1 HBL.out.2.2.1.1).1
          have HKA := hid' (fun W (h : Below wr.heap.size wr W) => And.intro (And.intro (keep_all (Below.more HW.out h) _ _ a0) (keep_all (Below.more HW.out h) _ _ a1)) (And.intro (keep_all (Below.more HW.out h) _ _ y0) (keep_all (Below.more HW.out h) _ _ y1)))
          have hxw : IntKind.i64.wrap (x.1 + 2) = x.1 + 2 := IntWalk.i64_in _ (by omega)
          have j1 : (0 : Int) ≤ (i : Int) := by omega
          have j2 : (i : Int) < (q2.1.length : Int) := by omega
          have hiw : IntKind.i64.wrap ((i : Int) + 1) = (i : Int) + 1 := IntWalk.i64_in _ (by omega)
          have m1 : (x.1 + 2 != x.1 + 2) = false := by simp
          have m2 : (x.2 != x.2) = false := by simp
          obtain ⟨xa, xf⟩ := x
          simp only at hxw m1 m2 HKA
          clear hx hx3 a0 a1 y0 y1 hrg hsm
          go_upto_region 22 with (fail)
          refine wp_region_keep (Below wr.heap.size wr) (by kernel_rfl) (by kernel_rfl) (Below.refl _ _).drew ?_
          repeat (first
            | (refine wpKeep_skip ?_ ?_
               · rfl
               simp only [Act.put, List.setIfInBounds_toArray, List.set_cons_zero, List.set_cons_succ])
            | (apply wpKeep_val
               · rfl
               · (intro w hSw; obtain ⟨⟨a0, a1⟩, y0, y1⟩ := HKA.out w hSw; first | (go_simp; done) | (go_simp; with_reducible rfl))
               simp only [Act.put, List.setIfInBounds_toArray, List.set_cons_zero, List.set_cons_succ]))
          refine wpKeep_nil ?_
          intro w10 hS'
          have HWN := hid' (Below.more HW.out hS')
          clear hS'
          go_wp2_with fail
          go_roundw
          case rel => exact ⟨i + 1, by go_num, by omega, HWN⟩
          case measure => simp only [intOf]; omega
        · obtain rfl : i = q2.1.length := by omega
          have j3 : decide (q2.1.length < q2.1.length) = false := by simp
          have HSW := hid' (HST.out wr HW.out)
          clear hin
          go_wp2_with (first | (go_at_call 14; refine HSW.out.mono ?_; rintro e w11 ⟨rfl, b11⟩))
          go_ret
          exact ⟨rfl, HB9.out.trans ((Below.more HW.out b11).mono HB9.out.size)⟩
end Go.Proofs.YtcpobnknmegkmaaDoor
namespace Go.Proofs.YtcpobnknmegkmaaDoor
open Go.RowKit
open Rw
set_option linter.unusedVariables false
set_option linter.unusedSimpArgs false
set_option maxRecDepth 100000
/-- A slice whose rows can be appended. -/
def Src {α : Type} (W : World) (f : α → List Value) (v : Value) (M : List α) : Prop := (v = .slice none 0 0 ∧ M = []) ∨ ∃ ad c, v = .slice (some ad) M.length c ∧ ∀ j u, (M.flatMap f)[j]? = some u → W.cell? (ad.add j) = some u
theorem Src.below {α : Type} {W W' : World} {f : α → List Value} {v : Value} {M : List α} (h : Src W f v M) (B : Below W.heap.size W W') : Src W' f v M := by
  rcases h with h | ⟨ad, c, e, hc⟩
  · exact .inl h
  · exact .inr ⟨ad, c, e, fun j u hj => keep_all B _ _ (hc j u hj)⟩
theorem src_row {α : Type} {base : Nat} {W : World} {e : TypeId} {z : Nat} {v : Value} {f : α → List Value} (hf : ∀ x, (f x).length = z) {L : List α} (h : W.ownsRow base e z v L.length (L.flatMap f)) : Src W f v L := by
  obtain ⟨h0, ⟨rfl, hz⟩ | ⟨g, cap, cur, rfl, h2, h3, h4, h5, h6, h7⟩⟩ := h
  · exact .inl ⟨rfl, List.length_eq_zero_iff.1 hz⟩
  · refine .inr ⟨_, cap, rfl, fun j u hj => ?_⟩
    rw [add_gen, Nat.zero_add]
    have := take_at h7 hj
    simp only [World.cell?, h3]
    rw [Array.getElem?_toList] at this
    simpa using this
theorem one3 (day : Int) (M : List (ByteArray × Int)) : ∀ u ∈ M.flatMap (tran3 day), u.oneCell' = true := by
  intro u hu
  obtain ⟨x, -, hx⟩ := List.mem_flatMap.1 hu
  simp only [tran3, List.mem_cons, List.not_mem_nil, or_false] at hx
  rcases hx with rfl | rfl | rfl <;> rfl
theorem step_trans {w : World} {ops : Array Oper} {o : Oper} {a : Act} {K : Act → World → Prop} {Q : Exit → Act → World → Prop} {E : Prop} (hgd : o.guard = none) (s x : Operand)
    (ho : o.op = .call { callee := .builtin .append, args := #[s, x], argTypes := #[30, 30] })
    (base : Nat) (v : Value) (day : Int) (L M : List (ByteArray × Int)) (hs : a.eval s = v) (hown : TranRow base w v day L) (xv : Value) (hx : a.eval x = xv) (hM : Src w (tran3 day) xv M)
    (hbound : L.length + M.length ≤ 4000000) (hbase : base ≤ w.heap.size)
    (h : ∀ v' w', TranRow base w' v' day (L ++ M) → w.grownBy w' v.ownBlock → K (a.put o.dst v') w') :
    if Region.wanted o (yielded ops a.tmps) = true then Oper.wp Tryd.prog o a w K Q else E := by
  have hw : Region.wanted o (yielded ops a.tmps) = true := by simp [Region.wanted, hgd]
  rw [if_pos hw]
  obtain ⟨i, hi, hz, hsz, hby⟩ := info_split info_tran
  subst hx
  rcases hM with ⟨hxe, rfl⟩ | ⟨ad, c, hxe, hM⟩
  · have hrun := run_append_owned_none (P := Tryd.prog) (w := w) base 30 o.type 43 i 3 Tryd.underlying30 hi v L.length (L.flatMap (tran3 day)) hown
    have hk := h v w (by rw [List.append_nil]; exact hown) (grown_refl _ _)
    unfold Oper.wp
    simp [execOp, ho, resolve, invoke, builtin, hs, hxe, hrun, Result.andThen]
    exact hk
  · refine wp_append_own _ s x 30 ho base 43 i _ 3 32 Tryd.underlying30 hi hz hsz hby rfl (by decide) v L.length _ hs hown ad M.length c (M.flatMap (tran3 day)) hxe (cells_len (tran3 day) 3 (fun _ => rfl) M) hM (one3 day M)
      (by unfold maxLen; omega) (by omega) hbase (fun v' w' h1 h2 _ => h v' w' ?_ h2)
    show World.ownsRow w' base _ 3 v' (L ++ M).length ((L ++ M).flatMap (tran3 day))
    rw [List.length_append, List.flatMap_append]
    exact h1
theorem make_trans (W : World) (n : Nat) (hn : n ≤ 4000000) : (Instr.makeSlice 30 (.int .i64 0) (.int .i64 (n : Int))).run Tryd.prog W = .ok (.slice (some ⟨W.heap.size, 0, none⟩) 0 n) (W.alloc (.cells (madeCells (Value.agg #[.int .i64 0, .string ⟨#[]⟩, .int .i64 0]).cells (n * 3)) 43)) := by
  obtain ⟨i0, q1, q2, q3, q4⟩ := info_split info_tran
  have := run_make (P := Tryd.prog) (w := W) 30 43 i0 _ Tryd.underlying30 q1 q2 .i64 .i64 0 (n : Int) (by omega) (by omega) (by rw [q4]; omega) (by omega)
  rw [q3, Int.toNat_natCast] at this
  exact this
theorem made_trans (W : World) (day : Int) (n : Nat) (hn : n ≤ 4000000) : TranRow W.heap.size (W.alloc (.cells (madeCells (Value.agg #[.int .i64 0, .string ⟨#[]⟩, .int .i64 0]).cells (n * 3)) 43)) (.slice (some ⟨W.heap.size, 0, none⟩) 0 n) day [] :=
  World.ownsRow_made W _ n (Nat.le_refl _) (by unfold maxLen; omega) (by simp [madeCells])
/-- What a row's growth keeps. -/
theorem below_row {base z n : Nat} {w W W' : World} {t : TypeId} {v : Value} {xs : List Value} (h : Below base w W) (row : W.ownsRow base t z v n xs) (hb : base ≤ W.heap.size) (g : W.grownBy W' v.ownBlock) : Below base w W' :=
  h.trans ⟨g.os, g.tape, g.output, g.size, fun k hk => g.block k (Nat.lt_of_lt_of_le hk hb) fun e => own_lt row hk e.symm⟩
namespace Dn
open Co
theorem good_kid {op n : Int} {s : ByteArray} {ks : List T} (h : (T.mk op n s ks).good) {k : T} (hk : k ∈ ks) (h99 : k.letter = 99) : k.good := by
  obtain ⟨h1, h2, h3⟩ := h
  refine ⟨?_, h99, (ahead_kids h3).2 k hk⟩
  rw [small_iff] at h1 ⊢
  rw [T.size, T.depth] at h1
  have := sizes_mem hk
  have := depths_mem hk
  omega
def giveT (a : T) : T := .mk 25 0 ⟨#[]⟩ [a]
def bothT (a b : T) : T := .mk 27 0 ⟨#[]⟩ [a, b]
theorem give_99 {a : T} (h : (giveT a).letter = 99) : a.letter = 99 := by
  rcases contract_of h with (⟨e, -⟩ | ⟨e, -⟩) | ⟨-, k, e, hk⟩ | ⟨e, -⟩ | ⟨e, -⟩ | ⟨e, -⟩ | ⟨e, -⟩
  · exact absurd e (by decide)
  · exact absurd e (by decide)
  · obtain rfl : a = k := by simpa using e
    exact hk
  · exact absurd e (by decide)
  · exact absurd e (by decide)
  · exact absurd e (by decide)
  · exact absurd e (by decide)
theorem both_99 {a b : T} (h : (bothT a b).letter = 99) : a.letter = 99 ∧ b.letter = 99 := by
  rcases contract_of h with (⟨e, -⟩ | ⟨e, -⟩) | ⟨e, -⟩ | ⟨e, -⟩ | ⟨-, k, j, e, hk, hj⟩ | ⟨e, -⟩ | ⟨e, -⟩
  · exact absurd e (by decide)
  · exact absurd e (by decide)
  · exact absurd e (by decide)
  · exact absurd e (by decide)
  · obtain ⟨rfl, rfl⟩ : a = k ∧ b = j := by simpa using e
    exact ⟨hk, hj⟩
  · exact absurd e (by decide)
  · exact absurd e (by decide)
theorem give_begin {a : T} {day : Int} {F : List Fd.Feed} {r : R} (h : beginR (giveT a) day F = some r) : ∃ q, beginR a day F = some q ∧ r = turn (shift 1 q) := by
  unfold beginR at h ⊢
  split at h
  · rename_i hg
    have h99 := give_99 hg.1.2.1
    rw [if_pos ⟨good_kid hg.1 (by simp) h99, hg.2⟩]
    refine ⟨_, rfl, ?_⟩
    obtain rfl := Option.some.inj h
    have hE := eyes_ok hg.2.2 day
    unfold giveT
    rw [acq_25, kidA_at (k := a) rfl, neg_turn one_ok, acq_turn hE a _ _ h99 one_ok]
    congr 1
    exact acq_shift hE 1 a 0 1000000 h99
  · cases h
theorem both_begin {a b : T} {day : Int} {F : List Fd.Feed} {r : R} (h : beginR (bothT a b) day F = some r) : ∃ q p, beginR a day F = some q ∧ beginR b day F = some p ∧ r = both (shift 1 q) (shift (1 + (a.size : Nat)) p) := by
  unfold beginR at h ⊢
  split at h
  · rename_i hg
    obtain ⟨h1, h2⟩ := both_99 hg.1.2.1
    rw [if_pos ⟨good_kid hg.1 (by simp) h1, hg.2⟩, if_pos ⟨good_kid hg.1 (by simp) h2, hg.2⟩]
    refine ⟨_, _, rfl, rfl, ?_⟩
    obtain rfl := Option.some.inj h
    have hE := eyes_ok hg.2.2 day
    unfold bothT
    rw [acq_27, kidA_at (k := a) (i := 0) rfl, kidA_at (k := b) (i := 1) rfl]
    congr 1
    · exact acq_shift hE 1 a 0 1000000 h1
    · have := acq_shift hE (1 + (a.size : Nat)) b 0 1000000 h2
      rw [← this]
      congr 1
      simp [sizes]
  · cases h
theorem acq_out {E : Eyes} (hE : EyesOk E) (t : T) : ∀ (a f : Int), t.letter = 99 → NumOk f → ∀ x ∈ (acq E t a f).2, NumOk x.2 := by
  induction t using T.ind with | h op n s ks ih => ?_
  intro a f hx hf x hxm
  have kid : ∀ (i : Nat) (k : T) (g : Int), ks[i]? = some k → k.letter = 99 → NumOk g → x ∈ (kidA E ks i a g).2 → NumOk x.2 := fun i k g hk hkx hg hm => by
    rw [kidA_at hk] at hm
    exact ih k (List.mem_of_getElem? hk) _ g hkx hg x hm
  rcases contract_of hx with (⟨rfl, rfl⟩ | ⟨rfl, rfl⟩) | ⟨h, k, rfl, hk⟩ | ⟨rfl, o, k, rfl, ho, hk⟩ | ⟨h, k, j, rfl, hk, hj⟩ | ⟨rfl, o, k, j, rfl, ho, hk, hj⟩ | ⟨rfl, o, k, rfl, ho, hk⟩
  · rw [acq_23] at hxm; cases hxm
  · rw [acq_24] at hxm
    by_cases h0 : f = 0
    · rw [if_pos h0] at hxm; cases hxm
    · rw [if_neg h0] at hxm
      obtain rfl := List.mem_singleton.1 hxm
      exact hf
  · rcases h with rfl | rfl
    · rw [acq_25] at hxm; exact kid 0 k _ rfl hk num_neg hxm
    · rw [acq_29] at hxm
      split at hxm
      · exact kid 0 k _ rfl hk hf hxm
      · cases hxm
  · rw [acq_26] at hxm
    split at hxm
    · cases hxm
    · exact kid 1 k _ rfl hk (num_mul _ _) hxm
  · rcases h with rfl | rfl
    · rw [acq_27] at hxm
      rcases List.mem_append.1 hxm with h | h
      · exact kid 0 k _ rfl hk hf h
      · exact kid 1 j _ rfl hj hf h
    · rw [acq_31] at hxm
      split at hxm
      · exact kid 1 j _ rfl hj hf hxm
      · cases hxm
  · rw [acq_28] at hxm
    split at hxm
    · cases hxm
    · rename_i x' hv
      rcases (value_ty hE o 98 x' ho (by decide) (by decide) hv).1 rfl with rfl | rfl
      · exact kid 2 j _ rfl hj hf hxm
      · exact kid 1 k _ rfl hk hf hxm
  · rw [acq_30] at hxm
    split at hxm
    · cases hxm
    · split at hxm
      · exact kid 1 k _ rfl hk hf hxm
      · cases hxm
theorem begin_out {t : T} {day : Int} {F : List Fd.Feed} {r : R} (h : beginR t day F = some r) : ∀ x ∈ r.2, NumOk x.2 := by
  unfold beginR at h
  split at h
  · rename_i hg
    obtain rfl := Option.some.inj h
    exact acq_out (eyes_ok hg.2.2 day) t 0 1000000 hg.1.2.1 one_ok
  · cases h
end Dn
theorem errOf_none : Dn.errOf none = 150 := rfl
theorem errOf_some (r : Dn.R) : Dn.errOf (some r) = 0 := rfl
/-- The results of Begin or Step, by their parts. -/
theorem DnPost.split {o : Option Dn.R} {day : Int} {w w' : World} {e : Ending} (h : DnPost o day w e w') : Below w.heap.size w w' ∧ ∃ vl vo, e = .returned (.tuple #[vl, vo, .int .i64 (Dn.errOf o)]) ∧ ∀ r, o = some r → LiveRow w.heap.size w' vl r.1 ∧ TranRow w.heap.size w' vo day r.2 := by
  obtain ⟨hb, h⟩ := h
  refine ⟨hb, ?_⟩
  cases o with
  | none => exact ⟨.slice none 0 0, .slice none 0 0, h, fun r e => (by cases e)⟩
  | some r =>
    obtain ⟨vl, vo, e, h1, h2⟩ := h
    exact ⟨vl, vo, e, fun r' e' => (by cases e'; exact ⟨h1, h2⟩)⟩
theorem give_in {ok : Nat → Prop} {W : World} {k : Nat} {t : Co.T} {x y z u : Value} (hb : W.heap[k]? = some (.cells #[x, y, z, u] 24 (0, 0))) (hk : ok k) (ht : CoreIn ok W t (.agg #[x, y, z, u])) :
    CoreIn ok W (Dn.giveT t) (.agg #[.int .i64 25, .int .i64 0, .string ⟨#[]⟩, .slice (some ⟨k, 0, none⟩) 1 1]) := by
  have cb := fun i v h => bcells hb i v h
  have i64 : ∀ n : Int, -9223372036854775808 ≤ n ∧ n ≤ 9223372036854775807 → I64 n := fun n h => h
  refine CoreIn.close (ks := [t]) ⟨Nat.le_refl 1, by decide⟩ (i64 _ (by omega)) (i64 _ (by omega)) (by decide) (fun i k' hk' => ?_)
  match i with
  | 0 =>
    obtain rfl : _ = k' := by simpa using hk'
    exact ⟨_, ⟨k, 0, _, _, _, _, rfl, hk, rfl, cb 0 _ rfl, cb 1 _ rfl, cb 2 _ rfl, cb 3 _ rfl⟩, ht⟩
  | _ + 1 => simp at hk'
theorem both_in {ok : Nat → Prop} {W : World} {k : Nat} {a b : Co.T} {x y z u x' y' z' u' : Value} (hb : W.heap[k]? = some (.cells #[x, y, z, u, x', y', z', u'] 24 (0, 0))) (hk : ok k) (ha : CoreIn ok W a (.agg #[x, y, z, u])) (hb' : CoreIn ok W b (.agg #[x', y', z', u'])) :
    CoreIn ok W (Dn.bothT a b) (.agg #[.int .i64 27, .int .i64 0, .string ⟨#[]⟩, .slice (some ⟨k, 0, none⟩) 2 2]) := by
  have cb := fun i v h => bcells hb i v h
  have i64 : ∀ n : Int, -9223372036854775808 ≤ n ∧ n ≤ 9223372036854775807 → I64 n := fun n h => h
  refine CoreIn.close (ks := [a, b]) ⟨Nat.le_refl 2, by decide⟩ (i64 _ (by omega)) (i64 _ (by omega)) (by decide) (fun i k' hk' => ?_)
  match i with
  | 0 =>
    obtain rfl : _ = k' := by simpa using hk'
    exact ⟨_, ⟨k, 0, _, _, _, _, rfl, hk, rfl, cb 0 _ rfl, cb 1 _ rfl, cb 2 _ rfl, cb 3 _ rfl⟩, ha⟩
  | 1 =>
    obtain rfl : _ = k' := by simpa using hk'
    exact ⟨_, ⟨k, 0, _, _, _, _, rfl, hk, rfl, cb 4 _ rfl, cb 5 _ rfl, cb 6 _ rfl, cb 7 _ rfl⟩, hb'⟩
  | _ + 2 => simp at hk'
set_option maxHeartbeats 16000000 in
theorem law_parts (a b : Co.T) (va vb : Value) (day : Int) (F : List Fd.Feed) (vf : Value) (w : World) (ha : CoreIn (fun _ => True) w a va) (hb : CoreIn (fun _ => True) w b vb) (hsab : a.size + b.size ≤ 1048576) (hF : FeedsAt w vf F) :
    Calls Tryd.prog 5 #[va, vb, .int .i64 day, vf] w (True1 w) := by
  obtain ⟨p, c, hve, -⟩ := ha.open
  obtain ⟨op, tn, s, ln, rfl⟩ : ∃ op n s ln, va = .agg #[.int .i64 op, .int .i64 n, .string s, .slice p ln c] := ⟨_, _, _, _, hve⟩
  obtain ⟨p', c', hve', -⟩ := hb.open
  obtain ⟨op', tn', s', ln', rfl⟩ : ∃ op n s ln, vb = .agg #[.int .i64 op, .int .i64 n, .string s, .slice p' ln c'] := ⟨_, _, _, _, hve'⟩
  clear hve hve'
  have z1 : ∀ (W : World) (o : Obj) (k : Nat) (x : Obj), W.heap[k]? = some x → (W.alloc o).heap[k]? = some x := fun W o k x h => (((Below.refl W.heap.size W).alloc (Nat.le_refl _) o).block k (lt_of_block h)).trans h
  have HB0 := hid' (((Below.refl w.heap.size w).alloc (Nat.le_refl _) (.cells #[.int .i64 op, .int .i64 tn, .string s, .slice p ln c] 24)).alloc (by simp) (.cells #[.int .i64 op', .int .i64 tn', .string s', .slice p' ln' c'] 24))
  have HA0 := hid' (z1 _ (.cells #[.int .i64 op', .int .i64 tn', .string s', .slice p' ln' c'] 24) _ _ (heap_alloc_new w (.cells #[.int .i64 op, .int .i64 tn, .string s, .slice p ln c] 24)))
  have HC0 := hid' (show ((w.alloc (.cells #[.int .i64 op, .int .i64 tn, .string s, .slice p ln c] 24)).alloc (.cells #[.int .i64 op', .int .i64 tn', .string s', .slice p' ln' c'] 24)).heap[w.heap.size + 1]? = some (.cells #[.int .i64 op', .int .i64 tn', .string s', .slice p' ln' c'] 24 (0, 0)) from by
    have := heap_alloc_new (w.alloc (.cells #[.int .i64 op, .int .i64 tn, .string s, .slice p ln c] 24)) (.cells #[.int .i64 op', .int .i64 tn', .string s', .slice p' ln' c'] 24)
    simpa only [World.size_alloc] using this)
  have HVA := hid' ha
  have HVB := hid' hb
  have HF := hid' hF
  obtain ⟨fp, fc, rfl, -, -⟩ := hF
  have HSZ := hid' (show a.size ≤ 1048576 ∧ b.size ≤ 1048576 ∧ a.size + b.size ≤ 1048576 from ⟨by omega, by omega, hsab⟩)
  clear ha hb hsab
  go_enter Tryd.func5, Tryd.ntmps5
  go_upto_region 1 with (fail)
  generalize World.alloc _ _ = w1 at *
  have HSH := hid' (fun W => shown15_any W)
  go_upto_region 2 with (first | (go_at_call 7; refine (HSH.out _).mono ?_; rintro e w2 ⟨rfl, b2⟩; have HB2 := hid' (HB0.out.trans (b2.mono HB0.out.size)); have HA2 := hid' (box_below b2 HA0.out); have HC2 := hid' (box_below b2 HC0.out); clear b2))
  clear HA0 HC0
  obtain ⟨rA, hrA⟩ : ∃ r, Hid (Dn.beginR a day F = r) := ⟨_, hid' rfl⟩
  obtain ⟨rB, hrB⟩ : ∃ r, Hid (Dn.beginR b day F = r) := ⟨_, hid' rfl⟩
  obtain ⟨rG, hrG⟩ : ∃ r, Hid (Dn.beginR (Dn.giveT a) day F = r) := ⟨_, hid' rfl⟩
  obtain ⟨rO, hrO⟩ : ∃ r, Hid (Dn.beginR (Dn.bothT a b) day F = r) := ⟨_, hid' rfl⟩
  have HGA := hid' (dnbegin_any a day F (fun _ => True) _ _ w2 (HVA.out.under HB2.out) (Nat.le_trans HSZ.out.1 (by decide)) (HF.out.below HB2.out))
  rw [hrA.out] at HGA
  obtain ⟨c0, c1, c2, c3⟩ := heap_cells4 HA2.out
  go_upto_region 3 with (first | (go_at_call 8; refine HGA.out.mono ?_; intro e w3 h3; obtain ⟨b3, vlA, voA, rfl, hA⟩ := h3.split))
  have HB3 := hid' (HB2.out.trans (b3.mono HB2.out.size))
  have HA3 := hid' (box_below b3 HA2.out)
  have HC3 := hid' (box_below b3 HC2.out)
  have HRA := hid' hA
  clear b3 hA c0 c1 c2 c3 HGA HA2 HC2 h3
  have HGB := hid' (dnbegin_any b day F (fun _ => True) _ _ w3 (HVB.out.under HB3.out) (Nat.le_trans HSZ.out.2.1 (by decide)) (HF.out.below HB3.out))
  rw [hrB.out] at HGB
  obtain ⟨c0, c1, c2, c3⟩ := heap_cells4 HC3.out
  go_upto_region 4 with (first | (go_at_call 8; refine HGB.out.mono ?_; intro e w4 h4; obtain ⟨b4, vlB, voB, rfl, hB⟩ := h4.split))
  have HB34 := hid' b4
  have HB4 := hid' (HB3.out.trans (b4.mono HB3.out.size))
  have HA4 := hid' (box_below b4 HA3.out)
  have HC4 := hid' (box_below b4 HC3.out)
  have HRB := hid' hB
  clear b4 hB c0 c1 c2 c3 HGB HA3 HC3 h4
  obtain ⟨k, hk⟩ : ∃ k, k = w4.heap.size := ⟨_, rfl⟩
  have n1 := z1 _ (.cells #[.int .i64 27, .int .i64 0, .string ⟨#[]⟩, .slice (some ⟨w4.heap.size + 2, 0, none⟩) 2 2] 24) _ _ (z1 _ (.cells #[.int .i64 op, .int .i64 tn, .string s, .slice p ln c, .int .i64 op', .int .i64 tn', .string s', .slice p' ln' c'] 24) _ _ (z1 _ (.cells #[.int .i64 25, .int .i64 0, .string ⟨#[]⟩, .slice (some ⟨w4.heap.size, 0, none⟩) 1 1] 24) _ _ (heap_alloc_new w4 (.cells #[.int .i64 op, .int .i64 tn, .string s, .slice p ln c] 24))))
  have n2 := z1 _ (.cells #[.int .i64 27, .int .i64 0, .string ⟨#[]⟩, .slice (some ⟨w4.heap.size + 2, 0, none⟩) 2 2] 24) _ _ (z1 _ (.cells #[.int .i64 op, .int .i64 tn, .string s, .slice p ln c, .int .i64 op', .int .i64 tn', .string s', .slice p' ln' c'] 24) _ _ (heap_alloc_new (w4.alloc (.cells #[.int .i64 op, .int .i64 tn, .string s, .slice p ln c] 24)) (.cells #[.int .i64 25, .int .i64 0, .string ⟨#[]⟩, .slice (some ⟨w4.heap.size, 0, none⟩) 1 1] 24)))
  have n3 := z1 _ (.cells #[.int .i64 27, .int .i64 0, .string ⟨#[]⟩, .slice (some ⟨w4.heap.size + 2, 0, none⟩) 2 2] 24) _ _ (heap_alloc_new ((w4.alloc (.cells #[.int .i64 op, .int .i64 tn, .string s, .slice p ln c] 24)).alloc (.cells #[.int .i64 25, .int .i64 0, .string ⟨#[]⟩, .slice (some ⟨w4.heap.size, 0, none⟩) 1 1] 24)) (.cells #[.int .i64 op, .int .i64 tn, .string s, .slice p ln c, .int .i64 op', .int .i64 tn', .string s', .slice p' ln' c'] 24))
  have n4 := heap_alloc_new (((w4.alloc (.cells #[.int .i64 op, .int .i64 tn, .string s, .slice p ln c] 24)).alloc (.cells #[.int .i64 25, .int .i64 0, .string ⟨#[]⟩, .slice (some ⟨w4.heap.size, 0, none⟩) 1 1] 24)).alloc (.cells #[.int .i64 op, .int .i64 tn, .string s, .slice p ln c, .int .i64 op', .int .i64 tn', .string s', .slice p' ln' c'] 24)) (.cells #[.int .i64 27, .int .i64 0, .string ⟨#[]⟩, .slice (some ⟨w4.heap.size + 2, 0, none⟩) 2 2] 24)
  have b5 := ((((Below.refl w4.heap.size w4).alloc (Nat.le_refl _) (.cells #[.int .i64 op, .int .i64 tn, .string s, .slice p ln c] 24)).alloc (by simp) (.cells #[.int .i64 25, .int .i64 0, .string ⟨#[]⟩, .slice (some ⟨w4.heap.size, 0, none⟩) 1 1] 24)).alloc (by simp; omega) (.cells #[.int .i64 op, .int .i64 tn, .string s, .slice p ln c, .int .i64 op', .int .i64 tn', .string s', .slice p' ln' c'] 24)).alloc (by simp; omega) (.cells #[.int .i64 27, .int .i64 0, .string ⟨#[]⟩, .slice (some ⟨w4.heap.size + 2, 0, none⟩) 2 2] 24)
  simp only [World.size_alloc] at n1 n2 n3 n4
  obtain ⟨c0, c1, c2, c3⟩ := heap_cells4 HA4.out
  obtain ⟨d0, d1, d2, d3⟩ := heap_cells4 HC4.out
  have ac := fun (v : Value) (i : Nat) (h : w4.cell? ⟨w.heap.size, i, none⟩ = some v) (o : Obj) => alloc_cell h o
  have c0' := alloc_cell (alloc_cell c0 (.cells #[.int .i64 op, .int .i64 tn, .string s, .slice p ln c] 24)) (.cells #[.int .i64 25, .int .i64 0, .string ⟨#[]⟩, .slice (some ⟨w4.heap.size, 0, none⟩) 1 1] 24)
  have c1' := alloc_cell (alloc_cell c1 (.cells #[.int .i64 op, .int .i64 tn, .string s, .slice p ln c] 24)) (.cells #[.int .i64 25, .int .i64 0, .string ⟨#[]⟩, .slice (some ⟨w4.heap.size, 0, none⟩) 1 1] 24)
  have c2' := alloc_cell (alloc_cell c2 (.cells #[.int .i64 op, .int .i64 tn, .string s, .slice p ln c] 24)) (.cells #[.int .i64 25, .int .i64 0, .string ⟨#[]⟩, .slice (some ⟨w4.heap.size, 0, none⟩) 1 1] 24)
  have c3' := alloc_cell (alloc_cell c3 (.cells #[.int .i64 op, .int .i64 tn, .string s, .slice p ln c] 24)) (.cells #[.int .i64 25, .int .i64 0, .string ⟨#[]⟩, .slice (some ⟨w4.heap.size, 0, none⟩) 1 1] 24)
  have d0' := alloc_cell (alloc_cell d0 (.cells #[.int .i64 op, .int .i64 tn, .string s, .slice p ln c] 24)) (.cells #[.int .i64 25, .int .i64 0, .string ⟨#[]⟩, .slice (some ⟨w4.heap.size, 0, none⟩) 1 1] 24)
  have d1' := alloc_cell (alloc_cell d1 (.cells #[.int .i64 op, .int .i64 tn, .string s, .slice p ln c] 24)) (.cells #[.int .i64 25, .int .i64 0, .string ⟨#[]⟩, .slice (some ⟨w4.heap.size, 0, none⟩) 1 1] 24)
  have d2' := alloc_cell (alloc_cell d2 (.cells #[.int .i64 op, .int .i64 tn, .string s, .slice p ln c] 24)) (.cells #[.int .i64 25, .int .i64 0, .string ⟨#[]⟩, .slice (some ⟨w4.heap.size, 0, none⟩) 1 1] 24)
  have d3' := alloc_cell (alloc_cell d3 (.cells #[.int .i64 op, .int .i64 tn, .string s, .slice p ln c] 24)) (.cells #[.int .i64 25, .int .i64 0, .string ⟨#[]⟩, .slice (some ⟨w4.heap.size, 0, none⟩) 1 1] 24)
  go_upto_region 6 with (fail)
  have HB45 := hid' b5
  have HB5 := hid' (HB4.out.trans (b5.mono HB4.out.size))
  have HN1 := hid' n1
  have HN2 := hid' n2
  have HN3 := hid' n3
  have HN4 := hid' n4
  have HA5 := hid' (box_below b5 HA4.out)
  clear ac b5 n1 n2 n3 n4 c0 c1 c2 c3 d0 d1 d2 d3 c0' c1' c2' c3' d0' d1' d2' d3' HA4 HC4 z1
  generalize World.alloc _ _ = w5 at *
  clear hk
  generalize w4.heap.size = kb at HN1 HN2 HN3 HN4 ⊢
  have HGG := hid' (dnbegin_any (Dn.giveT a) day F (fun _ => True) _ _ w5 (give_in HN1.out trivial (HVA.out.under HB5.out)) (by unfold Dn.giveT; have := HSZ.out; simp only [Co.T.size, Co.sizes]; omega) (HF.out.below HB5.out))
  rw [hrG.out] at HGG
  obtain ⟨c0, c1, c2, c3⟩ := heap_cells4 HN2.out
  go_upto_region 7 with (first | (go_at_call 8; refine HGG.out.mono ?_; intro e w6 h6; obtain ⟨b6, vlG, voG, rfl, hG⟩ := h6.split))
  have HB56 := hid' b6
  have HB6 := hid' (HB5.out.trans (b6.mono HB5.out.size))
  have HN36 := hid' (box_below b6 HN3.out)
  have HN46 := hid' (box_below b6 HN4.out)
  have HA6 := hid' (box_below b6 HA5.out)
  have HRG := hid' hG
  clear b6 hG c0 c1 c2 c3 HGG HN1 HN2 HN3 HN4 HA5 h6
  have HGO := hid' (dnbegin_any (Dn.bothT a b) day F (fun _ => True) _ _ w6 (both_in HN36.out trivial (HVA.out.under HB6.out) (HVB.out.under HB6.out)) (by unfold Dn.bothT; have := HSZ.out; simp only [Co.T.size, Co.sizes]; omega) (HF.out.below HB6.out))
  rw [hrO.out] at HGO
  obtain ⟨c0, c1, c2, c3⟩ := heap_cells4 HN46.out
  go_upto_region 8 with (first | (go_at_call 8; refine HGO.out.mono ?_; intro e w7 h7; obtain ⟨b7, vlO, voO, rfl, hO⟩ := h7.split))
  have HB67 := hid' b7
  have HB7 := hid' (HB6.out.trans (b7.mono HB6.out.size))
  have HA7 := hid' (box_below b7 HA6.out)
  have HRO := hid' hO
  clear b7 hO c0 c1 c2 c3 HGO HN36 HN46 HA6 h7
  have HGV := hid' (fun r (h : rG = some r) => Dn.give_begin (hrG.out.trans h))
  have HOV := hid' (fun r (h : rO = some r) => Dn.both_begin (hrO.out.trans h))
  cases hqG : rG with
  | none =>
    rw [errOf_none]
    clear HGV HRG
    cases hqA : rA with
    | none =>
      rw [errOf_none]
      go_wp2_with fail
      go_ret
      exact ⟨rfl, HB7.out⟩
    | some q =>
      rw [errOf_some]
      go_wp2_with fail
      go_ret
      exact ⟨rfl, HB7.out⟩
  | some g =>
    obtain ⟨q, hq, rfl⟩ := HGV.out g hqG
    have hqA : rA = some q := by rw [← hrA.out]; exact hq
    subst hqA
    rw [errOf_some, errOf_some]
    obtain ⟨hlA, htA⟩ := HRA.out q rfl
    obtain ⟨hlG, htG⟩ := HRG.out _ hqG
    have HBL := hid' (begin_lives hq)
    have HBO := hid' (Dn.begin_out hq)
    have hlen := HBL.out.2.1
    have HB47 := hid' (HB45.out.trans ((HB56.out.trans (HB67.out.mono HB56.out.size)).mono HB45.out.size))
    have HB37 := hid' (HB34.out.trans (HB47.out.mono HB34.out.size))
    have HLA := hid' ((hlA.seen (by omega)).below HB37.out)
    have HTA := hid' ((TranRow.seen htA (by omega)).below HB37.out)
    have HSA := hid' ((src_row (f := tran3 day) (fun _ => rfl) htA).below HB37.out)
    have HLG := hid' ((LiveRow.seen hlG (by simp [Dn.shift, Dn.turn]; omega)).below HB67.out)
    have HTG := hid' ((TranRow.seen htG (by simp [Dn.shift, Dn.turn]; omega)).below HB67.out)
    obtain ⟨lpA, lcA, e1, -, hla⟩ := id HLA.out
    obtain ⟨tpA, tcA, e2, -, hta⟩ := id HTA.out
    obtain ⟨lpG, lcG, e3, -, hlg⟩ := id HLG.out
    obtain ⟨tpG, tcG, e4, -, htg⟩ := id HTG.out
    rw [show (Dn.turn (Dn.shift 1 q)).1.length = q.1.length by simp [Dn.shift, Dn.turn]] at e3
    rw [show (Dn.turn (Dn.shift 1 q)).2.length = q.2.length by simp [Dn.shift, Dn.turn]] at e4
    subst e1
    subst e2
    subst e3
    subst e4
    have HLLA := hid' hla
    have HTTA := hid' hta
    have HLLG := hid' hlg
    have HTTG := hid' htg
    have hb1 : (q.1.length : Int) ≤ 2000 := by omega
    have hb2 : (q.2.length : Int) ≤ 2000 := by omega
    have HLN := hid' hlen
    clear hlA htA hlG htG hla hta hlg htg hlen HGV HRA HRG
    go_wp2_with fail
    go_loopw [24] (fun iv wz => ∃ i : Nat, iv = .int .i64 (i : Int) ∧ i ≤ q.2.length ∧ Hid (Below w7.heap.size w7 wz)) (fun iv _ => q.2.length - (intOf iv).toNat)
    case atStart => exact ⟨0, rfl, Nat.zero_le _, hid' (Below.refl _ _)⟩
    case round =>
      obtain ⟨i, rfl, hi, HW⟩ := hrel
      by_cases hin : i < q.2.length
      · obtain ⟨x, hx⟩ : ∃ x, q.2[i]? = some x := ⟨_, List.getElem?_eq_getElem hin⟩
        have hx3 : (Dn.turn (Dn.shift 1 q)).2[i]? = some (x.1, -x.2) := by unfold Dn.shift Dn.turn; simp [hx]
        obtain ⟨ba, oa, rfl, -, a0, a1, a2⟩ := HTTA.out i x hx
        obtain ⟨bb, ob, rfl, -, y0, y1, y2⟩ := HTTG.out i _ hx3
        have hno := HBO.out x (List.mem_of_getElem? hx)
        have HKA := hid' (fun W (h : Below wr.heap.size wr W) => And.intro (And.intro (keep_all (Below.more HW.out h) _ _ a0) (And.intro (keep_all (Below.more HW.out h) _ _ a1) (keep_all (Below.more HW.out h) _ _ a2))) (And.intro (keep_all (Below.more HW.out h) _ _ y0) (And.intro (keep_all (Below.more HW.out h) _ _ y1) (keep_all (Below.more HW.out h) _ _ y2))))
        obtain ⟨xs, xf⟩ := x
        simp only at HKA hno
        have hxw : IntKind.i64.wrap (-xf) = -xf := IntWalk.i64_in _ (by unfold Dn.NumOk at hno; omega)
        have j1 : (0 : Int) ≤ (i : Int) := by omega
        have j2 : (i : Int) < (q.2.length : Int) := by omega
        have hiw : IntKind.i64.wrap ((i : Int) + 1) = (i : Int) + 1 := IntWalk.i64_in _ (by omega)
        have m1 : (-xf != -xf) = false := by simp
        have m2 : (day != day) = false := by simp
        have m3 : (xs.toList != xs.toList) = false := by simp
        have m4 : (xs.toList == xs.toList) = true := by simp
        clear hx hx3 a0 a1 a2 y0 y1 y2 hno
        go_upto_region 15 with (fail)
        refine wp_region_keep (Below wr.heap.size wr) (by kernel_rfl) (by kernel_rfl) (Below.refl _ _).drew ?_
        repeat (first
          | (refine wpKeep_skip ?_ ?_
             · rfl
             simp only [Act.put, List.setIfInBounds_toArray, List.set_cons_zero, List.set_cons_succ])
          | (apply wpKeep_val
             · rfl
             · (intro w hSw; obtain ⟨⟨a0, a1, a2⟩, y0, y1, y2⟩ := HKA.out w hSw; first | (go_simp; done) | (go_simp; with_reducible rfl))
             simp only [Act.put, List.setIfInBounds_toArray, List.set_cons_zero, List.set_cons_succ]))
        refine wpKeep_nil ?_
        intro w10 hS'
        have HWN := hid' (Below.more HW.out hS')
        clear hS'
        go_wp2_with fail
        go_roundw
        case rel => exact ⟨i + 1, by go_num, by omega, HWN⟩
        case measure => simp only [intOf]; omega
      · obtain rfl : i = q.2.length := by omega
        have j3 : decide (q.2.length < q.2.length) = false := by simp
        clear hin
        go_wp2_with fail
        clear j3
        obtain ⟨wa, hwa⟩ : ∃ wa, wa = wr := ⟨_, rfl⟩
        have HWA := hid' (show Below w7.heap.size w7 wa by rw [hwa]; exact HW.out)
        rw [← hwa]
        clear hwa HW
        go_loopw [25] (fun iv wz => ∃ i : Nat, iv = .int .i64 (i : Int) ∧ i ≤ q.1.length ∧ Hid (Below w7.heap.size w7 wz)) (fun iv _ => q.1.length - (intOf iv).toNat)
        case atStart => exact ⟨0, rfl, Nat.zero_le _, HWA⟩
        case round =>
          obtain ⟨i, rfl, hi, HW⟩ := hrel
          by_cases hin : i < q.1.length
          · obtain ⟨x, hx⟩ : ∃ x, q.1[i]? = some x := ⟨_, List.getElem?_eq_getElem hin⟩
            have hx3 : (Dn.turn (Dn.shift 1 q)).1[i]? = some (x.1 + 1, -x.2) := by unfold Dn.shift Dn.turn; simp [hx]
            obtain ⟨ba, oa, rfl, -, a0, a1⟩ := HLLA.out i x hx
            obtain ⟨bb, ob, rfl, -, y0, y1⟩ := HLLG.out i _ hx3
            have hrg := live_range HBL.out.1 hx
            have hsm := ((Co.small_iff a).1 HBL.out.2.2.1.1).1
            have HKA := hid' (fun W (h : Below wr.heap.size wr W) => And.intro (And.intro (keep_all (Below.more HW.out h) _ _ a0) (keep_all (Below.more HW.out h) _ _ a1)) (And.intro (keep_all (Below.more HW.out h) _ _ y0) (keep_all (Below.more HW.out h) _ _ y1)))
            obtain ⟨xa, xf⟩ := x
            simp only at HKA hrg
            have hxw : IntKind.i64.wrap (-xf) = -xf := IntWalk.i64_in _ (by have := hrg.2; unfold Dn.NumOk at this; omega)
            have hxw2 : IntKind.i64.wrap (xa + 1) = xa + 1 := IntWalk.i64_in _ (by omega)
            have j1 : (0 : Int) ≤ (i : Int) := by omega
            have j2 : (i : Int) < (q.1.length : Int) := by omega
            have hiw : IntKind.i64.wrap ((i : Int) + 1) = (i : Int) + 1 := IntWalk.i64_in _ (by omega)
            have m1 : (-xf != -xf) = false := by simp
            have m2 : (xa + 1 != xa + 1) = false := by simp
            clear hx hx3 a0 a1 y0 y1 hrg hsm
            go_upto_region 20 with (fail)
            refine wp_region_keep (Below wr.heap.size wr) (by kernel_rfl) (by kernel_rfl) (Below.refl _ _).drew ?_
            repeat (first
              | (refine wpKeep_skip ?_ ?_
                 · rfl
                 simp only [Act.put, List.setIfInBounds_toArray, List.set_cons_zero, List.set_cons_succ])
              | (apply wpKeep_val
                 · rfl
                 · (intro w hSw; obtain ⟨⟨a0, a1⟩, y0, y1⟩ := HKA.out w hSw; first | (go_simp; done) | (go_simp; with_reducible rfl))
                 simp only [Act.put, List.setIfInBounds_toArray, List.set_cons_zero, List.set_cons_succ]))
            refine wpKeep_nil ?_
            intro w10 hS'
            have HWN := hid' (Below.more HW.out hS')
            clear hS'
            go_wp2_with fail
            go_roundw
            case rel => exact ⟨i + 1, by go_num, by omega, HWN⟩
            case measure => simp only [intOf]; omega
          · obtain rfl : i = q.1.length := by omega
            have j3 : decide (q.1.length < q.1.length) = false := by simp
            have HW8 := hid' (HB7.out.trans (HW.out.mono HB7.out.size))
            clear hin
            cases hqO : rO with
            | none =>
              rw [errOf_none]
              cases hqB : rB with
              | none =>
                rw [errOf_none]
                go_wp2_with fail
                go_ret
                exact ⟨rfl, HW8.out⟩
              | some p2 =>
                rw [errOf_some]
                go_wp2_with fail
                go_ret
                exact ⟨rfl, HW8.out⟩
            | some r4 =>
              obtain ⟨q', p2, hq', hp, hr4⟩ := HOV.out r4 hqO
              obtain rfl : q' = q := Option.some.inj (hq'.symm.trans hq)
              have hqB : rB = some p2 := by rw [← hrB.out]; exact hp
              subst hqB
              rw [errOf_some, errOf_some]
              clear HOV
              obtain ⟨hlO, htO⟩ := HRO.out _ hqO
              obtain ⟨hlB, htB⟩ := HRB.out p2 rfl
              have HBM := hid' (begin_lives hp)
              have hlen2 := HBM.out.2.1
              have hlen1 := HLN.out
              have HLO := hid' (show r4.1.length = q'.1.length + p2.1.length ∧ r4.2.length = q'.2.length + p2.2.length from by rw [hr4]; simp [Dn.both, Dn.shift])
              have HR2 := hid' (show r4.2 = q'.2 ++ p2.2 from by rw [hr4]; rfl)
              have HR1 := hid' (show r4.1 = (Dn.both (Dn.shift 1 q') (Dn.shift (1 + (a.size : Int)) p2)).1 from by rw [hr4])
              clear hr4
              have HXO := hid' (((LiveRow.seen hlO (by rw [HLO.out.1]; omega)).below HW.out))
              have HYO := hid' (((TranRow.seen htO (by rw [HLO.out.2]; omega)).below HW.out))
              have HW4 := hid' (HB47.out.trans (HW.out.mono HB47.out.size))
              have HLB := hid' ((LiveRow.seen hlB (by omega)).below HW4.out)
              have HSB := hid' ((src_row (f := tran3 day) (fun _ => rfl) htB).below HW4.out)
              have HSA2 := hid' (HSA.out.below HW.out)
              have HLA2 := hid' (HLA.out.below HW.out)
              obtain ⟨lpB, lcB, e1, -, hlb⟩ := id HLB.out
              obtain ⟨tpB, tcB, e2⟩ := row_form htB
              subst e1
              subst e2
              have HLLB := hid' hlb
              have HAB := hid' (box_below HW.out HA7.out)
              have HLN2 := hid' (And.intro hlen1 hlen2)
              have hb3 : (p2.1.length : Int) ≤ 2000 := by omega
              clear hlO htO hlB htB hlb hlen1 hlen2 HRO HRB HLLG HTTG HTTA HLA HTA HSA HLG HTG HWA HBO
              obtain ⟨wb, hwb⟩ : ∃ wb, wb = wr := ⟨_, rfl⟩
              have HW8b := hid' (show Below w.heap.size w wb by rw [hwb]; exact HW8.out)
              rw [← hwb] at HXO HYO HLB HSB HSA2 HLA2 HAB ⊢
              clear hwb HW HW8 HW4 j3
              have HSZA := hid' (refSize_any a (fun _ => True) _ wb (HVA.out.under HW8b.out) (Nat.le_trans HSZ.out.1 (by decide)))
              have HSA3 := hid' (((Co.small_iff a).1 HBL.out.2.2.1.1).1)
              have HSB3 := hid' (((Co.small_iff b).1 HBM.out.2.2.1.1).1)
              obtain ⟨sz, hsz⟩ : ∃ sz : Int, Hid ((a.size : Int) = sz) := ⟨_, hid' rfl⟩
              rw [hsz.out] at HSZA
              have HSR := hid' (show 0 ≤ sz ∧ sz ≤ 2000 by rw [← hsz.out]; have := HSA3.out; omega)
              obtain ⟨c0, c1, c2, c3⟩ := heap_cells4 HAB.out
              go_upto_region 25 with (first | (go_at_call 15; refine HSZA.out.mono ?_; rintro e w9 ⟨rfl, b9⟩))
              have HW9 := hid' (HW8b.out.trans (b9.mono HW8b.out.size))
              have HX9 := hid' (HXO.out.below b9)
              have HY9 := hid' (HYO.out.below b9)
              have HSB9 := hid' (HSB.out.below b9)
              have HSA9 := hid' (HSA2.out.below b9)
              have HLA9 := hid' (HLA2.out.below b9)
              have HLB9 := hid' (HLB.out.below b9)
              clear b9 c0 c1 c2 c3 HXO HYO HSB HSA2 HLA2 HLB HAB HSZA HLLA HLLB
              obtain ⟨_, _, e1, -, hla⟩ := id HLA9.out
              cases e1
              obtain ⟨_, _, e1, -, hlb⟩ := id HLB9.out
              cases e1
              have HLLA := hid' hla
              have HLLB := hid' hlb
              clear hla hlb
              have HROW0 := hid' (show LiveRow w9.heap.size w9 (.slice none 0 0) ((q'.1.take 0).map fun x => (x.1 + 1, x.2)) from World.ownsRow_nil _ _ _ _)
              go_wp2_with fail
              go_loopw [27, 28] (fun lv iv wz => ∃ i : Nat, iv = .int .i64 (i : Int) ∧ i ≤ q'.1.length ∧ Hid (LiveRow w9.heap.size wz lv ((q'.1.take i).map fun x => (x.1 + 1, x.2)) ∧ Below w9.heap.size w9 wz)) (fun _ iv _ => q'.1.length - (intOf iv).toNat)
              case atStart => exact ⟨0, rfl, Nat.zero_le _, hid' ⟨HROW0.out, Below.refl _ _⟩⟩
              case round =>
                obtain ⟨i, rfl, hi, HJ⟩ := hrel
                by_cases hin : i < q'.1.length
                · obtain ⟨x, hx⟩ : ∃ x, q'.1[i]? = some x := ⟨_, List.getElem?_eq_getElem hin⟩
                  obtain ⟨ba, oa, rfl, -, a0, a1⟩ := HLLA.out i x hx
                  have hrg := live_range HBL.out.1 hx
                  replace a0 := keep_all HJ.out.2 _ _ a0
                  replace a1 := keep_all HJ.out.2 _ _ a1
                  have HTK := hid' (show (q'.1.take (i + 1)).map (fun x => (x.1 + 1, x.2)) = ((q'.1.take i).map fun x => (x.1 + 1, x.2)) ++ [(x.1 + 1, x.2)] by rw [List.take_add_one, hx]; simp)
                  obtain ⟨xa, xf⟩ := x
                  simp only at a0 a1 hrg HTK
                  have hxw2 : IntKind.i64.wrap (xa + 1) = xa + 1 := IntWalk.i64_in _ (by have := HSA3.out; omega)
                  have j1 : (0 : Int) ≤ (i : Int) := by omega
                  have j2 : (i : Int) < (q'.1.length : Int) := by omega
                  have hiw : IntKind.i64.wrap ((i : Int) + 1) = (i : Int) + 1 := IntWalk.i64_in _ (by omega)
                  have HTS := hid' (show LiveRow w9.heap.size wr.drew u27 ((q'.1.take i).map fun x => (x.1 + 1, x.2)) from World.ownsRow.drew HJ.out.1)
                  have HLEN2 := hid' (show ((q'.1.take i).map fun x : Int × Int => (x.1 + 1, x.2)).length + 1 ≤ 100000000 by rw [List.length_map, List.length_take]; omega)
                  have HSW := hid' (show w9.heap.size ≤ wr.drew.heap.size from HJ.out.2.size)
                  clear hx hrg
                  go_upto_region 29 with (fail)
                  go_region_law (first | (refine step_live rfl _ _ (by rfl) w9.heap.size u27 _ (by rfl) HTS.out (xa + 1, xf) (by rfl) HLEN2.out HSW.out ?_; intro v' w5' h5 h6))
                  all_goals have HNX := hid' (show LiveRow w9.heap.size w5' v' ((q'.1.take (i + 1)).map fun x => (x.1 + 1, x.2)) ∧ Below w9.heap.size w9 w5' from ⟨by rw [HTK.out]; exact h5, below_row (HJ.out.2.trans ((Below.refl _ wr).drew.mono (Nat.le_refl _) |>.mono HJ.out.2.size)) HTS.out HSW.out h6⟩)
                  all_goals clear h5 h6 a0 a1
                  all_goals go_wp2_with fail
                  all_goals
                    go_roundw
                    case rel => exact ⟨i + 1, by go_num, by omega, HNX⟩
                    case measure => simp only [intOf]; omega
                · obtain rfl : i = q'.1.length := by omega
                  have j3 : decide (q'.1.length < q'.1.length) = false := by simp
                  have HROW1 := hid' (show LiveRow w9.heap.size wr u27 ((q'.1.map fun x => (x.1 + 1, x.2)) ++ ((p2.1.take 0).map fun x => (x.1 + 1 + sz, x.2))) from by have h := HJ.out.1; rw [List.take_length] at h; simpa using h)
                  have HWJ := hid' HJ.out.2
                  clear hin HJ
                  go_wp2_with fail
                  clear j3
                  go_loopw [27, 29] (fun lv iv wz => ∃ i : Nat, iv = .int .i64 (i : Int) ∧ i ≤ p2.1.length ∧ Hid (LiveRow w9.heap.size wz lv ((q'.1.map fun x => (x.1 + 1, x.2)) ++ ((p2.1.take i).map fun x => (x.1 + 1 + sz, x.2))) ∧ Below w9.heap.size w9 wz)) (fun _ iv _ => p2.1.length - (intOf iv).toNat)
                  case atStart => exact ⟨0, rfl, Nat.zero_le _, hid' ⟨HROW1.out, HWJ.out⟩⟩
                  case round =>
                    clear HROW1 HWJ
                    obtain ⟨i, rfl, hi, HJ⟩ := hrel
                    by_cases hin : i < p2.1.length
                    · obtain ⟨x, hx⟩ : ∃ x, p2.1[i]? = some x := ⟨_, List.getElem?_eq_getElem hin⟩
                      obtain ⟨ba, oa, rfl, -, a0, a1⟩ := HLLB.out i x hx
                      have hrg := live_range HBM.out.1 hx
                      replace a0 := keep_all HJ.out.2 _ _ a0
                      replace a1 := keep_all HJ.out.2 _ _ a1
                      have HTK := hid' (show (p2.1.take (i + 1)).map (fun x => (x.1 + 1 + sz, x.2)) = ((p2.1.take i).map fun x => (x.1 + 1 + sz, x.2)) ++ [(x.1 + 1 + sz, x.2)] by rw [List.take_add_one, hx]; simp)
                      obtain ⟨xa, xf⟩ := x
                      simp only at a0 a1 hrg HTK
                      have hxw2 : IntKind.i64.wrap (xa + 1) = xa + 1 := IntWalk.i64_in _ (by have := HSB3.out; omega)
                      have hxw3 : IntKind.i64.wrap (xa + 1 + sz) = xa + 1 + sz := IntWalk.i64_in _ (by have := HSB3.out; have := HSR.out; omega)
                      have j1 : (0 : Int) ≤ (i : Int) := by omega
                      have j2 : (i : Int) < (p2.1.length : Int) := by omega
                      have hiw : IntKind.i64.wrap ((i : Int) + 1) = (i : Int) + 1 := IntWalk.i64_in _ (by omega)
                      have HTS := hid' (show LiveRow w9.heap.size wr.drew u27 ((q'.1.map fun x => (x.1 + 1, x.2)) ++ ((p2.1.take i).map fun x => (x.1 + 1 + sz, x.2))) from World.ownsRow.drew HJ.out.1)
                      have HLEN2 := hid' (show ((q'.1.map fun x : Int × Int => (x.1 + 1, x.2)) ++ ((p2.1.take i).map fun x : Int × Int => (x.1 + 1 + sz, x.2))).length + 1 ≤ 100000000 by rw [List.length_append, List.length_map, List.length_map, List.length_take]; omega)
                      have HSW := hid' (show w9.heap.size ≤ wr.drew.heap.size from HJ.out.2.size)
                      clear hx hrg
                      go_upto_region 33 with (fail)
                      go_region_law (first | (refine step_live rfl _ _ (by rfl) w9.heap.size u27 _ (by rfl) HTS.out (xa + 1 + sz, xf) (by rfl) HLEN2.out HSW.out ?_; intro v' w5' h5 h6))
                      all_goals have HNX := hid' (show LiveRow w9.heap.size w5' v' ((q'.1.map fun x => (x.1 + 1, x.2)) ++ ((p2.1.take (i + 1)).map fun x => (x.1 + 1 + sz, x.2))) ∧ Below w9.heap.size w9 w5' from ⟨by rw [HTK.out, ← List.append_assoc]; exact h5, below_row (HJ.out.2.trans ((Below.refl _ wr).drew.mono (Nat.le_refl _) |>.mono HJ.out.2.size)) HTS.out HSW.out h6⟩)
                      all_goals clear h5 h6 a0 a1
                      all_goals go_wp2_with fail
                      all_goals
                        go_roundw
                        case rel => exact ⟨i + 1, by go_num, by omega, HNX⟩
                        case measure => simp only [intOf]; omega
                    · obtain rfl : i = p2.1.length := by omega
                      have j3 : decide (p2.1.length < p2.1.length) = false := by simp
                      obtain ⟨wa, hwa⟩ : ∃ wa, wa = wr := ⟨_, rfl⟩
                      have HEQ := hid' (show ((q'.1.map fun x => (x.1 + 1, x.2)) ++ ((p2.1.take p2.1.length).map fun x => (x.1 + 1 + sz, x.2))) = r4.1 from by
                        rw [HR1.out, List.take_length, hsz.out]
                        unfold Dn.both Dn.shift
                        simp only
                        congr 1
                        apply List.map_congr_left
                        intro x _
                        congr 1
                        omega)
                      have HLR := hid' (show LiveRow w9.heap.size wr u27 r4.1 from by rw [← HEQ.out]; exact HJ.out.1)
                      have HLS := hid' (LiveRow.seen HLR.out (by rw [HLO.out.1]; have := HLN2.out; omega))
                      have HXR := hid' (HX9.out.below HJ.out.2)
                      have HYR := hid' (HY9.out.below HJ.out.2)
                      have HSAR := hid' (HSA9.out.below HJ.out.2)
                      have HSBR := hid' (HSB9.out.below HJ.out.2)
                      have HWR := hid' (HW9.out.trans (HJ.out.2.mono HW9.out.size))
                      rw [← hwa] at HLR HLS HXR HYR HSAR HSBR HWR ⊢
                      clear hin HJ HEQ hwa HX9 HY9 HSA9 HSB9
                      have hmk : ∀ W : World, (Instr.makeSlice 30 (.int .i64 0) (.int .i64 ((q'.2.length : Int) + (p2.2.length : Int)))).run Tryd.prog W = .ok (.slice (some ⟨W.heap.size, 0, none⟩) 0 (q'.2.length + p2.2.length)) (W.alloc (.cells (madeCells (Value.agg #[.int .i64 0, .string ⟨#[]⟩, .int .i64 0]).cells ((q'.2.length + p2.2.length) * 3)) 43)) := fun W => make_trans W (q'.2.length + p2.2.length) (by have := HLN2.out; omega)
                      have hsum : IntKind.i64.wrap ((q'.2.length : Int) + (p2.2.length : Int)) = (q'.2.length : Int) + (p2.2.length : Int) := IntWalk.i64_in _ (by have := HLN2.out; omega)
                      have HMD := hid' (made_trans wa day (q'.2.length + p2.2.length) (by have := HLN2.out; omega))
                      have HBX := hid' ((Below.refl wa.heap.size wa).alloc (Nat.le_refl _) (.cells (madeCells (Value.agg #[.int .i64 0, .string ⟨#[]⟩, .int .i64 0]).cells ((q'.2.length + p2.2.length) * 3)) 43))
                      go_upto_region 35 with (first | (refine wpList_step (fun K hK => ?_); refine step_trans rfl _ _ (by rfl) wa.heap.size _ day [] q'.2 (by rfl) HMD.out _ (by rfl) (HSAR.out.below HBX.out) (by have := HLN2.out; simp; omega) HBX.out.size ?_; intro v9 w9' h9 g9; have HB9 := hid' (below_row HBX.out HMD.out HBX.out.size g9); refine hK _ _ ?_; clear hK K) | (refine wpList_step (fun K hK => ?_); refine step_trans rfl _ _ (by rfl) wa.heap.size _ day _ p2.2 (by rfl) h9 _ (by rfl) (HSBR.out.below HB9.out) (by have := HLN2.out; simp; omega) HB9.out.size ?_; intro vz wz hz gz; have HBZ := hid' (below_row HB9.out h9 HB9.out.size gz); refine hK _ _ ?_; clear hK K))
                      have HTZ := hid' (show TransSeen wz vz day r4.2 from by
                        have h := TranRow.seen hz (by simp only [List.nil_append, List.length_append]; have := HLN2.out; omega)
                        rw [List.nil_append, ← HR2.out] at h
                        exact h)
                      have HWZ := hid' (HWR.out.trans (HBZ.out.mono HWR.out.size))
                      have HL1 := hid' (HXR.out.below HBZ.out)
                      have HL2 := hid' (HLS.out.below HBZ.out)
                      have HT1 := hid' (HYR.out.below HBZ.out)
                      have HSL := hid' (fun W (h : Below wz.heap.size wz W) => sameLives_yes _ _ _ W (HL1.out.below h) (HL2.out.below h))
                      have HSTR := hid' (fun W (h : Below wz.heap.size wz W) => sameTrans_yes _ _ day _ W (HT1.out.below h) (HTZ.out.below h))
                      clear h9 g9 hz gz hmk HMD HBX HB9 HBZ
                      go_wp2_with (first | (go_at_call 10; refine (HSL.out _ (Below.refl _ _)).mono ?_; rintro e wx ⟨rfl, bx⟩) | (go_at_call 14; refine (HSTR.out _ bx).mono ?_; rintro e wy ⟨rfl, by'⟩))
                      go_ret
                      exact ⟨rfl, HWZ.out.trans ((Below.more bx by').mono HWZ.out.size)⟩
end Go.Proofs.YtcpobnknmegkmaaDoor

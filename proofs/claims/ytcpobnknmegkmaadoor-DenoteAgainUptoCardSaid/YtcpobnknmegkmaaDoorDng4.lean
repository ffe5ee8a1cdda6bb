/- Proved: lemmas and contracts of the functions that the law reaches, part 4 of 4: DnAgain. Conditions: as each states. -/
import Derived.Test.YtcpobnknmegkmaaDoorDng3
import Derived.Test.YtcpobnknmegkmaaDoorDnl3
namespace Go.Proofs.YtcpobnknmegkmaaDoor
open Go.RowKit
open Rw
set_option linter.unusedVariables false
set_option linter.unusedSimpArgs false
set_option maxRecDepth 100000
namespace Dn
open Co
theorem pick_none : pickB ⟨#[]⟩ 0 = true := by unfold pickB; rw [if_pos rfl]; rfl
theorem begin_fails {t : T} {day : Int} {F : List Fd.Feed} (h : beginR t day F = none) : stepR t [] day F ⟨#[]⟩ 0 = none := by
  unfold beginR at h
  unfold stepR
  split at h
  · cases h
  · rename_i hg
    rw [if_neg (fun hh => hg ⟨hh.1, hh.2.1, hh.2.2.1⟩)]
theorem begin_again {t : T} {day : Int} {F : List Fd.Feed} {r : R} (h : beginR t day F = some r) : stepR t r.1 day F ⟨#[]⟩ 0 = some (r.1, []) := by
  obtain ⟨h1, -, h2, h3, h4⟩ := begin_lives h
  unfold stepR
  rw [if_pos ⟨h2, h3, h4, pick_none, chain_ok h1⟩, step_again name_nil h1]
theorem step_lives {t : T} {l : List (Int × Int)} {day : Int} {F : List Fd.Feed} {lab : ByteArray} {wh : Int} {r : R} {P : T → Int → Int → Prop} (hc : Chain P t 0 0 l (t.size : Int)) (h : stepR t l day F lab wh = some r) :
    Chain (Settled (eyes F day)) t 0 0 r.1 (t.size : Int) ∧ stepR t r.1 day F ⟨#[]⟩ 0 = some (r.1, []) := by
  unfold stepR at h
  split at h
  · rename_i hg
    obtain rfl := Option.some.inj h
    have hp : (wh = 1 ∨ wh = 2) ∨ (lab = ⟨#[]⟩ ∧ wh = 0) := by
      have := hg.2.2.2.1
      unfold pickB at this
      split at this
      · exact .inr ⟨by assumption, by simpa using this⟩
      · simp at this; exact .inl this.2
    have c := step_chain (eyes_ok hg.2.2.1 day) (lab := lab) (wh := wh) hp name_nil hc
    refine ⟨c, ?_⟩
    unfold stepR
    rw [if_pos ⟨hg.1, hg.2.1, hg.2.2.1, pick_none, chain_ok c⟩, step_again name_nil c]
  · cases h
theorem chain_i64 {P : T → Int → Int → Prop} {t : T} {l : List (Int × Int)} (hs : t.size ≤ 2000000) (h : Chain P t 0 0 l (t.size : Int)) : ∀ x ∈ l, I64 x.1 ∧ I64 x.2 := by
  intro x hx
  obtain ⟨i, hi⟩ := List.getElem?_of_mem hx
  obtain ⟨h1, h2⟩ := live_range h hi
  unfold NumOk at h2
  unfold I64
  omega
end Dn
/-- The results of Begin or Step, by their lists, to be handed on. -/
theorem DnPost.hands {o : Option Dn.R} {day : Int} {w w' : World} {e : Ending} (h : DnPost o day w e w') (hs : ∀ r, o = some r → r.1.length ≤ 100000000 ∧ r.2.length ≤ 100000000) (hI : ∀ r, o = some r → ∀ x ∈ r.1, I64 x.1 ∧ I64 x.2) :
    Below w.heap.size w w' ∧ ∃ vl vo, e = .returned (.tuple #[vl, vo, .int .i64 (Dn.errOf o)]) ∧ LivesSeen w' vl (o.getD Dn.nothing).1 ∧ TransSeen w' vo day (o.getD Dn.nothing).2 ∧ StampsAt w' vl (o.getD Dn.nothing).1 := by
  obtain ⟨hb, h⟩ := h
  refine ⟨hb, ?_⟩
  cases o with
  | none => exact ⟨.slice none 0 0, .slice none 0 0, h, ⟨none, 0, rfl, Nat.zero_le _, fun i x hx => by simp [Dn.nothing] at hx⟩, ⟨none, 0, rfl, Nat.zero_le _, fun i x hx => by simp [Dn.nothing] at hx⟩, ⟨none, 0, rfl, ⟨Nat.le_refl _, Nat.zero_le _⟩, fun i x hx => by simp [Dn.nothing] at hx⟩⟩
  | some r =>
    obtain ⟨vl, vo, e, h1, h2⟩ := h
    obtain ⟨k1, k2⟩ := hs r rfl
    exact ⟨vl, vo, e, h1.seen k1, TranRow.seen h2 k2, h1.stamps (hI r rfl)⟩
theorem errOf_some' (r : Dn.R) : Dn.errOf (some r) = 0 := rfl
def WithBoxes (k : Nat) (op n : Int) (s : ByteArray) (p : Option Addr) (ln c : Nat) (lab : ByteArray) (wh : Int) (W : World) : Prop :=
  (W.cell? ⟨k, 0, none⟩ = some (.int .i64 op) ∧ W.cell? ⟨k, 1, none⟩ = some (.int .i64 n) ∧ W.cell? ⟨k, 2, none⟩ = some (.string s) ∧ W.cell? ⟨k, 3, none⟩ = some (.slice p ln c)) ∧ W.cell? ⟨k + 1, 0, none⟩ = some (.string lab) ∧ W.cell? ⟨k + 1, 1, none⟩ = some (.int .i64 wh)
theorem WithBoxes.below {k : Nat} {op n : Int} {s : ByteArray} {p : Option Addr} {ln c : Nat} {lab : ByteArray} {wh : Int} {W W' : World} (h : WithBoxes k op n s p ln c lab wh W) (b : Below W.heap.size W W') : WithBoxes k op n s p ln c lab wh W' :=
  ⟨⟨keep_all b _ _ h.1.1, keep_all b _ _ h.1.2.1, keep_all b _ _ h.1.2.2.1, keep_all b _ _ h.1.2.2.2⟩, keep_all b _ _ h.2.1, keep_all b _ _ h.2.2⟩
set_option maxHeartbeats 16000000 in
theorem law_again (t : Co.T) (v vf vg : Value) (day : Int) (F : List Fd.Feed) (later : Int) (G : List Fd.Feed) (lab : ByteArray) (wh : Int) (w : World) (hv : CoreIn (fun _ => True) w t v) (hsz : t.size ≤ 1048576) (hF : FeedsAt w vf F) (hG : FeedsAt w vg G) (hlab : lab.size ≤ 2000000) :
    Calls Tryd.prog 3 #[v, .int .i64 day, vf, .int .i64 later, vg, .agg #[.string lab, .int .i64 wh]] w (True1 w) := by
  obtain ⟨p, c, hve, -⟩ := hv.open
  obtain ⟨op, tn, s, ln, rfl⟩ : ∃ op n s ln, v = .agg #[.int .i64 op, .int .i64 n, .string s, .slice p ln c] := ⟨_, _, _, _, hve⟩
  clear hve
  have z1 : ∀ (W : World) (o : Obj) (k : Nat) (x : Obj), W.heap[k]? = some x → (W.alloc o).heap[k]? = some x := fun W o k x h => (((Below.refl W.heap.size W).alloc (Nat.le_refl _) o).block k (lt_of_block h)).trans h
  have HB0 := hid' (((Below.refl w.heap.size w).alloc (Nat.le_refl _) (.cells #[.int .i64 op, .int .i64 tn, .string s, .slice p ln c] 24)).alloc (by simp) (.cells #[.string lab, .int .i64 wh] 27))
  have HX0 := hid' (show WithBoxes w.heap.size op tn s p ln c lab wh ((w.alloc (.cells #[.int .i64 op, .int .i64 tn, .string s, .slice p ln c] 24)).alloc (.cells #[.string lab, .int .i64 wh] 27)) from by
    have h1 := heap_cells4 (z1 _ (.cells #[.string lab, .int .i64 wh] 27) _ _ (heap_alloc_new w (.cells #[.int .i64 op, .int .i64 tn, .string s, .slice p ln c] 24)))
    have h2 := heap_alloc_new (w.alloc (.cells #[.int .i64 op, .int .i64 tn, .string s, .slice p ln c] 24)) (.cells #[.string lab, .int .i64 wh] 27)
    rw [World.size_alloc] at h2
    exact ⟨h1, bcells h2 0 _ rfl, bcells h2 1 _ rfl⟩)
  have HV := hid' hv
  have HF := hid' hF
  have HG := hid' hG
  have HSZ := hid' (Nat.le_trans hsz (by decide : 1048576 ≤ 2000000))
  clear hv hsz z1 hF hG
  have HSH := hid' (fun W => shown15_any W)
  have HBG := hid' (fun W (h : Below w.heap.size w W) => (dnbegin_any t day F (fun _ => True) _ _ W (HV.out.under h) HSZ.out (HF.out.below h)).mono fun e w' h => DnPost.hands h (Dn.begin_short t day F) (fun r hr => Dn.chain_i64 HSZ.out (begin_lives hr).1))
  have HS0 := hid' (fun W vl l (h : Below w.heap.size w W) (hl : StampsAt W vl l) => (dnstep_any t l day F ⟨#[]⟩ 0 (fun _ => True) _ _ _ W (HV.out.under h) HSZ.out hl (HF.out.below h) (by decide)).mono fun e w' h => DnPost.lists h (Dn.step_short t l day F ⟨#[]⟩ 0))
  obtain ⟨r1, hr1⟩ : ∃ r, Hid (Dn.beginR t day F = r) := ⟨_, hid' rfl⟩
  rw [hr1.out] at HBG
  obtain ⟨fp, fc, rfl, -, -⟩ := id HF.out
  obtain ⟨gp, gc, rfl, -, -⟩ := id HG.out
  generalize (.slice fp F.length fc : Value) = vf at *
  generalize (.slice gp G.length gc : Value) = vg at *
  go_enter Tryd.func3, Tryd.ntmps3
  go_upto_region 1 with (fail)
  generalize World.alloc _ _ = w1 at *
  go_upto_region 2 with (first | (go_at_call 7; refine (HSH.out _).mono ?_; rintro e w2 ⟨rfl, b2⟩; have HB2 := hid' (HB0.out.trans (b2.mono HB0.out.size)); have HX2 := hid' (HX0.out.below b2); clear b2))
  obtain ⟨⟨c0, c1, c2, c3⟩, -, -⟩ := HX2.out
  go_upto_region 3 with (first | (go_at_call 8; refine (HBG.out _ HB2.out).mono ?_; rintro e w3 ⟨b3, vl1, vo1, rfl, hl1, ho1, hs1⟩; have HB3 := hid' (HB2.out.trans (b3.mono HB2.out.size)); have HX3 := hid' (HX2.out.below b3); have HL1 := hid' hl1; have HT1 := hid' hs1; clear b3 hl1 ho1 hs1))
  clear c0 c1 c2 c3 HX0 HBG
  have HST := hid' (HS0.out w3 vl1 _ HB3.out HT1.out)
  obtain ⟨⟨c0, c1, c2, c3⟩, -, -⟩ := HX3.out
  cases r1 with
  | none =>
    have HE := hid' (show Dn.stepR t ((none : Option Dn.R).getD Dn.nothing).1 day F ⟨#[]⟩ 0 = none from Dn.begin_fails hr1.out)
    rw [HE.out] at HST
    clear HE HS0
    rw [Dn.errOf_none']
    go_upto_region 4 with (first | (go_at_call 9; refine HST.out.mono ?_; rintro e w4 ⟨b4, vl2, vo2, hve, -, -⟩; obtain rfl := hve; have HB4 := hid' (HB3.out.trans (b4.mono HB3.out.size)); clear b4; rw [Dn.errOf_none']))
    clear c0 c1 c2 c3
    go_wp2_with fail
    go_ret
    exact ⟨rfl, HB4.out⟩
  | some r =>
    have HBL := hid' (begin_lives hr1.out)
    have HE := hid' (show Dn.stepR t ((some r : Option Dn.R).getD Dn.nothing).1 day F ⟨#[]⟩ 0 = some (r.1, []) from Dn.begin_again hr1.out)
    rw [HE.out] at HST
    clear HE HS0
    rw [errOf_some']
    go_upto_region 4 with (first | (go_at_call 9; refine HST.out.mono ?_; rintro e w4 ⟨b4, vl2, vo2, hve, hl2, ho2⟩; obtain rfl := hve; obtain ⟨op2, oc2, rfl, -, -⟩ := ho2; have HB4 := hid' (HB3.out.trans (b4.mono HB3.out.size)); have HX4 := hid' (HX3.out.below b4); have HQ1 := hid' (sameLives_yes _ _ r.1 w4 (HL1.out.below b4) hl2); have HT4 := hid' (HT1.out.below b4); clear b4 hl2; rw [errOf_some']))
    clear c0 c1 c2 c3 HST HX3 HL1 HT1
    go_upto_region 7 with (first | (go_at_call 10; refine HQ1.out.mono ?_; rintro e w5 ⟨rfl, b5⟩; have HB5 := hid' (HB4.out.trans (b5.mono HB4.out.size)); have HX5 := hid' (HX4.out.below b5); have HT5 := hid' (show StampsAt w5 vl1 r.1 from HT4.out.below b5); clear b5))
    clear HX4 HT4 HQ1
    obtain ⟨r3, hr3⟩ : ∃ q, Hid (Dn.stepR t r.1 later G lab wh = q) := ⟨_, hid' rfl⟩
    have HS1 := hid' ((dnstep_any t r.1 later G lab wh (fun _ => True) _ vl1 vg w5 (HV.out.under HB5.out) HSZ.out HT5.out (HG.out.below HB5.out) hlab).mono fun e w' h => DnPost.hands h (Dn.step_short t r.1 later G lab wh) (fun q hq => Dn.chain_i64 HSZ.out (Dn.step_lives HBL.out.1 hq).1))
    rw [hr3.out] at HS1
    obtain ⟨⟨c0, c1, c2, c3⟩, c4, c5⟩ := HX5.out
    go_upto_region 10 with (first | (go_at_call 9; refine HS1.out.mono ?_; rintro e w6 ⟨b6, vl3, vo3, rfl, hl3, ho3, hs3⟩; have HB6 := hid' (HB5.out.trans (b6.mono HB5.out.size)); have HX6 := hid' (HX5.out.below b6); have HL6 := hid' hl3; have HT6 := hid' hs3; clear b6 hl3 ho3 hs3))
    clear c0 c1 c2 c3 c4 c5 HX5 HT5 HS1
    cases r3 with
    | none =>
      rw [Dn.errOf_none']
      go_wp2_with fail
      go_ret
      exact ⟨rfl, HB6.out⟩
    | some q =>
      rw [errOf_some']
      have HSL := hid' (Dn.step_lives HBL.out.1 hr3.out)
      have HS2 := hid' ((dnstep_any t q.1 later G ⟨#[]⟩ 0 (fun _ => True) _ vl3 vg w6 (HV.out.under HB6.out) HSZ.out HT6.out (HG.out.below HB6.out) (by decide)).mono fun e w' h => DnPost.lists h (Dn.step_short t q.1 later G ⟨#[]⟩ 0))
      rw [HSL.out.2] at HS2
      obtain ⟨⟨c0, c1, c2, c3⟩, -, -⟩ := HX6.out
      go_upto_region 13 with (first | (go_at_call 9; refine HS2.out.mono ?_; rintro e w7 ⟨b7, vl4, vo4, hve, hl4, ho4⟩; obtain rfl := hve; obtain ⟨op4, oc4, rfl, -, -⟩ := ho4; have HB7 := hid' (HB6.out.trans (b7.mono HB6.out.size)); have HX7 := hid' (HX6.out.below b7); have HL7 := hid' (show LivesSeen w7 vl3 q.1 from HL6.out.below b7); have HQ2 := hid' (sameLives_yes _ _ q.1 w7 HL7.out hl4); clear b7 hl4; rw [errOf_some']))
      clear c0 c1 c2 c3 HS2 HX6 HL6 HT6
      have HRL := hid' (fun W (h : Below w7.heap.size w7 W) => refRightLives_yes t q.1 (fun _ => True) _ vl3 W (HV.out.under (HB7.out.trans (h.mono HB7.out.size))) HSZ.out (HL7.out.below h) (Dn.chain_ok HSL.out.1))
      have HKX := hid' (fun W (h : Below w7.heap.size w7 W) => (HX7.out.below h).1)
      clear HX7 HL7 HSL
      go_wp2_with (first
        | (go_at_call 10; refine HQ2.out.mono ?_; rintro e w8 ⟨rfl, b8⟩; have HB8 := hid' (HB7.out.trans (b8.mono HB7.out.size)); have HR8 := hid' (HRL.out _ b8); obtain ⟨d0, d1, d2, d3⟩ := HKX.out _ b8; clear b8)
        | (go_at_call 11; refine HR8.out.mono ?_; rintro e w9 ⟨rfl, b9⟩; have HB9 := hid' (HB8.out.trans (b9.mono HB8.out.size)); clear b9))
      go_ret
      exact ⟨rfl, HB9.out⟩
end Go.Proofs.YtcpobnknmegkmaaDoor

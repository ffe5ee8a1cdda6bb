/- Proved: lemmas and contracts of the functions that the law reaches, part 27 of 28: EnRef5, DnAgP, DnEndL, EnBack, EnFeeds, DnEnds. Conditions: as each states. -/
import Derived.Test.YtcpobnknmegkmaaGreatDoorDne6
import Derived.Test.YtcpobnknmegkmaaGreatDoorDne23
import Derived.Test.YtcpobnknmegkmaaGreatDoorDne25
import Derived.Test.YtcpobnknmegkmaaGreatDoorDne26
namespace Go.Proofs.YtcpobnknmegkmaaGreatDoor
open Go.RowKit
set_option linter.unusedVariables false
set_option linter.unusedSimpArgs false
set_option maxRecDepth 100000
namespace Co
/-- Has it a type? -/
def T.typed (t : T) : Bool := small t && (t.letter != 0)
/-- The reference's check. -/
def T.rcheck (t : T) : Int := if t.typed = true ∧ t.letter = 99 then (if t.ahead = true then 141 else 0) else 140
theorem rcheck_good (t : T) : t.rcheck = 0 ↔ t.good := by
  unfold T.rcheck T.good T.typed
  by_cases h : (small t && (t.letter != 0)) = true ∧ t.letter = 99
  · rw [if_pos h]
    have h1 : small t = true := by
      have := h.1
      rw [Bool.and_eq_true] at this
      exact this.1
    by_cases ha : t.ahead = true
    · rw [if_pos ha]
      simp [ha]
    · rw [if_neg ha]
      simp [h1, h.2, ha]
  · rw [if_neg h]
    constructor
    · intro h'; cases h'
    · rintro ⟨h1, h2, -⟩
      exact absurd ⟨by rw [h1, h2]; rfl, h2⟩ h
/-- How far it looks, if it has a type. -/
def T.horz (t : T) : Int := if t.typed = true then t.hor else 0
theorem good_typed {t : T} (h : t.good) : t.typed = true := by
  unfold T.typed
  rw [h.1, h.2.1]
  rfl
end Co
def TypePost (R : Bool) (L : UInt8) (w : World) (e : Ending) (w' : World) : Prop := ∃ x : Int, e = .returned (.tuple #[.int .i64 x, .bool R]) ∧ (R = true → x = Co.code L) ∧ Below w.heap.size w w'
theorem refType_any (t : Co.T) (ok : Nat → Prop) (v : Value) (w : World) (hv : CoreIn ok w t v) (hsz : t.size ≤ 2000000) : Calls Tryz.prog 13 #[v] w (TypePost t.typed t.letter w) := by
  obtain ⟨op, n, s, q, ln, c, rfl, hop, hn, hs, hln⟩ := open_term hv
  have HV := hid' hv
  have HSZ := hid' hsz
  have HB := hid' ((Below.refl w.heap.size w).alloc (Nat.le_refl _) (.cells #[.int .i64 op, .int .i64 n, .string s, .slice q ln c] 24))
  have HC := hid' (heap_alloc_new w (.cells #[.int .i64 op, .int .i64 n, .string s, .slice q ln c] 24))
  obtain ⟨R, hR⟩ : ∃ R, Hid (t.typed = R) := ⟨_, hid' rfl⟩
  obtain ⟨L, hL⟩ : ∃ L, Hid (t.letter = L) := ⟨_, hid' rfl⟩
  rw [hR.out, hL.out]
  have HE := hid' (show R = (Co.small t && (L != 0)) by rw [← hR.out, ← hL.out]; rfl)
  clear hop hn hs hln hv hsz
  go_enter Tryz.func13, Tryz.ntmps13
  go_upto_region 1 with (fail)
  generalize World.alloc _ _ = w1 at *
  obtain ⟨c0, c1, c2, c3⟩ := heap_cells4 HC.out
  go_wp2_with fail
  refine (refSmall_any t ok _ w1 (HV.out.under HB.out) HSZ.out).mono ?_
  rintro e w2 ⟨rfl, b2⟩
  have HB2 := hid' (HB.out.trans (b2.mono HB.out.size))
  have HC2 := hid' ((b2.block _ (lt_of_block HC.out)).trans HC.out)
  clear b2 c0 c1 c2 c3
  obtain ⟨c0, c1, c2, c3⟩ := heap_cells4 HC2.out
  cases hsm : Co.small t with
  | false =>
    have HN := hid' (show R = false by rw [HE.out, hsm]; rfl)
    go_wp2_with fail
    refine bodyPost_ret (results_tmp2 rfl _ _ _) rfl ?_
    exact ⟨0, by rw [HN.out]; rfl, fun h => absurd (HN.out.symm.trans h) (by decide), HB2.out⟩
  | true =>
    have HD := hid' (show (1 : Int) + t.depth ≤ 201 by have := (Co.small_iff t).1 hsm; omega)
    have HN := hid' (show R = (L != 0) by rw [HE.out, hsm]; rfl)
    clear hsm
    go_wp2_with fail
    refine (refTyped_any t 1 ok _ w2 (HV.out.under HB2.out) HSZ.out (by decide) HD.out).mono ?_
    rw [hL.out]
    rintro e w3 ⟨x, rfl, hx, b3⟩
    have HB3 := hid' (HB2.out.trans (b3.mono HB2.out.size))
    have HX := hid' (show R = true → x = Co.code L from fun h => hx (by rw [HN.out, bne_iff_ne] at h; exact h))
    clear b3 hx
    rw [← HN.out]
    cases R with
    | false =>
      go_wp2_with fail
      refine bodyPost_ret (results_tmp2 rfl _ _ _) rfl ?_
      exact ⟨0, rfl, fun h => absurd h (by decide), HB3.out⟩
    | true =>
      go_wp2_with fail
      refine bodyPost_ret (results_tmp2 rfl _ _ _) rfl ?_
      exact ⟨x, rfl, fun _ => HX.out trivial, HB3.out⟩
theorem refHorz_any (t : Co.T) (ok : Nat → Prop) (v : Value) (w : World) (hv : CoreIn ok w t v) (hsz : t.size ≤ 2000000) : Calls Tryz.prog 7 #[v] w (Gives (.int .i64 t.horz) w) := by
  obtain ⟨op, n, s, q, ln, c, rfl, hop, hn, hs, hln⟩ := open_term hv
  have HV := hid' hv
  have HSZ := hid' hsz
  have HB := hid' ((Below.refl w.heap.size w).alloc (Nat.le_refl _) (.cells #[.int .i64 op, .int .i64 n, .string s, .slice q ln c] 24))
  have HC := hid' (heap_alloc_new w (.cells #[.int .i64 op, .int .i64 n, .string s, .slice q ln c] 24))
  obtain ⟨R, hR⟩ : ∃ R, Hid (t.typed = R) := ⟨_, hid' rfl⟩
  obtain ⟨Z, hZ⟩ : ∃ Z, Hid (t.horz = Z) := ⟨_, hid' rfl⟩
  rw [hZ.out]
  have HE := hid' (show Z = if R = true then t.hor else 0 by rw [← hZ.out, ← hR.out]; rfl)
  have HT := hid' (fun w' (h : Below w.heap.size w w') => refType_any t ok _ w' (hv.under h) hsz)
  rw [hR.out] at HT
  clear hop hn hs hln hv hsz
  go_enter Tryz.func7, Tryz.ntmps7
  go_upto_region 1 with (fail)
  generalize World.alloc _ _ = w1 at *
  obtain ⟨c0, c1, c2, c3⟩ := heap_cells4 HC.out
  go_wp2_with fail
  refine (HT.out w1 HB.out).mono ?_
  rintro e w2 ⟨x, rfl, hx, b2⟩
  have HB2 := hid' (HB.out.trans (b2.mono HB.out.size))
  have HC2 := hid' ((b2.block _ (lt_of_block HC.out)).trans HC.out)
  clear b2 c0 c1 c2 c3 hx
  obtain ⟨c0, c1, c2, c3⟩ := heap_cells4 HC2.out
  cases R with
  | false =>
    have HN := hid' (show Z = 0 by rw [HE.out, if_neg (by decide)])
    go_wp2_with fail
    go_ret
    exact ⟨by rw [HN.out]; rfl, HB2.out⟩
  | true =>
    have HN := hid' (show Z = t.hor by rw [HE.out, if_pos rfl])
    go_wp2_with fail
    refine (refHorizon_any t ok _ w2 (HV.out.under HB2.out) HSZ.out).mono ?_
    rintro e w3 ⟨rfl, b3⟩
    have HB3 := hid' (HB2.out.trans (b3.mono HB2.out.size))
    clear b3
    go_wp2_with fail
    go_ret
    exact ⟨by rw [HN.out]; rfl, HB3.out⟩
end Go.Proofs.YtcpobnknmegkmaaGreatDoor
namespace Go.Proofs.YtcpobnknmegkmaaGreatDoor
open Go.RowKit
open Rw
set_option linter.unusedVariables false
set_option linter.unusedSimpArgs false
set_option maxRecDepth 100000
namespace Dn
open Co
theorem pick_none : pickB ⟨#[]⟩ 0 = true := by unfold pickB; rw [if_pos rfl]; rfl
theorem begin_fails {t : T} {day : Int} {F : List Fd.Feed} (h : beginR t day F = none) : stepR t [] day F ⟨#[]⟩ 0 = none := by
  unfold beginR at h
  unfold stepR
  split at h
  · cases h
  · rename_i hg
    rw [if_neg (fun hh => hg ⟨hh.1, hh.2.1, hh.2.2.1⟩)]
theorem begin_again {t : T} {day : Int} {F : List Fd.Feed} {r : R} (h : beginR t day F = some r) : stepR t r.1 day F ⟨#[]⟩ 0 = some (r.1, []) := by
  obtain ⟨h1, -, h2, h3, h4⟩ := begin_lives h
  unfold stepR
  rw [if_pos ⟨h2, h3, h4, pick_none, chain_ok h1⟩, step_again name_nil h1]
theorem step_lives {t : T} {l : List (Int × Int)} {day : Int} {F : List Fd.Feed} {lab : ByteArray} {wh : Int} {r : R} {P : T → Int → Int → Prop} (hc : Chain P t 0 0 l (t.size : Int)) (h : stepR t l day F lab wh = some r) :
    Chain (Settled (eyes F day)) t 0 0 r.1 (t.size : Int) ∧ stepR t r.1 day F ⟨#[]⟩ 0 = some (r.1, []) := by
  unfold stepR at h
  split at h
  · rename_i hg
    obtain rfl := Option.some.inj h
    have hp : (wh = 1 ∨ wh = 2) ∨ (lab = ⟨#[]⟩ ∧ wh = 0) := by
      have := hg.2.2.2.1
      unfold pickB at this
      split at this
      · exact .inr ⟨by assumption, by simpa using this⟩
      · simp at this; exact .inl this.2
    have c := step_chain (eyes_ok hg.2.2.1 day) (lab := lab) (wh := wh) hp name_nil hc
    refine ⟨c, ?_⟩
    unfold stepR
    rw [if_pos ⟨hg.1, hg.2.1, hg.2.2.1, pick_none, chain_ok c⟩, step_again name_nil c]
  · cases h
theorem chain_i64 {P : T → Int → Int → Prop} {t : T} {l : List (Int × Int)} (hs : t.size ≤ 2000000) (h : Chain P t 0 0 l (t.size : Int)) : ∀ x ∈ l, I64 x.1 ∧ I64 x.2 := by
  intro x hx
  obtain ⟨i, hi⟩ := List.getElem?_of_mem hx
  obtain ⟨h1, h2⟩ := live_range h hi
  unfold NumOk at h2
  unfold I64
  omega
theorem errOf_none' : errOf none = 150 := rfl
theorem begin_short (t : T) (day : Int) (F : List Fd.Feed) : ∀ r, beginR t day F = some r → r.1.length ≤ 100000000 ∧ r.2.length ≤ 100000000 := by
  intro r h
  have := (begin_lives h).2.1
  omega
theorem step_short (t : T) (l : List (Int × Int)) (day : Int) (F : List Fd.Feed) (lab : ByteArray) (wh : Int) : ∀ r, stepR t l day F lab wh = some r → r.1.length ≤ 100000000 ∧ r.2.length ≤ 100000000 := by
  intro r h
  unfold stepR at h
  split at h
  · rename_i hg
    obtain rfl := Option.some.inj h
    have h1 := ((small_iff t).1 hg.1.1).1
    have h2 := lives_len hg.2.2.2.2
    have h3 := stepAll_len (eyes_ok hg.2.2.1 day) lab wh (t := t) (by rw [hg.1.2.1]; decide) hg.2.2.2.2 l.length (Nat.le_refl _)
    rw [List.take_length] at h3
    rw [pre_len] at h2
    have h4 : l.length * t.size ≤ 2000 * 2000 := Nat.mul_le_mul (by omega) h1
    omega
  · cases h
end Dn
/-- The results of Begin or Step, by their lists, to be handed on. -/
theorem DnPost.hands {o : Option Dn.R} {day : Int} {w w' : World} {e : Ending} (h : DnPost o day w e w') (hs : ∀ r, o = some r → r.1.length ≤ 100000000 ∧ r.2.length ≤ 100000000) (hI : ∀ r, o = some r → ∀ x ∈ r.1, I64 x.1 ∧ I64 x.2) :
    Below w.heap.size w w' ∧ ∃ vl vo, e = .returned (.tuple #[vl, vo, .int .i64 (Dn.errOf o)]) ∧ LivesSeen w' vl (o.getD Dn.nothing).1 ∧ TransSeen w' vo day (o.getD Dn.nothing).2 ∧ StampsAt w' vl (o.getD Dn.nothing).1 := by
  obtain ⟨hb, h⟩ := h
  refine ⟨hb, ?_⟩
  cases o with
  | none => exact ⟨.slice none 0 0, .slice none 0 0, h, ⟨none, 0, rfl, Nat.zero_le _, fun i x hx => by simp [Dn.nothing] at hx⟩, ⟨none, 0, rfl, Nat.zero_le _, fun i x hx => by simp [Dn.nothing] at hx⟩, ⟨none, 0, rfl, ⟨Nat.le_refl _, Nat.zero_le _⟩, fun i x hx => by simp [Dn.nothing] at hx⟩⟩
  | some r =>
    obtain ⟨vl, vo, e, h1, h2⟩ := h
    obtain ⟨k1, k2⟩ := hs r rfl
    exact ⟨vl, vo, e, h1.seen k1, TranRow.seen h2 k2, h1.stamps (hI r rfl)⟩
theorem errOf_some' (r : Dn.R) : Dn.errOf (some r) = 0 := rfl
/-- The results of Begin or Step, by their lists. -/
theorem DnPost.lists {o : Option Dn.R} {day : Int} {w w' : World} {e : Ending} (h : DnPost o day w e w') (hs : ∀ r, o = some r → r.1.length ≤ 100000000 ∧ r.2.length ≤ 100000000) :
    Below w.heap.size w w' ∧ ∃ vl vo, e = .returned (.tuple #[vl, vo, .int .i64 (Dn.errOf o)]) ∧ LivesSeen w' vl (o.getD Dn.nothing).1 ∧ TransSeen w' vo day (o.getD Dn.nothing).2 := by
  obtain ⟨hb, h⟩ := h
  refine ⟨hb, ?_⟩
  cases o with
  | none => exact ⟨.slice none 0 0, .slice none 0 0, h, ⟨none, 0, rfl, Nat.zero_le _, fun i x hx => by simp [Dn.nothing] at hx⟩, ⟨none, 0, rfl, Nat.zero_le _, fun i x hx => by simp [Dn.nothing] at hx⟩⟩
  | some r =>
    obtain ⟨vl, vo, e, h1, h2⟩ := h
    obtain ⟨k1, k2⟩ := hs r rfl
    exact ⟨vl, vo, e, h1.seen k1, TranRow.seen h2 k2⟩
end Go.Proofs.YtcpobnknmegkmaaGreatDoor
namespace Go.Proofs.YtcpobnknmegkmaaGreatDoor
open Go.RowKit
set_option linter.unusedVariables false
set_option linter.unusedSimpArgs false
namespace Dn
open Co
mutual
/-- Does a term ask a feed some days ago? -/
def back : T → Bool
  | .mk op n _ ks => (op == 4 && decide (0 < n)) || backs ks
def backs : List T → Bool
  | [] => false
  | k :: r => back k || backs r
end
theorem backs_mem {ks : List T} (h : backs ks = false) : ∀ k ∈ ks, back k = false := by
  induction ks with
  | nil => intro k hk; cases hk
  | cons a r ih =>
    rw [backs, Bool.or_eq_false_iff] at h
    intro k hk
    rcases List.mem_cons.1 hk with rfl | hk
    · exact h.1
    · exact ih h.2 k hk
theorem pre_back (t : T) : back t = false → ∀ u ∈ pre t, u.op = 4 → u.n ≤ 0 := by
  induction t using T.ind with | h op n s ks ih => ?_
  intro h u hu h4
  rw [back, Bool.or_eq_false_iff] at h
  rw [pre, List.mem_cons] at hu
  rcases hu with rfl | hu
  · simp only [T.op, T.n] at h4 ⊢
    have := h.1
    rw [h4] at this
    simpa using this
  · obtain ⟨k, hk, hu⟩ := mem_pres.1 hu
    exact ih k hk (backs_mem h.2 k hk) u hu h4
theorem feed_name {u : T} (h : u.letter ≠ 0) (h4 : u.op = 4) : Led.isName u.s = true := by
  obtain ⟨op, n, s, ks⟩ := u
  simp only [T.op, T.s] at h4 ⊢
  subst h4
  obtain ⟨-, hf⟩ := letter_inv (x := (T.mk 4 n s ks).letter) rfl h (by decide)
  simp [fields, Gen.within] at hf
  exact hf.1
theorem names_named {t : T} (hg : t.letter ≠ 0) : ∀ s ∈ names t [], Led.isName s = true := by
  intro s hs
  rcases (names_mem t [] s).1 hs with h | ⟨u, hu, h4, rfl⟩
  · cases h
  · exact feed_name (pre_ne t hg u hu) h4
theorem names_rise (t : T) : Up (names t []) := names_up t [] List.Pairwise.nil
theorem end_told {t : T} (hg : t.good) (hb : back t = false) {last : Int} (hd : 0 ≤ last) : Told (eyes (endF (names t [])) last) t := by
  intro u hu h4
  have h1 := pre_back t hb u hu h4
  have h2 : u.ahead = false := pre_ahead t hg.2.2 u hu
  have h3 : 0 ≤ u.n := by
    obtain ⟨op, n, s, ks⟩ := u
    exact (ahead_kids h2).1 h4
  have h5 : u.n = 0 := by omega
  rw [h5]
  exact end_tells (names_rise t) ((names_mem t [] u.s).2 (.inr ⟨u, hu, h4, rfl⟩)) hd
theorem step_last {t : T} (hg : t.good) (hb : back t = false) {last : Int} (hd : dayOk last = true) (hh : t.hor < last) {P : T → Int → Int → Prop} {l : List (Int × Int)} (hc : Chain P t 0 0 l (t.size : Int)) (hl : (names t []).length ≤ 64) :
    ∃ r, stepR t l last (endF (names t [])) ⟨#[]⟩ 0 = some r ∧ r.1 = [] := by
  have hF := end_ok (names_rise t) hl (names_named (t := t) (by rw [hg.2.1]; decide))
  have h0 : 0 ≤ last := by unfold dayOk at hd; simp at hd; exact hd.1
  refine ⟨_, by unfold stepR; rw [if_pos ⟨hg, hd, hF, pick_none, chain_ok hc⟩], ?_⟩
  exact step_ends (eyes_ok hF last) name_nil (end_told hg hb h0) hh hc
theorem step_many {t : T} {last : Int} {l : List (Int × Int)} (hl : 64 < (names t []).length) : stepR t l last (endF (names t [])) ⟨#[]⟩ 0 = none := by
  unfold stepR
  rw [if_neg (fun h => end_no hl h.2.2.1)]
end Dn
end Go.Proofs.YtcpobnknmegkmaaGreatDoor
namespace Go.Proofs.YtcpobnknmegkmaaGreatDoor
open Go.RowKit
set_option linter.unusedVariables false
set_option linter.unusedSimpArgs false
set_option maxRecDepth 100000
theorem Dn.backs_any : ∀ ks : List Co.T, Dn.backs ks = ks.any Dn.back
  | [] => rfl
  | k :: r => by rw [Dn.backs, Dn.backs_any r]; rfl
theorem Dn.back_eq (op n : Int) (s : ByteArray) (ks : List Co.T) : Dn.back (.mk op n s ks) = ((op == 4 && decide (0 < n)) || ks.any Dn.back) := by rw [Dn.back, Dn.backs_any]
set_option maxHeartbeats 4000000 in
theorem looksBack_any (t : Co.T) : ∀ (ok : Nat → Prop) (v : Value) (w : World), CoreIn ok w t v → t.size ≤ 2000000 → Calls Tryz.prog 6 #[v] w (Gives (.bool (Dn.back t)) w) := by
  induction t using Co.T.ind with | h op n s ks ih => ?_
  intro ok v w hv hsz
  obtain ⟨q, c, rfl, hc, ho, hn, hs, hk⟩ := hv.open
  simp only [Co.T.op, Co.T.n, Co.T.s, Co.T.ks] at hk ⊢
  have HIH := hid' ih
  have HK := hid' hk
  have HN64 := hid' hn
  have HZS := hid' (show Co.sizes ks ≤ 2000000 by rw [Co.T.size] at hsz; omega)
  have HZ := hid' (show ks.length ≤ 2000000 by rw [Co.T.size] at hsz; have := Co.sizes_len ks; omega)
  have HSZ := hid' (fun k (h : k ∈ ks) => show k.size ≤ 2000000 by have := Co.sizes_mem h; rw [Co.T.size] at hsz; omega)
  have HB := hid' ((Below.refl w.heap.size w).alloc (Nat.le_refl _) (.cells #[.int .i64 op, .int .i64 n, .string s, .slice q ks.length c] 24))
  have HC := hid' (heap_alloc_new w (.cells #[.int .i64 op, .int .i64 n, .string s, .slice q ks.length c] 24))
  obtain ⟨R, hR⟩ : ∃ R, Hid (Dn.back (.mk op n s ks) = R) := ⟨_, hid' rfl⟩
  rw [hR.out]
  have HE := hid' (show R = ((op == 4 && decide (0 < n)) || ks.any Dn.back) by rw [← hR.out, Dn.back_eq])
  clear ih hk hc ho hn hs hsz hv
  go_enter Tryz.func6, Tryz.ntmps6
  go_upto_region 1 with (fail)
  generalize World.alloc _ _ = w1 at *
  obtain ⟨c0, c1, c2, c3⟩ := heap_cells4 HC.out
  by_cases h4 : op = 4
  · subst h4
    by_cases hn0 : 0 < n
    · have gn : decide (0 < n) = true := decide_eq_true hn0
      have HN := hid' (show R = true by rw [HE.out, gn]; rfl)
      clear hn0
      go_wp2_with fail
      go_ret
      exact ⟨by rw [HN.out]; rfl, HB.out⟩
    · have gn : decide (0 < n) = false := decide_eq_false hn0
      have HROOT := hid' (show (((4 : Int) == 4) && decide (0 < n)) = false by rw [gn]; rfl)
      clear hn0
      go_wp2_with fail
      go_loopw [3] (fun iv wr => ∃ (i : Nat), iv = .int .i64 (i : Int) ∧ i ≤ ks.length ∧ Hid (Below w1.heap.size w1 wr ∧ (ks.take i).any Dn.back = false)) (fun iv _ => ks.length - (intOf iv).toNat)
      case atStart => exact ⟨0, rfl, Nat.zero_le _, hid' ⟨Below.refl _ _, rfl⟩⟩
      case round =>
        obtain ⟨i, rfl, hi, HJ⟩ := hrel
        have hc1 := (HJ.out.1.block _ (lt_of_block HC.out)).trans HC.out
        obtain ⟨d0, d1, d2, d3⟩ := heap_cells4 hc1
        have HB1 := hid' (HB.out.trans (HJ.out.1.mono HB.out.size))
        clear hc1
        by_cases hik : i < ks.length
        · obtain ⟨k, hkk⟩ : ∃ k, ks[i]? = some k := ⟨_, List.getElem?_eq_getElem hik⟩
          obtain ⟨vk, hrow, hvk⟩ := HK.out i k hkk
          obtain ⟨b, off, x0, y0, z0, u0, e, hlb, hve, r0, r1, r2, r3⟩ := hrow.keep (fun b h hl => ⟨h, HB1.out.block b hl⟩)
          subst e
          have HKV := hid' hvk
          obtain ⟨pk, ck, rfl, -, -, -, -, -⟩ := hvk.open
          obtain ⟨rfl, rfl, rfl, rfl⟩ : .int .i64 k.op = x0 ∧ .int .i64 k.n = y0 ∧ .string k.s = z0 ∧ .slice pk k.ks.length ck = u0 := by simpa using hve
          have g0 : decide ((i : Int) < (ks.length : Int)) = true := by simp; omega
          have j1 : (0 : Int) ≤ (i : Int) := by omega
          have j2 : (i : Int) < (ks.length : Int) := by omega
          have hiw : IntKind.i64.wrap ((i : Int) + 1) = (i : Int) + 1 := IntWalk.i64_in _ (by have := HZ.out; omega)
          have HKK := hid' hkk
          clear hve hkk hrow hvk
          go_wp2_with fail
          refine (HIH.out k (List.mem_of_getElem? HKK.out) ok _ wr (HKV.out.under HB1.out) (HSZ.out k (List.mem_of_getElem? HKK.out))).mono ?_
          rintro e w5 ⟨rfl, b5⟩
          have HW5 := hid' (HB1.out.trans (b5.mono HB1.out.size))
          have HJ5 := hid' (HJ.out.1.trans (b5.mono HJ.out.1.size))
          clear b5 r0 r1 r2 r3 d0 d1 d2 d3
          obtain ⟨g, hg⟩ : ∃ g, Hid (Dn.back k = g) := ⟨_, hid' rfl⟩
          rw [hg.out]
          cases g with
          | false =>
            have HNX := hid' (show Below w1.heap.size w1 w5 ∧ (ks.take (i + 1)).any Dn.back = false from ⟨HJ5.out, by rw [any_take_succ _ HKK.out, HJ.out.2, hg.out]; rfl⟩)
            go_wp2_with fail
            go_roundw
            case rel => exact ⟨i + 1, by go_num, by omega, HNX⟩
            case measure => simp only [intOf]; omega
          | true =>
            have HN := hid' (show R = true by rw [HE.out, any_true_of (List.mem_of_getElem? HKK.out) hg.out, Bool.or_true])
            go_wp2_with fail
            go_ret
            exact ⟨by rw [HN.out]; rfl, HW5.out⟩
        · obtain rfl : i = ks.length := by omega
          have g0 : decide (ks.length < ks.length) = false := by simp
          have HY := hid' (show R = false by
            rw [HE.out]
            have h2 := HJ.out.2
            rw [List.take_length] at h2
            rw [h2, HROOT.out]
            rfl)
          clear hik
          go_wp2_with fail
          go_ret
          exact ⟨by rw [HY.out]; rfl, HB1.out⟩
  · have g4 : (op == 4) = false := by simpa using h4
    have HROOT := hid' (show ((op == 4) && decide (0 < n)) = false by rw [g4]; rfl)
    clear h4
    go_wp2_with fail
    go_loopw [3] (fun iv wr => ∃ (i : Nat), iv = .int .i64 (i : Int) ∧ i ≤ ks.length ∧ Hid (Below w1.heap.size w1 wr ∧ (ks.take i).any Dn.back = false)) (fun iv _ => ks.length - (intOf iv).toNat)
    case atStart => exact ⟨0, rfl, Nat.zero_le _, hid' ⟨Below.refl _ _, rfl⟩⟩
    case round =>
      obtain ⟨i, rfl, hi, HJ⟩ := hrel
      have hc1 := (HJ.out.1.block _ (lt_of_block HC.out)).trans HC.out
      obtain ⟨d0, d1, d2, d3⟩ := heap_cells4 hc1
      have HB1 := hid' (HB.out.trans (HJ.out.1.mono HB.out.size))
      clear hc1
      by_cases hik : i < ks.length
      · obtain ⟨k, hkk⟩ : ∃ k, ks[i]? = some k := ⟨_, List.getElem?_eq_getElem hik⟩
        obtain ⟨vk, hrow, hvk⟩ := HK.out i k hkk
        obtain ⟨b, off, x0, y0, z0, u0, e, hlb, hve, r0, r1, r2, r3⟩ := hrow.keep (fun b h hl => ⟨h, HB1.out.block b hl⟩)
        subst e
        have HKV := hid' hvk
        obtain ⟨pk, ck, rfl, -, -, -, -, -⟩ := hvk.open
        obtain ⟨rfl, rfl, rfl, rfl⟩ : .int .i64 k.op = x0 ∧ .int .i64 k.n = y0 ∧ .string k.s = z0 ∧ .slice pk k.ks.length ck = u0 := by simpa using hve
        have g0 : decide ((i : Int) < (ks.length : Int)) = true := by simp; omega
        have j1 : (0 : Int) ≤ (i : Int) := by omega
        have j2 : (i : Int) < (ks.length : Int) := by omega
        have hiw : IntKind.i64.wrap ((i : Int) + 1) = (i : Int) + 1 := IntWalk.i64_in _ (by have := HZ.out; omega)
        have HKK := hid' hkk
        clear hve hkk hrow hvk
        go_wp2_with fail
        refine (HIH.out k (List.mem_of_getElem? HKK.out) ok _ wr (HKV.out.under HB1.out) (HSZ.out k (List.mem_of_getElem? HKK.out))).mono ?_
        rintro e w5 ⟨rfl, b5⟩
        have HW5 := hid' (HB1.out.trans (b5.mono HB1.out.size))
        have HJ5 := hid' (HJ.out.1.trans (b5.mono HJ.out.1.size))
        clear b5 r0 r1 r2 r3 d0 d1 d2 d3
        obtain ⟨g, hg⟩ : ∃ g, Hid (Dn.back k = g) := ⟨_, hid' rfl⟩
        rw [hg.out]
        cases g with
        | false =>
          have HNX := hid' (show Below w1.heap.size w1 w5 ∧ (ks.take (i + 1)).any Dn.back = false from ⟨HJ5.out, by rw [any_take_succ _ HKK.out, HJ.out.2, hg.out]; rfl⟩)
          go_wp2_with fail
          go_roundw
          case rel => exact ⟨i + 1, by go_num, by omega, HNX⟩
          case measure => simp only [intOf]; omega
        | true =>
          have HN := hid' (show R = true by rw [HE.out, any_true_of (List.mem_of_getElem? HKK.out) hg.out, Bool.or_true])
          go_wp2_with fail
          go_ret
          exact ⟨by rw [HN.out]; rfl, HW5.out⟩
      · obtain rfl : i = ks.length := by omega
        have g0 : decide (ks.length < ks.length) = false := by simp
        have HY := hid' (show R = false by
          rw [HE.out]
          have h2 := HJ.out.2
          rw [List.take_length] at h2
          rw [h2, HROOT.out]
          rfl)
        clear hik
        go_wp2_with fail
        go_ret
        exact ⟨by rw [HY.out]; rfl, HB1.out⟩
end Go.Proofs.YtcpobnknmegkmaaGreatDoor
namespace Go.Proofs.YtcpobnknmegkmaaGreatDoor
open Go.RowKit
open Rw
set_option linter.unusedVariables false
set_option linter.unusedSimpArgs false
set_option maxRecDepth 100000
namespace Dn
open Co
theorem ins_len (s : ByteArray) : ∀ l : List ByteArray, (ins s l).length ≤ l.length + 1
  | [] => by simp [ins]
  | x :: r => by
    rw [ins]
    split
    · have := ins_len s r; simp; omega
    · split
      · simp
      · simp
theorem namess_len {ks : List T} (h : ∀ k ∈ ks, ∀ l, (names k l).length ≤ l.length + k.size) : ∀ l, (namess ks l).length ≤ l.length + sizes ks := by
  induction ks with
  | nil => intro l; simp [namess]
  | cons a r ih =>
    intro l
    rw [namess, sizes]
    have h1 := ih (fun k hk => h k (List.mem_cons_of_mem _ hk)) (names a l)
    have h2 := h a (List.mem_cons_self ..) l
    omega
theorem names_len (t : T) : ∀ l, (names t l).length ≤ l.length + t.size := by
  induction t using T.ind with | h op n s ks ih => ?_
  intro l
  rw [names, T.size]
  by_cases h4 : op = 4
  · rw [if_pos h4]
    have h1 := namess_len ih (ins s l)
    have h2 := ins_len s l
    omega
  · rw [if_neg h4]
    have h1 := namess_len ih l
    omega
theorem namess_take {ks : List T} {i : Nat} {k : T} (h : ks[i]? = some k) (l : List ByteArray) : namess (ks.take (i + 1)) l = names k (namess (ks.take i) l) := by
  induction ks generalizing i l with
  | nil => cases h
  | cons a r ih =>
    cases i with
    | zero =>
      obtain rfl : a = k := by simpa using h
      simp [namess]
    | succ i =>
      rw [List.take_succ_cons, List.take_succ_cons, namess, namess]
      exact ih (by simpa using h) _
end Dn
set_option maxHeartbeats 8000000 in
theorem refFeedsOf_any (t : Co.T) : ∀ (ok : Nat → Prop) (v lv : Value) (L : List ByteArray) (w : World), CoreIn ok w t v → t.size ≤ 2000000 → NmAt w lv L → L.length + t.size ≤ 100000 →
    Calls Tryz.prog 20 #[lv, v] w fun e w' => Below w.heap.size w w' ∧ ∃ v', e = .returned v' ∧ NmAt w' v' (Dn.names t L) := by
  induction t using Co.T.ind with | h op n s ks ih => ?_
  intro ok v lv L w hv hsz hl hlen
  obtain ⟨q, c, rfl, hc, ho, hn, hs, hk⟩ := hv.open
  simp only [Co.T.op, Co.T.n, Co.T.s, Co.T.ks] at hk ⊢
  have hz : (Co.T.mk op n s ks).size = 1 + Co.sizes ks := by rw [Co.T.size]
  rw [hz] at hlen
  have HIH := hid' ih
  have HK := hid' hk
  have HL := hid' hl
  have HLN := hid' hlen
  have HZ := hid' (show ks.length ≤ 2000000 by rw [Co.T.size] at hsz; have := Co.sizes_len ks; omega)
  have HSZ := hid' (fun k (h : k ∈ ks) => show k.size ≤ 2000000 by have := Co.sizes_mem h; rw [Co.T.size] at hsz; omega)
  have HB := hid' ((Below.refl w.heap.size w).alloc (Nat.le_refl _) (.cells #[.int .i64 op, .int .i64 n, .string s, .slice q ks.length c] 24))
  have HC := hid' (heap_alloc_new w (.cells #[.int .i64 op, .int .i64 n, .string s, .slice q ks.length c] 24))
  have HE := hid' (show Dn.names (.mk op n s ks) L = Dn.namess ks (if op = 4 then Dn.ins s L else L) by rw [Dn.names])
  rw [HE.out]
  obtain ⟨M, hM⟩ : ∃ M, M = (if op = 4 then Dn.ins s L else L) := ⟨_, rfl⟩
  rw [← hM]
  have HML := hid' (show M.length + Co.sizes ks ≤ 100000 by
    have h1 := Dn.ins_len s L
    have h2 := HLN.out
    rw [hM]
    split
    · omega
    · omega)
  clear ih hk hc ho hn hs hsz hv hl hlen hz
  go_enter Tryz.func20, Tryz.ntmps20
  go_upto_region 1 with (fail)
  generalize World.alloc _ _ = w1 at *
  obtain ⟨c0, c1, c2, c3⟩ := heap_cells4 HC.out
  obtain ⟨fp, fc, rfl, -⟩ := HL.out.form
  generalize (.slice fp L.length fc : Value) = lv at *
  have HWT := hid' (refWith_any L s lv w1 (HL.out.below HB.out) (by have := HLN.out; omega))
  go_upto_if 8 with (fail)
  go_cut [0] (fun mv wx => Hid (Below w1.heap.size w1 wx ∧ NmAt wx mv M))
  case first =>
    by_cases h4 : op = 4
    · rw [if_pos h4] at hM
      subst hM
      subst h4
      go_wp2_with (first | (go_at_call 31; refine HWT.out.mono ?_; rintro e w2 ⟨b2, v2, rfl, h2⟩; have HR := hid' (And.intro b2 h2); clear b2 h2))
      go_meet
      exact HR
    · rw [if_neg h4] at hM
      subst hM
      have g4 : (op == 4) = false := by simpa using h4
      have HR := hid' (And.intro (Below.refl w1.heap.size w1) (HL.out.below HB.out))
      clear h4
      go_wp2_with fail
      go_meet
      exact HR
  case rest =>
    have HR := hcut
    clear hM HE HWT HL
    go_wp2_with fail
    go_loopw [0, 5] (fun mv iv wr => ∃ i : Nat, iv = .int .i64 (i : Int) ∧ i ≤ ks.length ∧ Hid (Below w1.heap.size w1 wr ∧ NmAt wr mv (Dn.namess (ks.take i) M))) (fun _ iv _ => ks.length - (intOf iv).toNat)
    case atStart => exact ⟨0, rfl, Nat.zero_le _, hid' ⟨HR.out.1, HR.out.2⟩⟩
    case round =>
      clear HR hcut
      obtain ⟨i, rfl, hi, HJ⟩ := hrel
      obtain ⟨np, nc, hnv, -⟩ := HJ.out.2.form
      have hc1 := (HJ.out.1.block _ (lt_of_block HC.out)).trans HC.out
      obtain ⟨d0, d1, d2, d3⟩ := heap_cells4 hc1
      have HB1 := hid' (HB.out.trans (HJ.out.1.mono HB.out.size))
      clear hc1
      by_cases hik : i < ks.length
      · obtain ⟨k, hkk⟩ : ∃ k, ks[i]? = some k := ⟨_, List.getElem?_eq_getElem hik⟩
        obtain ⟨vk, hrow, hvk⟩ := HK.out i k hkk
        obtain ⟨b, off, x0, y0, z0, u0, e, hlb, hve, r0, r1, r2, r3⟩ := hrow.keep (fun b h hl => ⟨h, HB1.out.block b hl⟩)
        subst e
        have HKV := hid' hvk
        obtain ⟨pk, ck, rfl, -, -, -, -, -⟩ := hvk.open
        obtain ⟨rfl, rfl, rfl, rfl⟩ : .int .i64 k.op = x0 ∧ .int .i64 k.n = y0 ∧ .string k.s = z0 ∧ .slice pk k.ks.length ck = u0 := by simpa using hve
        have g0 : decide ((i : Int) < (ks.length : Int)) = true := by simp; omega
        have j1 : (0 : Int) ≤ (i : Int) := by omega
        have j2 : (i : Int) < (ks.length : Int) := by omega
        have hiw : IntKind.i64.wrap ((i : Int) + 1) = (i : Int) + 1 := IntWalk.i64_in _ (by have := HZ.out; omega)
        have HKK := hid' hkk
        have HLE := hid' (show (Dn.namess (ks.take i) M).length + k.size ≤ 100000 by
          have h1 := Dn.namess_len (ks := ks.take i) (fun k _ l => Dn.names_len k l) M
          have h2 := Dn.take_sizes hkk
          have h3 := HML.out
          omega)
        clear hve hkk hrow hvk hnv
        go_wp2_with fail
        refine (HIH.out k (List.mem_of_getElem? HKK.out) ok _ _ _ wr (HKV.out.under HB1.out) (HSZ.out k (List.mem_of_getElem? HKK.out)) HJ.out.2 HLE.out).mono ?_
        rintro e w5 ⟨b5, v5, rfl, h5⟩
        have HNX := hid' (show Below w1.heap.size w1 w5 ∧ NmAt w5 v5 (Dn.namess (ks.take (i + 1)) M) from ⟨HJ.out.1.trans (b5.mono HJ.out.1.size), by rw [Dn.namess_take HKK.out]; exact h5⟩)
        clear b5 h5 r0 r1 r2 r3 d0 d1 d2 d3
        go_wp2_with fail
        go_roundw
        case rel => exact ⟨i + 1, by go_num, by omega, HNX⟩
        case measure => simp only [intOf]; omega
      · obtain rfl : i = ks.length := by omega
        have g0 : decide (ks.length < ks.length) = false := by simp
        clear hik hnv
        go_wp2_with fail
        go_ret
        exact ⟨HB1.out, _, rfl, by have h := HJ.out.2; rw [List.take_length] at h; exact h⟩
set_option maxHeartbeats 8000000 in
theorem refFeeds_any (t : Co.T) (ok : Nat → Prop) (v : Value) (w : World) (hv : CoreIn ok w t v) (hsz : t.size ≤ 2000000) (hg : t.good) :
    Calls Tryz.prog 9 #[v] w fun e w' => Below w.heap.size w w' ∧ ∃ v', e = .returned v' ∧ NmAt w' v' (Dn.names t []) := by
  obtain ⟨op, n, s, q, ln, c, rfl, hop, hn, hs, hln⟩ := open_term hv
  have HV := hid' hv
  have HSZ := hid' hsz
  have HSM := hid' (show ([] : List ByteArray).length + t.size ≤ 100000 by have := ((Co.small_iff t).1 hg.1).1; simp; omega)
  have HB := hid' ((Below.refl w.heap.size w).alloc (Nat.le_refl _) (.cells #[.int .i64 op, .int .i64 n, .string s, .slice q ln c] 24))
  have HC := hid' (heap_alloc_new w (.cells #[.int .i64 op, .int .i64 n, .string s, .slice q ln c] 24))
  have HT := hid' (fun w' (h : Below w.heap.size w w') => refType_any t ok _ w' (hv.under h) hsz)
  rw [Co.good_typed hg] at HT
  clear hop hn hs hln hv hsz hg
  go_enter Tryz.func9, Tryz.ntmps9
  go_upto_region 1 with (fail)
  generalize World.alloc _ _ = w1 at *
  obtain ⟨c0, c1, c2, c3⟩ := heap_cells4 HC.out
  go_wp2_with fail
  refine (HT.out w1 HB.out).mono ?_
  rintro e w2 ⟨x, rfl, hx, b2⟩
  have HB2 := hid' (HB.out.trans (b2.mono HB.out.size))
  have HC2 := hid' ((b2.block _ (lt_of_block HC.out)).trans HC.out)
  clear b2 c0 c1 c2 c3 hx
  obtain ⟨c0, c1, c2, c3⟩ := heap_cells4 HC2.out
  go_wp2_with fail
  refine (refFeedsOf_any t ok _ _ [] w2 (HV.out.under HB2.out) HSZ.out (NmAt.nil _) HSM.out).mono ?_
  rintro e w3 ⟨b3, v3, rfl, h3⟩
  have HB3 := hid' (HB2.out.trans (b3.mono HB2.out.size))
  have HR := hid' h3
  clear b3 h3
  go_wp2_with fail
  go_ret
  exact ⟨HB3.out, v3, rfl, HR.out⟩
end Go.Proofs.YtcpobnknmegkmaaGreatDoor
namespace Go.Proofs.YtcpobnknmegkmaaGreatDoor
open Go.RowKit
open Rw
set_option linter.unusedVariables false
set_option linter.unusedSimpArgs false
set_option maxRecDepth 100000
/-- An event: a day, feeds, what is picked. -/
abbrev Ev : Type := Int × List Fd.Feed × ByteArray × Int
def EvAt (W : World) (v : Value) (l : List Ev) : Prop := ∃ p c, v = .slice p l.length c ∧ (l.length ≤ c ∧ c ≤ maxLen) ∧ ∀ (i : Nat) (x : Ev), l[i]? = some x → ∃ b off sv, p = some ⟨b, off, none⟩ ∧ b < W.heap.size ∧ (W.cell? ⟨b, off + i * 4, none⟩ = some (.int .i64 x.1) ∧ W.cell? ⟨b, off + i * 4 + 1, none⟩ = some sv ∧ W.cell? ⟨b, off + i * 4 + 2, none⟩ = some (.string x.2.2.1) ∧ W.cell? ⟨b, off + i * 4 + 3, none⟩ = some (.int .i64 x.2.2.2)) ∧ FeedsAt W sv x.2.1 ∧ x.2.2.1.size ≤ 2000000
def Wait (t : Co.T) (l : List (Int × Int)) : Prop := ∃ P : Co.T → Int → Int → Prop, Dn.Chain P t 0 0 l (t.size : Int)
theorem end_take (N : List ByteArray) {i : Nat} {s : ByteArray} (h : N[i]? = some s) : (Dn.endF N).take (i + 1) = (Dn.endF N).take i ++ [(s, [(0, (i : Int) * 500000)])] := by rw [List.take_add_one, Dn.end_at' h]; rfl
theorem stamp_lit (W : World) (n : Int) : StampRow W.heap.size (W.alloc (.cells #[.int .i64 0, .int .i64 n] 43)) (.slice (some ⟨W.heap.size, 0, none⟩) 1 1) [(0, n)] :=
  World.ownsRow_lit W #[.int .i64 0, .int .i64 n] 1 (Nat.le_refl _) (by decide) rfl
theorem StampRow.less {base b : Nat} {W : World} {v : Value} {l : List (Int × Int)} (h : StampRow base W v l) (hb : b ≤ base) : StampRow b W v l := ⟨h.1, h.2.imp id fun ⟨g, cap, cur, e1, e2, e3⟩ => ⟨g, cap, cur, e1, Nat.le_trans hb e2, e3⟩⟩
theorem name_small {s : ByteArray} (h : Led.isName s = true) : s.size ≤ 2000000 := by
  unfold Led.isName at h
  split at h
  · cases h
  · rename_i c t e
    simp only [Bool.and_eq_true, decide_eq_true_eq] at h
    have h2 : s.size = s.data.toList.length := by rw [Array.length_toList]; rfl
    rw [h2, e, List.length_cons]
    omega
set_option maxHeartbeats 16000000 in
theorem law_ends (t : Co.T) (v ve : Value) (day : Int) (evs : List Ev) (last : Int) (w : World) (hv : CoreIn (fun _ => True) w t v) (hsz : t.size ≤ 1048576) (hev : EvAt w ve evs) :
    Calls Tryz.prog 3 #[v, .int .i64 day, ve, .int .i64 last] w (True1 w) := by
  obtain ⟨p, c, hve, -⟩ := hv.open
  obtain ⟨op, tn, s, ln, rfl⟩ : ∃ op n s ln, v = .agg #[.int .i64 op, .int .i64 n, .string s, .slice p ln c] := ⟨_, _, _, _, hve⟩
  clear hve
  have HB0 := hid' ((Below.refl w.heap.size w).alloc (Nat.le_refl _) (.cells #[.int .i64 op, .int .i64 tn, .string s, .slice p ln c] 24))
  have HC0 := hid' (heap_alloc_new w (.cells #[.int .i64 op, .int .i64 tn, .string s, .slice p ln c] 24))
  have HV := hid' hv
  have HSZ := hid' (Nat.le_trans hsz (by decide : 1048576 ≤ 2000000))
  obtain ⟨ep, ec, rfl, ⟨he1, he2⟩, hec⟩ := hev
  have HEC := hid' hec
  have hbig : (evs.length : Int) ≤ 9223372036854775807 := by unfold maxLen at he2; omega
  clear hv hsz hec he1 he2
  have HSH := hid' (fun W => shown15_any W)
  have HBG := hid' (fun W (h : Below w.heap.size w W) => (dnbegin_any t day [] (fun _ => True) _ _ W (HV.out.under h) HSZ.out (stamps_none W)).mono fun e w' h => DnPost.hands h (Dn.begin_short t day []) (fun r hr => Dn.chain_i64 HSZ.out (begin_lives hr).1))
  obtain ⟨r1, hr1⟩ : ∃ r, Hid (Dn.beginR t day [] = r) := ⟨_, hid' rfl⟩
  rw [hr1.out] at HBG
  have HBK := hid' (fun W (h : Below w.heap.size w W) => looksBack_any t (fun _ => True) _ W (HV.out.under h) HSZ.out)
  have HHZ := hid' (fun W (h : Below w.heap.size w W) => refHorz_any t (fun _ => True) _ W (HV.out.under h) HSZ.out)
  obtain ⟨bk, hbk⟩ : ∃ b, Hid (Dn.back t = b) := ⟨_, hid' rfl⟩
  rw [hbk.out] at HBK
  obtain ⟨hz, hhz⟩ : ∃ b, Hid (t.horz = b) := ⟨_, hid' rfl⟩
  rw [hhz.out] at HHZ
  go_enter Tryz.func3, Tryz.ntmps3
  go_upto_region 1 with (fail)
  generalize World.alloc _ _ = w1 at *
  go_upto_region 2 with (first | (go_at_call 4; refine (HSH.out _).mono ?_; rintro e w2 ⟨rfl, b2⟩; have HB2 := hid' (HB0.out.trans (b2.mono HB0.out.size)); have HC2 := hid' (box_below b2 HC0.out); clear b2))
  obtain ⟨c0, c1, c2, c3⟩ := heap_cells4 HC2.out
  go_upto_region 3 with (first | (go_at_call 5; refine (HBG.out _ HB2.out).mono ?_; rintro e w3 ⟨b3, vl1, vo1, rfl, hl1, ho1, hs1⟩; have HB3 := hid' (HB2.out.trans (b3.mono HB2.out.size)); have HC3 := hid' (box_below b3 HC2.out); have HT1 := hid' hs1; clear b3 hl1 ho1 hs1))
  clear c0 c1 c2 c3 HC0 HBG
  cases r1 with
  | none =>
    rw [Dn.errOf_none']
    go_wp2_with fail
    go_ret
    exact ⟨rfl, HB3.out⟩
  | some r =>
  rw [errOf_some']
  have HBL := hid' (begin_lives hr1.out)
  have hgood := HBL.out.2.2.1
  have HWT := hid' (show Wait t r.1 from ⟨_, HBL.out.1⟩)
  obtain ⟨c0, c1, c2, c3⟩ := heap_cells4 HC3.out
  go_upto_region 6 with (first | (go_at_call 6; refine (HBK.out _ HB3.out).mono ?_; rintro e w4 ⟨rfl, b4⟩; have HB4 := hid' (HB3.out.trans (b4.mono HB3.out.size)); have HC4 := hid' (box_below b4 HC3.out); have HT4 := hid' (show StampsAt w4 vl1 r.1 from HT1.out.below b4); clear b4))
  clear c0 c1 c2 c3 HC3 HT1
  obtain ⟨c0, c1, c2, c3⟩ := heap_cells4 HC4.out
  cases bk with
  | true =>
    go_wp2_with fail
    go_ret
    exact ⟨rfl, HB4.out⟩
  | false =>
  by_cases h1 : last < 0
  · have g1 : decide (last < 0) = true := decide_eq_true h1
    clear h1
    go_wp2_with fail
    go_ret
    exact ⟨rfl, HB4.out⟩
  have g1 : decide (last < 0) = false := decide_eq_false h1
  by_cases h2 : 73048 < last
  · have g2 : decide (73048 < last) = true := decide_eq_true h2
    clear h1 h2
    go_wp2_with fail
    go_ret
    exact ⟨rfl, HB4.out⟩
  have g2 : decide (73048 < last) = false := decide_eq_false h2
  have HDO := hid' (show dayOk last = true by unfold dayOk; rw [decide_eq_true (by omega : 0 ≤ last), decide_eq_true (by omega : last ≤ 73048)]; rfl)
  clear h1 h2
  have HH4 := hid' (HHZ.out w4 HB4.out)
  by_cases h3 : last ≤ hz
  · have g3 : decide (last ≤ hz) = true := decide_eq_true h3
    clear h3
    go_wp2_with (first | (go_at_call 7; refine HH4.out.mono ?_; rintro e w5 ⟨rfl, b5⟩; have HB5 := hid' (HB4.out.trans (b5.mono HB4.out.size)); clear b5))
    go_ret
    exact ⟨rfl, HB5.out⟩
  have g3 : decide (last ≤ hz) = false := decide_eq_false h3
  have HHL := hid' (show t.hor < last from by
    have h := hhz.out
    unfold Co.T.horz at h
    rw [if_pos (Co.good_typed hgood)] at h
    omega)
  clear h3
  go_upto_region 8 with (first | (go_at_call 7; refine HH4.out.mono ?_; rintro e w5 ⟨rfl, b5⟩; have HB5 := hid' (HB4.out.trans (b5.mono HB4.out.size)); have HC5 := hid' (box_below b5 HC4.out); have HT5 := hid' (HT4.out.below b5); clear b5))
  clear c0 c1 c2 c3 g1 g2 g3 HC4 HT4 HH4 HHZ HBK
  go_upto_block 0 with (fail)
  go_cut [10] (fun lv wx => ∃ l, Hid (Below w5.heap.size w5 wx ∧ StampsAt wx lv l ∧ Wait t l))
  case first =>
    go_wp2_with fail
    go_loopw [10, 14] (fun lv iv wr => ∃ (i : Nat) (l : List (Int × Int)), iv = .int .i64 (i : Int) ∧ i ≤ evs.length ∧ Hid (Below w5.heap.size w5 wr ∧ StampsAt wr lv l ∧ Wait t l)) (fun _ iv _ => evs.length - (intOf iv).toNat)
    case atStart => exact ⟨0, r.1, rfl, Nat.zero_le _, hid' ⟨Below.refl _ _, HT5.out, HWT.out⟩⟩
    case round =>
      obtain ⟨i, l, rfl, hi, HJ⟩ := hrel
      obtain ⟨lv, hlv⟩ : ∃ lv, lv = u10 := ⟨_, rfl⟩
      by_cases hin : i < evs.length
      · have j1 : (0 : Int) ≤ (i : Int) := by omega
        have j2 : (i : Int) < (evs.length : Int) := by omega
        by_cases h50 : i < 50
        · have g50 : decide ((i : Int) < 50) = true := decide_eq_true (by omega)
          have hiw : IntKind.i64.wrap ((i : Int) + 1) = (i : Int) + 1 := IntWalk.i64_in _ (by omega)
          obtain ⟨x, hx⟩ : ∃ x, evs[i]? = some x := ⟨_, List.getElem?_eq_getElem hin⟩
          obtain ⟨eb, eo, sv, rfl, -, ⟨x0, x1, x2, x3⟩, hfx, hlx⟩ := HEC.out i x hx
          obtain ⟨xd, xF, xl, xw⟩ := x
          simp only at x0 x1 x2 x3 hfx hlx
          have HWR := hid' (HB5.out.trans (HJ.out.1.mono HB5.out.size))
          have HKX := hid' (fun W (h : Below wr.heap.size wr W) => And.intro (heap_cells4 (box_below h (box_below HJ.out.1 HC5.out))) (And.intro (keep_all h _ _ (keep_all HWR.out _ _ x0)) (And.intro (keep_all h _ _ (keep_all HWR.out _ _ x1)) (And.intro (keep_all h _ _ (keep_all HWR.out _ _ x2)) (keep_all h _ _ (keep_all HWR.out _ _ x3))))))
          obtain ⟨P, hch⟩ := HJ.out.2.2
          have HCH := hid' hch
          have HST := hid' (fun W (h : Below wr.heap.size wr W) => (dnstep_any t l xd xF xl xw (fun _ => True) _ u10 sv W (HV.out.under (HWR.out.trans (h.mono HWR.out.size))) HSZ.out (HJ.out.2.1.below h) (hfx.below (HWR.out.trans (h.mono HWR.out.size))) hlx).mono fun e w' h => DnPost.hands h (Dn.step_short t l xd xF xl xw) (fun q hq => Dn.chain_i64 HSZ.out (Dn.step_lives HCH.out hq).1))
          obtain ⟨q, hq⟩ : ∃ q, Hid (Dn.stepR t l xd xF xl xw = q) := ⟨_, hid' rfl⟩
          rw [hq.out] at HST
          obtain ⟨sp, sl, sc, hsv⟩ : ∃ sp sl sc, sv = .slice sp sl sc := by obtain ⟨a, b, e, -⟩ := hfx; exact ⟨_, _, _, e⟩
          have HI := hid' hin
          have HFX := hid' hfx
          clear hx x0 x1 x2 x3 hfx hlx hch hin h50
          go_upto_region 11 with (fail)
          have HD := hid' (show Below wr.heap.size wr wr.drew from (Below.refl _ _).drew)
          refine wp_region_chain (Below wr.heap.size wr) 25 [false, false, false, false, false, false, false, false, false, false, false, false, false, false, false, false, false, true, false, false, false, false, false, false, false] (by kernel_rfl) (by kernel_rfl) (by kernel_rfl) HD.out ?_
          apply wpChain_quiet
          · rfl
          · intro W hW
            obtain ⟨⟨d0, d1, d2, d3⟩, x0, x1, x2, x3⟩ := HKX.out W hW
            first | (go_simp; done) | (go_simp; with_reducible rfl)
          simp only [Act.put, List.setIfInBounds_toArray, List.set_cons_zero, List.set_cons_succ]
          apply wpChain_quiet
          · rfl
          · intro W hW
            obtain ⟨⟨d0, d1, d2, d3⟩, x0, x1, x2, x3⟩ := HKX.out W hW
            first | (go_simp; done) | (go_simp; with_reducible rfl)
          simp only [Act.put, List.setIfInBounds_toArray, List.set_cons_zero, List.set_cons_succ]
          apply wpChain_quiet
          · rfl
          · intro W hW
            obtain ⟨⟨d0, d1, d2, d3⟩, x0, x1, x2, x3⟩ := HKX.out W hW
            first | (go_simp; done) | (go_simp; with_reducible rfl)
          simp only [Act.put, List.setIfInBounds_toArray, List.set_cons_zero, List.set_cons_succ]
          apply wpChain_quiet
          · rfl
          · intro W hW
            obtain ⟨⟨d0, d1, d2, d3⟩, x0, x1, x2, x3⟩ := HKX.out W hW
            first | (go_simp; done) | (go_simp; with_reducible rfl)
          simp only [Act.put, List.setIfInBounds_toArray, List.set_cons_zero, List.set_cons_succ]
          apply wpChain_quiet
          · rfl
          · intro W hW
            obtain ⟨⟨d0, d1, d2, d3⟩, x0, x1, x2, x3⟩ := HKX.out W hW
            first | (go_simp; done) | (go_simp; with_reducible rfl)
          simp only [Act.put, List.setIfInBounds_toArray, List.set_cons_zero, List.set_cons_succ]
          apply wpChain_quiet
          · rfl
          · intro W hW
            obtain ⟨⟨d0, d1, d2, d3⟩, x0, x1, x2, x3⟩ := HKX.out W hW
            first | (go_simp; done) | (go_simp; with_reducible rfl)
          simp only [Act.put, List.setIfInBounds_toArray, List.set_cons_zero, List.set_cons_succ]
          apply wpChain_quiet
          · rfl
          · intro W hW
            obtain ⟨⟨d0, d1, d2, d3⟩, x0, x1, x2, x3⟩ := HKX.out W hW
            first | (go_simp; done) | (go_simp; with_reducible rfl)
          simp only [Act.put, List.setIfInBounds_toArray, List.set_cons_zero, List.set_cons_succ]
          apply wpChain_quiet
          · rfl
          · intro W hW
            obtain ⟨⟨d0, d1, d2, d3⟩, x0, x1, x2, x3⟩ := HKX.out W hW
            first | (go_simp; done) | (go_simp; with_reducible rfl)
          simp only [Act.put, List.setIfInBounds_toArray, List.set_cons_zero, List.set_cons_succ]
          apply wpChain_quiet
          · rfl
          · intro W hW
            obtain ⟨⟨d0, d1, d2, d3⟩, x0, x1, x2, x3⟩ := HKX.out W hW
            first | (go_simp; done) | (go_simp; with_reducible rfl)
          simp only [Act.put, List.setIfInBounds_toArray, List.set_cons_zero, List.set_cons_succ]
          apply wpChain_quiet
          · rfl
          · intro W hW
            obtain ⟨⟨d0, d1, d2, d3⟩, x0, x1, x2, x3⟩ := HKX.out W hW
            first | (go_simp; done) | (go_simp; with_reducible rfl)
          simp only [Act.put, List.setIfInBounds_toArray, List.set_cons_zero, List.set_cons_succ]
          apply wpChain_quiet
          · rfl
          · intro W hW
            obtain ⟨⟨d0, d1, d2, d3⟩, x0, x1, x2, x3⟩ := HKX.out W hW
            first | (go_simp; done) | (go_simp; with_reducible rfl)
          simp only [Act.put, List.setIfInBounds_toArray, List.set_cons_zero, List.set_cons_succ]
          apply wpChain_quiet
          · rfl
          · intro W hW
            obtain ⟨⟨d0, d1, d2, d3⟩, x0, x1, x2, x3⟩ := HKX.out W hW
            first | (go_simp; done) | (go_simp; with_reducible rfl)
          simp only [Act.put, List.setIfInBounds_toArray, List.set_cons_zero, List.set_cons_succ]
          apply wpChain_quiet
          · rfl
          · intro W hW
            obtain ⟨⟨d0, d1, d2, d3⟩, x0, x1, x2, x3⟩ := HKX.out W hW
            first | (go_simp; done) | (go_simp; with_reducible rfl)
          simp only [Act.put, List.setIfInBounds_toArray, List.set_cons_zero, List.set_cons_succ]
          apply wpChain_quiet
          · rfl
          · intro W hW
            obtain ⟨⟨d0, d1, d2, d3⟩, x0, x1, x2, x3⟩ := HKX.out W hW
            first | (go_simp; done) | (go_simp; with_reducible rfl)
          simp only [Act.put, List.setIfInBounds_toArray, List.set_cons_zero, List.set_cons_succ]
          apply wpChain_quiet
          · rfl
          · intro W hW
            obtain ⟨⟨d0, d1, d2, d3⟩, x0, x1, x2, x3⟩ := HKX.out W hW
            first | (go_simp; done) | (go_simp; with_reducible rfl)
          simp only [Act.put, List.setIfInBounds_toArray, List.set_cons_zero, List.set_cons_succ]
          apply wpChain_quiet
          · rfl
          · intro W hW
            obtain ⟨⟨d0, d1, d2, d3⟩, x0, x1, x2, x3⟩ := HKX.out W hW
            first | (go_simp; done) | (go_simp; with_reducible rfl)
          simp only [Act.put, List.setIfInBounds_toArray, List.set_cons_zero, List.set_cons_succ]
          apply wpChain_quiet
          · rfl
          · intro W hW
            obtain ⟨⟨d0, d1, d2, d3⟩, x0, x1, x2, x3⟩ := HKX.out W hW
            first | (go_simp; done) | (go_simp; with_reducible rfl)
          simp only [Act.put, List.setIfInBounds_toArray, List.set_cons_zero, List.set_cons_succ]
          refine wpChain_call 8 #[.agg #[.int .i64 op, .int .i64 tn, .string s, .slice p ln c], u10, .int .i64 xd, sv, .agg #[.string xl, .int .i64 xw]] (fun v w' => Below wr.drew.heap.size wr.drew w' ∧ ∃ vl vo, v = .tuple #[vl, vo, .int .i64 (Dn.errOf q)] ∧ StampsAt w' vl (q.getD Dn.nothing).1) ?_ ?_ ?_ ?_
          · rfl
          · go_simp
          · exact (HST.out _ HD.out).mono fun e w' ⟨h1, vl, vo, h2, _, _, h3⟩ => ⟨_, h2, h1, vl, vo, rfl, h3⟩
          rintro _ w6 ⟨b6, vl2, vo2, rfl, hs2⟩
          have HB6 := hid' (Below.more HD.out b6)
          have HS6 := hid' hs2
          clear b6 hs2
          refine ⟨.inr HB6.out, ?_⟩
          simp only [Act.put, List.setIfInBounds_toArray, List.set_cons_zero, List.set_cons_succ]
          apply wpChain_quiet
          · rfl
          · intro W hW
            obtain ⟨⟨d0, d1, d2, d3⟩, x0, x1, x2, x3⟩ := HKX.out W hW
            first | (go_simp; done) | (go_simp; with_reducible rfl)
          simp only [Act.put, List.setIfInBounds_toArray, List.set_cons_zero, List.set_cons_succ]
          apply wpChain_quiet
          · rfl
          · intro W hW
            obtain ⟨⟨d0, d1, d2, d3⟩, x0, x1, x2, x3⟩ := HKX.out W hW
            first | (go_simp; done) | (go_simp; with_reducible rfl)
          simp only [Act.put, List.setIfInBounds_toArray, List.set_cons_zero, List.set_cons_succ]
          apply wpChain_quiet
          · rfl
          · intro W hW
            obtain ⟨⟨d0, d1, d2, d3⟩, x0, x1, x2, x3⟩ := HKX.out W hW
            first | (go_simp; done) | (go_simp; with_reducible rfl)
          simp only [Act.put, List.setIfInBounds_toArray, List.set_cons_zero, List.set_cons_succ]
          apply wpChain_quiet
          · rfl
          · intro W hW
            obtain ⟨⟨d0, d1, d2, d3⟩, x0, x1, x2, x3⟩ := HKX.out W hW
            first | (go_simp; done) | (go_simp; with_reducible rfl)
          simp only [Act.put, List.setIfInBounds_toArray, List.set_cons_zero, List.set_cons_succ]
          apply wpChain_quiet
          · rfl
          · intro W hW
            obtain ⟨⟨d0, d1, d2, d3⟩, x0, x1, x2, x3⟩ := HKX.out W hW
            first | (go_simp; done) | (go_simp; with_reducible rfl)
          simp only [Act.put, List.setIfInBounds_toArray, List.set_cons_zero, List.set_cons_succ]
          apply wpChain_quiet
          · rfl
          · intro W hW
            obtain ⟨⟨d0, d1, d2, d3⟩, x0, x1, x2, x3⟩ := HKX.out W hW
            first | (go_simp; done) | (go_simp; with_reducible rfl)
          simp only [Act.put, List.setIfInBounds_toArray, List.set_cons_zero, List.set_cons_succ]
          apply wpChain_quiet
          · rfl
          · intro W hW
            obtain ⟨⟨d0, d1, d2, d3⟩, x0, x1, x2, x3⟩ := HKX.out W hW
            first | (go_simp; done) | (go_simp; with_reducible rfl)
          simp only [Act.put, List.setIfInBounds_toArray, List.set_cons_zero, List.set_cons_succ]
          refine wpChain_nil ?_
          cases q with
          | none =>
            rw [Dn.errOf_none']
            have HNX := hid' (show Below w5.heap.size w5 w6 ∧ StampsAt w6 u10 l ∧ Wait t l from ⟨Below.more HJ.out.1 HB6.out, HJ.out.2.1.below HB6.out, HJ.out.2.2⟩)
            go_wp2_with fail
            go_roundw
            case rel => exact ⟨i + 1, l, by go_num, by have := HI.out; omega, HNX⟩
            case measure => have := HI.out; simp only [intOf]; omega
          | some r2 =>
            rw [errOf_some']
            have HNX := hid' (show Below w5.heap.size w5 w6 ∧ StampsAt w6 vl2 r2.1 ∧ Wait t r2.1 from ⟨Below.more HJ.out.1 HB6.out, HS6.out, ⟨_, (Dn.step_lives HCH.out hq.out).1⟩⟩)
            go_wp2_with fail
            go_roundw
            case rel => exact ⟨i + 1, r2.1, by go_num, by have := HI.out; omega, HNX⟩
            case measure => have := HI.out; simp only [intOf]; omega
        · have g50 : decide ((i : Int) < 50) = false := decide_eq_false (by omega)
          clear hin h50
          go_wp2_with fail
          go_meet
          exact ⟨l, HJ⟩
      · obtain rfl : i = evs.length := by omega
        have j3 : decide (evs.length < evs.length) = false := by simp
        clear hin
        go_wp2_with fail
        go_meet
        exact ⟨l, HJ⟩
  case rest =>
    obtain ⟨l, HJ⟩ := hcut
    have HW0 := hid' (HB5.out.trans (HJ.out.1.mono HB5.out.size))
    obtain ⟨c0, c1, c2, c3⟩ := heap_cells4 (box_below HJ.out.1 HC5.out)
    have HCB := hid' (box_below HJ.out.1 HC5.out)
    have HFD := hid' (fun W (h : Below w.heap.size w W) => refFeeds_any t (fun _ => True) _ W (HV.out.under h) HSZ.out hgood)
    obtain ⟨N, hN⟩ : ∃ N, Hid (Dn.names t [] = N) := ⟨_, hid' rfl⟩
    rw [hN.out] at HFD
    have HNL := hid' (show N.length ≤ 2000 by
      have h1 := Dn.names_len t []
      have h2 := ((Co.small_iff t).1 hgood.1).1
      rw [hN.out] at h1
      simp at h1
      omega)
    have HLS := hid' (HJ.out.2.1)
    have HWL := hid' (HJ.out.2.2)
    clear HJ HT5
    rename_i lv wx
    go_upto_region 16 with (first | (go_at_call 9; refine (HFD.out _ HW0.out).mono ?_; rintro e w6 ⟨b6, nv, rfl, hnm⟩; have HW6 := hid' (HW0.out.trans (b6.mono HW0.out.size)); have HC6 := hid' (box_below b6 HCB.out); have HL6 := hid' (HLS.out.below b6); have HNM := hid' hnm; clear b6 hnm))
    obtain ⟨np, nc, rfl, hnc⟩ := HNM.out.form
    have HNC := hid' hnc
    clear hnc c0 c1 c2 c3 HLS HCB HFD
    go_upto_block 2 with (fail)
    go_cut [18] (fun fv wx => Hid (ToldRow w6.heap.size (Dn.endF N) fv wx ∧ Below w6.heap.size w6 wx))
    case first =>
      go_wp2_with fail
      go_loopw [18, 20] (fun ov iv wr => ∃ i : Nat, iv = .int .i64 (i : Int) ∧ i ≤ N.length ∧ Hid (ToldRow w6.heap.size ((Dn.endF N).take i) ov wr ∧ Below w6.heap.size w6 wr)) (fun _ iv _ => N.length - (intOf iv).toNat)
      case atStart => exact ⟨0, rfl, Nat.zero_le _, hid' ⟨ToldRow.nil _ _, Below.refl _ _⟩⟩
      case round =>
        obtain ⟨i, rfl, hi, HJ⟩ := hrel
        by_cases hin : i < N.length
        · obtain ⟨x, hx⟩ : ∃ x, N[i]? = some x := ⟨_, List.getElem?_eq_getElem hin⟩
          obtain ⟨nb, no, rfl, -, x0⟩ := HNC.out i x hx
          replace x0 := keep_all HJ.out.2 _ _ x0
          have j1 : (0 : Int) ≤ (i : Int) := by omega
          have j2 : (i : Int) < (N.length : Int) := by omega
          have hNI := HNL.out
          have hiw : IntKind.i64.wrap ((i : Int) + 1) = (i : Int) + 1 := IntWalk.i64_in _ (by omega)
          have hmw : IntKind.i64.wrap ((i : Int) * 500000) = (i : Int) * 500000 := IntWalk.i64_in _ (by omega)
          have HET := hid' (end_take N hx)
          have HI := hid' hin
          have ba := (Below.refl wr.heap.size wr).alloc (Nat.le_refl _) (.cells #[.int .i64 0, .int .i64 ((i : Int) * 500000)] 43)
          have HBA := hid' (Below.more HJ.out.2 ba)
          have HTR := hid' (HJ.out.1.kept ba)
          have HST := hid' ((stamp_lit wr ((i : Int) * 500000)).less HJ.out.2.size)
          have hws : (wr.alloc (.cells #[.int .i64 0, .int .i64 ((i : Int) * 500000)] 43)).heap.size = wr.heap.size + 1 := by simp
          have x0' := alloc_cell x0 (.cells #[.int .i64 0, .int .i64 ((i : Int) * 500000)] 43)
          clear hx hin ba
          go_wp2_with (refine append_feed rfl _ _ rfl w6.heap.size u18 _ rfl HTR.out (x, [(0, (i : Int) * 500000)]) (.slice (some ⟨wr.heap.size, 0, none⟩) 1 1) rfl HST.out (by first | rfl | (simp only [World.size_alloc]; rfl)) (by rw [List.length_take]; omega) HBA.out.size (fun v' w7 h5 h6 => ?_); refine halt' ?_)
          refine hid' ?_
          have HNX := hid' (show ToldRow w6.heap.size ((Dn.endF N).take (i + 1)) v' w7 ∧ Below w6.heap.size w6 w7 from ⟨by rw [HET.out]; exact h5, by
            obtain ⟨qs, -, hown, -⟩ := HTR.out
            exact below_row2 HBA.out hown HBA.out.size h6⟩)
          clear h5 h6 x0 x0' hws
          go_wp2_with fail
          go_roundw
          case rel => exact ⟨i + 1, by go_num, by have := HI.out; omega, HNX⟩
          case measure => have := HI.out; simp only [intOf]; omega
        · obtain rfl : i = N.length := by omega
          have j3 : decide (N.length < N.length) = false := by simp
          have HNX := hid' (show ToldRow w6.heap.size (Dn.endF N) u18 wr ∧ Below w6.heap.size w6 wr from by
            have h := HJ.out
            rw [← Dn.end_len N, List.take_length] at h
            exact h)
          clear hin
          go_wp2_with fail
          go_meet
          exact HNX
    case rest =>
      have HR := hcut
      have HFE := hid' (HR.out.1.feeds (fun f hf => by
        obtain ⟨i, hi⟩ := List.getElem?_of_mem hf
        obtain ⟨s, hs, rfl⟩ := Dn.end_at hi
        have hil := (List.getElem?_eq_some_iff.1 hs).1
        have hnl := HNL.out
        have hnm := Dn.names_named (t := t) (by rw [hgood.2.1]; decide) s (by rw [hN.out]; exact List.mem_of_getElem? hs)
        refine ⟨name_small hnm, fun x hx => ?_⟩
        obtain rfl : x = (0, (i : Int) * 500000) := by simpa using hx
        unfold I64
        simp only
        omega))
      have HW7 := hid' (HW6.out.trans (HR.out.2.mono HW6.out.size))
      have HST := hid' ((dnstep_any t l last (Dn.endF N) ⟨#[]⟩ 0 (fun _ => True) _ _ _ _ (HV.out.under HW7.out) HSZ.out (HL6.out.below HR.out.2) HFE.out (by decide)).mono fun e w' h => DnPost.lists h (Dn.step_short t l last (Dn.endF N) ⟨#[]⟩ 0))
      obtain ⟨c0, c1, c2, c3⟩ := heap_cells4 (box_below HR.out.2 HC6.out)
      obtain ⟨P, hch⟩ := HWL.out
      have hNl := hN.out
      have HNB := hid' HNL.out
      obtain ⟨fp, fc, hfv, -⟩ := id HFE.out
      by_cases h64 : N.length ≤ 64
      · obtain ⟨⟨ql, qt⟩, hq, hq1⟩ := Dn.step_last hgood hbk.out HDO.out HHL.out hch (by rw [hNl]; exact h64)
        replace hq1 : ql = [] := hq1
        subst hq1
        rw [hNl] at hq
        rw [hq] at HST
        have g64 : decide ((64 : Int) < (N.length : Int)) = false := decide_eq_false (by omega)
        clear h64 hq hch hNl hfv hcut
        go_upto_region 21 with (first | (go_at_call 8; refine HST.out.mono ?_; rintro e w8 ⟨b8, vl8, vo8, hve, hl8, -⟩; obtain rfl := hve; obtain ⟨mp, mc, rfl, -, -⟩ := hl8; have HB8 := hid' (HW7.out.trans (b8.mono HW7.out.size)); clear b8; rw [errOf_some']))
        clear c0 c1 c2 c3
        go_wp2_with fail
        go_ret
        exact ⟨rfl, HB8.out⟩
      · have hq : Dn.stepR t l last (Dn.endF N) ⟨#[]⟩ 0 = none := by
          have := Dn.step_many (t := t) (last := last) (l := l) (by rw [hNl]; omega)
          rw [hNl] at this
          exact this
        rw [hq] at HST
        have g64 : decide ((64 : Int) < (N.length : Int)) = true := decide_eq_true (by omega)
        clear h64 hq hch hNl hfv hcut
        go_upto_region 21 with (first | (go_at_call 8; refine HST.out.mono ?_; rintro e w8 ⟨b8, vl8, vo8, hve, -, -⟩; obtain rfl := hve; have HB8 := hid' (HW7.out.trans (b8.mono HW7.out.size)); clear b8; rw [Dn.errOf_none']))
        clear c0 c1 c2 c3
        go_wp2_with fail
        go_ret
        exact ⟨rfl, HB8.out⟩
end Go.Proofs.YtcpobnknmegkmaaGreatDoor

/- Proved: the law LedgerParts (usancelaw20) returns true, any postings. -/
import Derived.Test.YtmmbhmlhenpgbaaDoorLedTwo
import Derived.Deep.CutBlock
import Derived.Deep.DeepCutAuto
namespace Go.Proofs.YtmmbhmlhenpgbaaDoor
open Go.RowKit
open Led
set_option linter.unusedVariables false
set_option linter.unusedSimpArgs false
set_option maxRecDepth 100000

/-- Two ledgers: the one has had its call, the other has some postings. -/
structure Both (base la lb : Nat) (pa pb : Value) (A B : List Post) (W : World) : Prop where
  a : LedX base la pa A (mapOf A) W
  b : LedX base lb pb B (mapOf B) W
  ne : la ≠ lb
  sep : ∀ g, pa.ownBlock = some g → pb.ownBlock ≠ some g
theorem Both.below {base la lb : Nat} {pa pb : Value} {A B : List Post} {W W' : World} (h : Both base la lb pa pb A B W) (hb : Below W.heap.size W W') : Both base la lb pa pb A B W' :=
  ⟨h.a.below hb, h.b.below hb, h.ne, h.sep⟩
theorem Both.swap {base la lb : Nat} {pa pb : Value} {A B : List Post} {W : World} (h : Both base la lb pa pb A B W) : Both base lb la pb pa B A W :=
  ⟨h.b, h.a, fun e => h.ne e.symm, fun g h1 h2 => h.sep g h2 h1⟩
/-- A call on the second one. -/
theorem Both.post {base la lb : Nat} {pa pb pb' : Value} {A B B' : List Post} {w w' : World} (h : Both base la lb pa pb A B w) (hb : LedX base lb pb' B' (mapOf B') w') (ho : Only lb pb w w') (hg : ∀ g, pb'.ownBlock = some g → pb.ownBlock = some g ∨ w.heap.size ≤ g) : Both base la lb pa pb' A B' w' := by
  obtain ⟨m, hl⟩ := h.b.lbAt
  refine ⟨h.a.only ho h.ne h.sep (fun hk hn => h.b.row hk hn) hl, hb, h.ne, fun g h1 h2 => ?_⟩
  rcases hg g h2 with h3 | h3
  · exact h.sep g h1 h3
  · have := (h.a.blk.2.2 g h1).2
    omega
/-- How far the second ledger has come: f is the last call's number. -/
def PartsAt (ps S : List Post) (i : Nat) (c : Int) : Prop := (c = 0 ∧ stepP [] ps = stepP S (ps.drop i) ∧ i ≤ ps.length) ∨ (c ≠ 0 ∧ (stepP [] ps).2 = c)
theorem PartsAt.next {ps S : List Post} {i : Nat} {x : Post} (h : PartsAt ps S i 0) (hx : ps[i]? = some x) : PartsAt ps (nextP S [x]) (i + 1) (postCode S.length (mapOf S) [x]) := by
  rcases h with ⟨_, h, _⟩ | ⟨h, _⟩
  · obtain ⟨hlt, e⟩ := List.getElem?_eq_some_iff.1 hx
    have ed : ps.drop i = x :: ps.drop (i + 1) := by rw [List.drop_eq_getElem_cons hlt, e]
    rw [ed, stepP] at h
    by_cases hc : postCode S.length (mapOf S) [x] = 0
    · rw [if_pos hc] at h
      rw [hc]
      unfold nextP
      rw [if_pos hc]
      exact .inl ⟨rfl, h, by omega⟩
    · rw [if_neg hc] at h
      exact .inr ⟨hc, by rw [h]⟩
  · exact absurd rfl h

set_option maxHeartbeats 4000000 in
theorem law_parts (ps : List Post) (v : Value) (w : World) (hp : PostsAt w v ps) (hps : ps.length ≤ 1000000000) :
    Calls Tryd.prog 6 #[v] w (True1 w) := by
  have HP := hid' (fun W (B : Below w.heap.size w W) => hp.below B)
  obtain ⟨vp, vc, rfl, hvl, _⟩ := PostsAt.row hp
  have HN := hid' hps
  clear hp hps
  go_enter Tryd.func6, Tryd.ntmps6
  go_wp2_with fail
  refine (shown_any _).mono ?_
  rintro e w1 ⟨rfl, b1⟩
  have HB1 := hid' b1
  clear b1
  go_wp2_with fail
  refine (new_any _).mono ?_
  rintro e w2 ⟨la, ma, rfl, hl2, hb2⟩
  have HL2 := hid' hl2
  have HB2 := hid' hb2
  clear hl2 hb2
  go_wp2_with fail
  refine (new_any _).mono ?_
  rintro e w3 ⟨lb, mb, rfl, hl3, hb3⟩
  have HBO := hid' (show Both w1.heap.size la lb (.slice none 0 0) (.slice none 0 0) [] [] w3 from
    ⟨LedX.made (HL2.out.below hb3), LedX.made (hl3.mono HB2.out.size), by have := lt_of_block HL2.out.hb; have := hl3.lo; omega, fun g h => by cases h⟩)
  have HW3 := hid' (Below.more (Below.more HB1.out HB2.out) hb3)
  have HS1 := hid' (show w.heap.size ≤ w1.heap.size from HB1.out.size)
  clear hl3 hb3 HL2 HB2
  by_cases h200 : (200 : Int) < (ps.length : Int)
  · have g0 : decide ((200 : Int) < (ps.length : Int)) = true := by simpa using h200
    clear h200
    go_wp2_with fail
    go_ret
    exact ⟨rfl, HW3.out⟩
  · have g0 : decide ((200 : Int) < (ps.length : Int)) = false := by simpa using h200
    have H200 := hid' (show ps.length ≤ 200 by omega)
    clear h200
    have HST := hid' (together ps [] Stands.nil (by simp; have := H200.out; omega))
    go_wp2_with fail
    refine (post_x w1.heap.size la _ [] w3 HBO.out.a _ ps (fun W' ho => HP.out W' (HW3.out.trans (ho.to_below (base := w.heap.size) (Nat.le_trans HS1.out HBO.out.a.blk.2.1) (fun k hk => by cases hk) HW3.out.size))) HN.out).mono ?_
    rintro e w4 ⟨he, pa, hx4, ho4, hg4⟩
    obtain ⟨ce, hce⟩ : ∃ ce : Int, Hid (ce = postCode ([] : List Post).length (mapOf []) ps) := ⟨postCode ([] : List Post).length (mapOf []) ps, hid' rfl⟩
    rw [← hce.out] at he
    subst he
    have HA4 := hid' (HBO.out.swap.post hx4 ho4 hg4).swap
    have HW4 := hid' (HW3.out.trans (ho4.to_below (base := w.heap.size) (Nat.le_trans HS1.out HBO.out.a.blk.2.1) (fun k hk => by cases hk) HW3.out.size))
    clear hx4 ho4 hg4 HBO
    go_upto_block 0 with (fail)
    go_cut [7, 8] (fun vf vi wx => (∃ i : Nat, vi = .int .i64 (i : Int)) ∧ ∃ wn, wn = wx ∧ ∃ (c : Int) (pb : Value) (S : List Post), vf = .int .i64 c ∧ (c = 0 ∨ c = 200 ∨ c = 201) ∧ Both w1.heap.size la lb pa pb (nextP [] ps) S wn ∧ PartsAt ps S ps.length c ∧ Below w.heap.size w wn)
    case first =>
      go_wp2_with fail
      go_loopw [7, 8] (fun fv iv wr => ∃ (i : Nat) (c : Int) (pb : Value) (S : List Post), iv = .int .i64 (i : Int) ∧ fv = .int .i64 c ∧ i ≤ ps.length ∧ (c = 0 ∨ c = 200 ∨ c = 201) ∧ Hid (Both w1.heap.size la lb pa pb (nextP [] ps) S wr) ∧ Hid (PartsAt ps S i c) ∧ Hid (Below w.heap.size w wr)) (fun _ iv _ => ps.length - (intOf iv).toNat)
      case atStart => exact ⟨0, 0, _, [], rfl, rfl, Nat.zero_le _, .inl rfl, HA4, hid' (.inl ⟨rfl, rfl, Nat.zero_le _⟩), HW4⟩
      case round =>
        obtain ⟨i, c, pb, S, rfl, rfl, hi, hcc, HR, HQ, HW⟩ := hrel
        by_cases hin : i < ps.length
        · have g1 : decide ((i : Int) < (ps.length : Int)) = true := by simp; omega
          rcases hcc with rfl | rfl | rfl
          · obtain ⟨x, hx⟩ : ∃ x, ps[i]? = some x := ⟨_, List.getElem?_eq_getElem hin⟩
            obtain ⟨b, off, lv, rfl, hb, x1, x2, x3, x4, d1, d2, d3, d4⟩ := PostsAt.at (HP.out wr HW.out) hx (Below.refl _ _)
            have x5 := PostsAt.legs (HP.out w (Below.refl _ _)) hx HW.out x3
            have j1 : (0 : Int) ≤ (i : Int) := by omega
            have j2 : (i : Int) < (ps.length : Int) := by omega
            have HX := hid' hx
            obtain ⟨lp, lc, hlv, _⟩ := LegsAt.row x4
            subst hlv
            have hBA : Below wr.heap.size wr (wr.alloc (.cells #[.int .i64 x.day, .int .i64 x.id, .slice lp x.legs.length lc] 24)) := (Below.refl _ _).alloc (Nat.le_refl _) _
            have HR2 := hid' (HR.out.below hBA)
            have HW2 := hid' (Below.more HW.out hBA)
            have HTB := hid' (fun W' (ho : Only lb pb (wr.alloc (.cells #[.int .i64 x.day, .int .i64 x.id, .slice lp x.legs.length lc] 24)) W') => HW2.out.trans (ho.to_below (base := w.heap.size) (Nat.le_trans HS1.out HR.out.b.blk.2.1) (fun k hk => Nat.le_trans HS1.out (HR.out.b.blk.2.2 k hk).1) HW2.out.size))
            have HPX := hid' (post_x w1.heap.size lb pb S _ HR2.out.b _ [x] (one_post (fun W' ho => x5.below (HTB.out W' ho)) (heap_alloc_new wr _) (by have := HR.out.b.blk.1; omega) (fun e => by have := (HR.out.b.blk.2.2 _ e.symm).2; omega) ⟨d1, d2⟩ ⟨d3, d4⟩) (by simp))
            have HQ2 := hid' (HQ.out.next hx)
            have HPC := hid' (postCode_cases S.length (mapOf S) [x])
            clear x4 x5 d1 d2 d3 d4 hx hin hBA
            go_wp2_with fail
            refine HPX.out.mono ?_
            rintro e w5 ⟨rfl, pb', hx5, ho5, hg5⟩
            have HR5 := hid' (HR2.out.post hx5 ho5 hg5)
            have HW5 := hid' (HTB.out _ ho5)
            clear hx5 ho5 hg5
            go_wp2_with fail
            go_roundw
            case rel => exact ⟨i + 1, _, pb', _, by go_num, rfl, by omega, HPC.out, HR5, HQ2, HW5⟩
            case measure => simp [intOf]; omega
          · go_wp2_with fail
            go_meet
            exact ⟨⟨_, rfl⟩, _, rfl, 200, pb, S, rfl, .inr (.inl rfl), HR.out, .inr (HQ.out.resolve_left (fun h => by cases h.1)), HW.out⟩
          · go_wp2_with fail
            go_meet
            exact ⟨⟨_, rfl⟩, _, rfl, 201, pb, S, rfl, .inr (.inr rfl), HR.out, .inr (HQ.out.resolve_left (fun h => by cases h.1)), HW.out⟩
        · obtain rfl : i = ps.length := by omega
          have g9 : decide (ps.length < ps.length) = false := by simp
          clear hin
          go_wp2_with fail
          go_meet
          exact ⟨⟨_, rfl⟩, _, rfl, c, pb, S, rfl, hcc, HR.out, HQ.out, HW.out⟩
    case rest =>
      obtain ⟨⟨i8, rfl⟩, w5, rfl, c, pb, S, rfl, hcc, hR, hQ, hW⟩ := hcut
      have HXP := hid' (posts_led _ _ _ _ _ _ hR.a.is)
      have HR := hid' hR
      have HW := hid' hW
      have HQ := hid' hQ
      clear hR hW hQ
      go_wp2_with fail
      refine HXP.out.mono ?_
      rintro e w6 ⟨xv, xq, rfl, hxq, hxr, hxl, hb6⟩
      have HR6 := hid' (HR.out.below hb6)
      have HW6 := hid' (Below.more HW.out hb6)
      have hxa := posts_at hxr hxl
      rw [hxq] at hxa
      obtain ⟨xp, xc, hxv, _⟩ := hxr.form
      have hxn : xq.length = (nextP [] ps).length := by rw [← hxq, List.length_map]
      rw [hxn] at hxv
      subst hxv
      have HXA := hid' hxa
      have HYP := hid' (posts_led _ _ _ _ _ _ HR6.out.b.is)
      clear hxr hxl hb6 hxa hxq hxn
      go_wp2_with fail
      refine HYP.out.mono ?_
      rintro e w7 ⟨yv, yq, rfl, hyq, hyr, hyl, hb7⟩
      have HR7 := hid' (HR6.out.below hb7)
      have HW7 := hid' (Below.more HW6.out hb7)
      have hya := posts_at hyr hyl
      rw [hyq] at hya
      obtain ⟨yp, yc, hyv, _⟩ := hyr.form
      have hyn : yq.length = S.length := by rw [← hyq, List.length_map]
      rw [hyn] at hyv
      subst hyv
      have HXA7 := hid' (HXA.out.below hb7)
      have HYA := hid' hya
      clear hyr hyl hb7 hya hyq hyn HXA
      by_cases h0 : postCode ([] : List Post).length (mapOf []) ps = 0
      · -- all of them stand
        have hst := HST.out.1 h0
        have e1 : nextP [] ps = ps := by unfold nextP; rw [if_pos h0]; rfl
        obtain ⟨rfl, rfl⟩ : c = 0 ∧ S = ps := by
          rcases HQ.out with ⟨h1, h2, _⟩ | ⟨h1, h2⟩
          · rw [hst, List.drop_length, stepP] at h2
            simp at h2
            exact ⟨h1, h2.symm⟩
          · rw [hst] at h2; exact absurd h2.symm h1
        rw [e1] at HXA7 HR7 ⊢
        have e2 : ce = 0 := hce.out.trans h0
        subst e2
        clear h0 hst hcc HQ
        have HSP := hid' (samePosts_yes _ _ _ w7 HXA7.out HYA.out)
        go_wp2_with fail
        refine HSP.out.mono ?_
        rintro e w8 ⟨rfl, m8, rfl⟩
        have hb8 : Below w7.heap.size w7 (w7.drewN m8) := Below.drewn (Below.refl _ _) m8
        have HR8 := hid' (HR7.out.below hb8)
        have HW8 := hid' (Below.more HW7.out hb8)
        have HH8 := hid' (held_led _ _ _ _ _ _ HR8.out.a.is)
        clear hb8 HSP
        go_wp2_with fail
        refine HH8.out.mono ?_
        rintro e w9 ⟨v9, k9, rfl, hk9, hr9, hb9⟩
        have HR9 := hid' (HR8.out.below hb9)
        have HW9 := hid' (Below.more HW8.out hb9)
        have HH9 := hid' (held_led _ _ _ _ _ _ HR9.out.b.is)
        have HK9 := hid' hk9
        have HWD := hid' (wide_held HR9.out.a.is k9)
        obtain ⟨p9, c9, hv9⟩ := hr9.form
        rw [List.length_map] at hv9
        subst hv9
        have HL9 := hid' hr9
        clear hb9 hk9 hr9 HH8
        go_wp2_with fail
        refine HH9.out.mono ?_
        rintro e w10 ⟨v10, k10, rfl, hk10, hr10, hb10⟩
        have HR10 := hid' (HR9.out.below hb10)
        have HW10 := hid' (Below.more HW9.out hb10)
        obtain rfl := hk10.unique HK9.out
        obtain ⟨p10, c10, hv10⟩ := hr10.form
        rw [List.length_map] at hv10
        subst hv10
        have HSL := hid' (sameLegs_yes _ _ _ w10 ((HL9.out.under hb10).wide HWD.out) (hr10.wide HWD.out))
        clear hb10 hk10 hr10 HH9
        go_wp2_with fail
        refine HSL.out.mono ?_
        rintro e w11 ⟨rfl, m11, rfl⟩
        go_wp2_with fail
        go_ret
        exact ⟨rfl, Below.drewn HW10.out m11⟩
      · have hst := HST.out.2 h0
        have e1 : nextP [] ps = [] := by unfold nextP; rw [if_neg h0]
        have hc0 : c ≠ 0 := by
          rcases HQ.out with ⟨h1, h2, _⟩ | ⟨h1, h2⟩
          · rw [h2, List.drop_length, stepP] at hst
            exact absurd rfl hst
          · exact h1
        have hcase := hce.out ▸ postCode_cases [].length (mapOf []) ps
        have hce0 : ce ≠ 0 := fun e => h0 (hce.out ▸ e)
        rw [e1]
        clear h0 hst HQ HST
        rcases hcc with rfl | rfl | rfl
        · exact absurd rfl hc0
        · rcases hcase with rfl | rfl | rfl
          · exact absurd rfl hce0
          · go_wp2_with fail
            go_ret
            exact ⟨rfl, HW7.out⟩
          · go_wp2_with fail
            go_ret
            exact ⟨rfl, HW7.out⟩
        · rcases hcase with rfl | rfl | rfl
          · exact absurd rfl hce0
          · go_wp2_with fail
            go_ret
            exact ⟨rfl, HW7.out⟩
          · go_wp2_with fail
            go_ret
            exact ⟨rfl, HW7.out⟩
end Go.Proofs.YtmmbhmlhenpgbaaDoor

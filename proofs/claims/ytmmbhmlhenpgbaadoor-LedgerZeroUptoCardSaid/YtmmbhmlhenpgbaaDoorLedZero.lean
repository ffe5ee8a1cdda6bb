/- Proved: the law LedgerZero (usancelaw20) returns true, any calls, any currency. -/
import Derived.Test.YtmmbhmlhenpgbaaDoorLedTwo
import Derived.Deep.CutBlock
import Derived.Deep.DeepCutAuto
import Derived.Deep.QuietTactic
import Derived.BigQuiet
namespace Go.Proofs.YtmmbhmlhenpgbaaDoor
open Go.RowKit
open Led
set_option linter.unusedVariables false
set_option linter.unusedSimpArgs false
set_option maxRecDepth 100000

/-- A state that calls have led to. -/
def Reached (base lb : Nat) (w W : World) : Prop := ∃ S, Stands S ∧ LedIs base W.heap.size lb S (mapOf S) W ∧ Below base w W
theorem Reached.next {base hi lb : Nat} {S ps : List Post} {w W w' : World} (hS : Stands S) (hL : LedIs base W.heap.size lb S (mapOf S) W) (hB : Below base w W) (h1 : LedIs base w'.heap.size lb (nextS S (mapOf S) ps).1 (nextS S (mapOf S) ps).2 w') (h2 : Out base W.heap.size W w') : Reached base lb w w' := by
  rw [nextP_is] at h1
  exact ⟨nextP S ps, hS.nextP ps, h1, hB.trans (h2.below hL.base)⟩
/-- What one account has, so far: k postings, and j legs of the next. -/
theorem own_leg (p c : ByteArray) (s : Int) (x : Leg) : wrap64 (wrap64 s + x.amount) = wrap64 (s + x.amount) := wrap64_wrap s x.amount

set_option maxHeartbeats 4000000 in
theorem law_zero (calls : List (List Post)) (vc : Value) (cur : ByteArray) (w : World) (hc : CallsAt w vc calls) (hcur : cur.size ≤ maxLen) :
    Calls Tryd.prog 8 #[vc, .string cur] w (True1 w) := by
  obtain ⟨cp, cc, rfl, hcl, HC0⟩ := CallsAt.row hc
  have HC := hid' HC0
  clear hc HC0
  go_enter Tryd.func8, Tryd.ntmps8
  go_wp2_with fail
  refine (shown_any _).mono ?_
  rintro e w1 ⟨rfl, b1⟩
  have HB1 := hid' b1
  clear b1
  go_wp2_with fail
  refine (new_any _).mono ?_
  rintro e w2 ⟨lb, mb, rfl, hl2, hb2⟩
  have HS := hid' (show Reached w1.heap.size lb w1 w2 from ⟨[], Stands.nil, LedIs.made hl2 hb2.size, hb2⟩)
  clear hl2 hb2
  go_upto_block 0 with (fail)
  go_cut [7] (fun v wx => (∃ i : Nat, v = .int .i64 (i : Int)) ∧ ∃ wn, wn = wx ∧ Reached w1.heap.size lb w1 wn)
  case first =>
    go_wp2_with fail
    go_loopw [7] (fun iv wr => ∃ i : Nat, iv = .int .i64 (i : Int) ∧ i ≤ calls.length ∧ Hid (Reached w1.heap.size lb w1 wr)) (fun iv _ => calls.length - (intOf iv).toNat)
    case atStart => exact ⟨0, rfl, Nat.zero_le _, HS⟩
    case round =>
      obtain ⟨i, rfl, hi, HP⟩ := hrel
      by_cases hin : i < calls.length ∧ i < 100
      · obtain ⟨hin, h50⟩ := hin
        obtain ⟨ps, hps⟩ : ∃ ps, calls[i]? = some ps := ⟨_, List.getElem?_eq_getElem hin⟩
        obtain ⟨cb, co, pv, rfl, hcb, x0, hpa, hpl⟩ := HC.out i ps hps
        obtain ⟨S, hst, hS, hbS⟩ := HP.out
        have hBw : Below w.heap.size w wr := HB1.out.trans (hbS.mono HB1.out.size)
        have x0 := (hBw.cell (p := ⟨cb, co + i, none⟩) hcb).trans x0
        have HPA := hid' (post_led w1.heap.size _ lb S (mapOf S) wr hS (Nat.le_refl _) pv ps (fun W' ho => hpa.below (hBw.trans ((ho.below hS.base).mono HB1.out.size))) hpl)
        have HBS := hid' (And.intro hst (And.intro hS hbS))
        have g0 : decide ((i : Int) < (calls.length : Int)) = true := by simp; omega
        have g1 : decide ((i : Int) < 100) = true := by simp; omega
        have j1 : (0 : Int) ≤ (i : Int) := by omega
        have j2 : (i : Int) < (calls.length : Int) := by omega
        clear hS hbS hBw hpa hps hpl h50 hcb hst
        go_wp2_with fail
        refine HPA.out.mono ?_
        rintro e w3 ⟨rfl, hl3, hb3⟩
        have HP3 := hid' (show Reached w1.heap.size lb w1 w3 from Reached.next (hi := 0) HBS.out.1 HBS.out.2.1 HBS.out.2.2 hl3 hb3)
        clear hl3 hb3
        go_wp2_with fail
        go_roundw
        case rel => exact ⟨i + 1, by go_num, by omega, HP3⟩
        case measure => simp [intOf]; omega
      · by_cases h : i < calls.length
        · have g0 : decide ((i : Int) < (calls.length : Int)) = true := by simp; omega
          have g1 : decide ((i : Int) < 100) = false := by simp; omega
          clear hin
          go_wp2_with fail
          go_meet
          exact ⟨⟨i, rfl⟩, _, rfl, HP.out⟩
        · have g0 : decide ((i : Int) < (calls.length : Int)) = false := by simp; omega
          clear hin
          go_wp2_with fail
          go_meet
          exact ⟨⟨i, rfl⟩, _, rfl, HP.out⟩
  case rest =>
    obtain ⟨⟨i7, rfl⟩, wq, rfl, S, hst, hS, hbS⟩ := hcut
    have HST := hid' hst
    have HS3 := hid' hS
    have HW3 := hid' (HB1.out.trans (hbS.mono HB1.out.size))
    have HXP := hid' (posts_led _ _ _ _ _ _ hS)
    clear hst hS hbS HS
    go_wp2_with fail
    refine HXP.out.mono ?_
    rintro e w4 ⟨xv, xq, rfl, hxq, hxr, hxl, hb4⟩
    have HS4 := hid' (HS3.out.below hb4)
    have HW4 := hid' (Below.more HW3.out hb4)
    have hxa := posts_at hxr hxl
    rw [hxq] at hxa
    obtain ⟨xp, xc, hxv, _⟩ := hxr.form
    have hxn : xq.length = S.length := by rw [← hxq, List.length_map]
    rw [hxn] at hxv
    subst hxv
    have HXA := hid' hxa
    have HH4 := hid' (held_led _ _ _ _ _ _ HS4.out)
    clear hxr hxl hb4 hxa hxq hxn HXP HS3
    go_wp2_with fail
    refine HH4.out.mono ?_
    rintro e w5 ⟨vh, ks, rfl, hks, hrow, hb5⟩
    obtain ⟨hp, hcap, hv⟩ := hrow.form
    rw [List.length_map] at hv
    subst hv
    have HKS := hid' hks
    have HR5 := hid' (hrow.wide (wide_held HS4.out ks))
    have HS5 := hid' (HS4.out.below hb5)
    have HW5 := hid' (Below.more HW4.out hb5)
    have HXA5 := hid' (HXA.out.below hb5)
    have hkl : ks.length ≤ 9223372036854775807 := by
      obtain ⟨_, _, _, h, _⟩ := LegsAt.row HR5.out
      simpa using h
    have hsl : S.length ≤ 4096 := HST.out.room
    clear hks hrow hb5 HH4 HXA
    clear HC
    have HZ0 := hid' (show (0 : Int) = sumCur cur ((ks.take 0).map (legOf (mapOf S))) from rfl)
    have HB0 := hid' (Below.refl w5.heap.size w5)
    go_upto_block 2 with (fail)
    go_cut [11, 12] (fun vs vi wx => (∃ i : Nat, vi = .int .i64 (i : Int)) ∧ ∃ wn, wn = wx ∧ vs = .int .i64 0 ∧ Below w5.heap.size w5 wn)
    case first =>
      go_wp2_with fail
      go_loopw [11, 12] (fun sv iv wr => ∃ (i : Nat) (sm : Int), iv = .int .i64 (i : Int) ∧ sv = .int .i64 sm ∧ i ≤ ks.length ∧ Hid (sm = sumCur cur ((ks.take i).map (legOf (mapOf S)))) ∧ Hid (Below w5.heap.size w5 wr)) (fun _ iv _ => ks.length - (intOf iv).toNat)
      case atStart => exact ⟨0, 0, rfl, rfl, Nat.zero_le _, HZ0, HB0⟩
      case round =>
        obtain ⟨i, sm, rfl, rfl, hi, HSM, HBA⟩ := hrel
        obtain ⟨wa, rfl⟩ : ∃ wo, wo = wr := ⟨_, rfl⟩
        by_cases hin : i < ks.length
        · obtain ⟨a, ha⟩ : ∃ a, ks[i]? = some a := ⟨_, List.getElem?_eq_getElem hin⟩
          have hax : (ks.map (legOf (mapOf S)))[i]? = some (legOf (mapOf S) a) := by rw [List.getElem?_map, ha]; rfl
          have g0 : decide ((i : Int) < (ks.length : Int)) = true := by simp; omega
          have j1 : (0 : Int) ≤ (i : Int) := by omega
          have j2 : (i : Int) < (ks.length : Int) := by omega
          have HA := hid' ha
          have HAX := hid' hax
          clear ha hax hin
          have HO0 := hid' (show (0 : Int) = wrap64 (acctSum a.p a.c (legsOf (S.take 0))) by rw [List.take_zero]; show (0 : Int) = wrap64 0; unfold wrap64; omega)
          go_wp2_with fail
          go_loopw [13, 14] (fun ov kv wr => ∃ (k : Nat) (o : Int), kv = .int .i64 (k : Int) ∧ ov = .int .i64 o ∧ k ≤ S.length ∧ Hid (o = wrap64 (acctSum a.p a.c (legsOf (S.take k)))) ∧ Hid (Below w5.heap.size w5 wr)) (fun _ kv _ => S.length - (intOf kv).toNat)
          case atStart => exact ⟨0, 0, rfl, rfl, Nat.zero_le _, HO0, HBA⟩
          case round =>
            obtain ⟨k, o, rfl, rfl, hk, HO, HBB⟩ := hrel
            obtain ⟨wb, rfl⟩ : ∃ wo, wo = wr := ⟨_, rfl⟩
            by_cases hkn : k < S.length
            · obtain ⟨x, hx⟩ : ∃ x, S[k]? = some x := ⟨_, List.getElem?_eq_getElem hkn⟩
              have k0 : decide ((k : Int) < (S.length : Int)) = true := by simp; omega
              have k1 : (0 : Int) ≤ (k : Int) := by omega
              have k2 : (k : Int) < (S.length : Int) := by omega
              have HX := hid' hx
              clear hx hkn
              have HC0 := hid' (show o = wrap64 (acctSum a.p a.c (legsOf (S.take k) ++ x.legs.take 0)) by rw [List.take_zero, List.append_nil]; exact HO.out)
              go_wp2_with fail
              go_loopw [13, 15] (fun ov jv wr => ∃ (j : Nat) (o : Int), jv = .int .i64 (j : Int) ∧ ov = .int .i64 o ∧ j ≤ x.legs.length ∧ Hid (o = wrap64 (acctSum a.p a.c (legsOf (S.take k) ++ x.legs.take j))) ∧ Hid (Below w5.heap.size w5 wr)) (fun _ jv _ => x.legs.length - (intOf jv).toNat)
              case atStart => exact ⟨0, o, rfl, rfl, Nat.zero_le _, HC0, HBB⟩
              case round =>
                obtain ⟨j, o2, rfl, rfl, hj, HO2, HBC⟩ := hrel
                obtain ⟨b, off, lv, hxp0, hb, x1, x2, x3, x4, _⟩ := PostsAt.at HXA5.out HX.out HBC.out
                subst hxp0
                obtain ⟨lp, lc, hlv, hll, _⟩ := LegsAt.row x4
                subst hlv
                by_cases hjn : j < x.legs.length
                · obtain ⟨y, hy⟩ : ∃ y, x.legs[j]? = some y := ⟨_, List.getElem?_eq_getElem hjn⟩
                  obtain ⟨yb, yo, yc, hv, y0, y1, y2⟩ := LegsAt.cells x4 (Below.refl _ _) hy
                  obtain ⟨rfl, rfl⟩ : lp = some ⟨yb, yo, none⟩ ∧ lc = yc := by simp at hv; exact hv
                  have m0 : decide ((j : Int) < (x.legs.length : Int)) = true := by simp; omega
                  have m1 : (0 : Int) ≤ (j : Int) := by omega
                  have m2 : (j : Int) < (x.legs.length : Int) := by omega
                  have HY := hid' hy
                  clear hv hy hjn x4
                  have hax := HAX.out
                  obtain ⟨gb, go, gc, hv, z0, z1, z2⟩ := LegsAt.cells HR5.out (HBC.out) hax
                  obtain ⟨rfl, rfl⟩ : hp = some ⟨gb, go, none⟩ ∧ hcap = gc := by simp at hv; exact hv
                  clear hv hax
                  replace z0 : wr.cell? ⟨gb, go + i * 3, none⟩ = some (.string a.p) := z0
                  replace z1 : wr.cell? ⟨gb, go + i * 3 + 1, none⟩ = some (.string a.c) := z1
                  have hstep := hid' (show acctSum a.p a.c (legsOf (S.take k) ++ x.legs.take (j + 1)) = acctSum a.p a.c (legsOf (S.take k) ++ x.legs.take j) + (if y.party = a.p ∧ y.cur = a.c then y.amount else 0) by rw [take_snoc x.legs j y HY.out, acctSum_append, acctSum_append, acctSum_append]; simp only [acctSum]; omega)
                  go_upto_region 21 with (fail)
                  have hBA : Below wr.heap.size wr (wr.alloc (.cells #[.string y.party, .string y.cur, .int .i64 y.amount] 41)) := (Below.refl _ _).alloc (Nat.le_refl _) _
                  obtain ⟨t0, t1, t2⟩ := heap_cells3 (heap_alloc_new wr (.cells #[.string y.party, .string y.cur, .int .i64 y.amount] 41))
                  have z0 := alloc_cell z0 (.cells #[.string y.party, .string y.cur, .int .i64 y.amount] 41)
                  have z1 := alloc_cell z1 (.cells #[.string y.party, .string y.cur, .int .i64 y.amount] 41)
                  have HBD := hid' (Below.more HBC.out hBA)
                  generalize hxb : wr.heap.size = xb at t0 t1 t2
                  generalize wr.alloc (.cells #[.string y.party, .string y.cur, .int .i64 y.amount] 41) = W3 at *
                  have t2n : ∀ n, (W3.drewN n).cell? ⟨xb, 2, none⟩ = some (.int .i64 y.amount) := fun n => t2
                  clear hBA hxb y0 y1 y2 x1 x2 x3
                  by_cases e1 : y.party = a.p
                  · have f1 : (y.party.toList == a.p.toList) = true := by rw [e1]; simp
                    by_cases e2 : y.cur = a.c
                    · have f2 : (y.cur.toList == a.c.toList) = true := by rw [e2]; simp
                      rw [if_pos ⟨e1, e2⟩] at hstep
                      clear e1 e2
                      go_quiet (fail)
                      go_wp2_with fail
                      go_roundw
                      case rel => exact ⟨j + 1, wrap64 (o2 + y.amount), by go_num, rfl, by omega, hid' (by rw [HO2.out, wrap64_wrap, hstep.out]), hid' (Below.drewn HBD.out _)⟩
                      case measure => simp [intOf]; omega
                    · have f2 : (y.cur.toList == a.c.toList) = false := by
                        rw [beq_eq_false_iff_ne]
                        intro e
                        rw [ByteArray.toList_eq, ByteArray.toList_eq] at e
                        exact e2 (ba_ext e)
                      rw [if_neg (fun h => e2 h.2), Int.add_zero] at hstep
                      clear e1 e2
                      go_quiet (fail)
                      go_wp2_with fail
                      go_roundw
                      case rel => exact ⟨j + 1, o2, by go_num, rfl, by omega, hid' (by rw [HO2.out, hstep.out]), hid' (Below.drewn HBD.out _)⟩
                      case measure => simp [intOf]; omega
                  · have f1 : (y.party.toList == a.p.toList) = false := by
                      rw [beq_eq_false_iff_ne]
                      intro e
                      rw [ByteArray.toList_eq, ByteArray.toList_eq] at e
                      exact e1 (ba_ext e)
                    rw [if_neg (fun h => e1 h.1), Int.add_zero] at hstep
                    clear e1
                    go_quiet (fail)
                    go_wp2_with fail
                    go_roundw
                    case rel => exact ⟨j + 1, o2, by go_num, rfl, by omega, hid' (by rw [HO2.out, hstep.out]), hid' (Below.drewn HBD.out _)⟩
                    case measure => simp [intOf]; omega
                · obtain rfl : j = x.legs.length := by omega
                  have m9 : decide (x.legs.length < x.legs.length) = false := by simp
                  clear hjn x4
                  go_wp2_with fail
                  go_roundw
                  case rel => exact ⟨k + 1, o2, by go_num, rfl, by omega, hid' (by rw [HO2.out, List.take_length, take_snoc S k x HX.out]; unfold legsOf; rw [List.flatMap_append]; simp), HBC⟩
                  case measure => simp [intOf]; omega
            · obtain rfl : k = S.length := by omega
              have k9 : decide (S.length < S.length) = false := by simp
              have hob : o = balOf (mapOf S) a.p a.c := by rw [HO.out, List.take_length, bal_mapOf HST.out.ok a.hp a.hc]
              clear hkn
              have hax := HAX.out
              obtain ⟨gb, go, gc, hv, z0, z1, z2⟩ := LegsAt.cells HR5.out (HBB.out) hax
              obtain ⟨rfl, rfl⟩ : hp = some ⟨gb, go, none⟩ ∧ hcap = gc := by simp at hv; exact hv
              replace z0 : wb.cell? ⟨gb, go + i * 3, none⟩ = some (.string a.p) := z0
              replace z1 : wb.cell? ⟨gb, go + i * 3 + 1, none⟩ = some (.string a.c) := z1
              replace z2 : wb.cell? ⟨gb, go + i * 3 + 2, none⟩ = some (.int .i64 (balOf (mapOf S) a.p a.c)) := z2
              have HBL := hid' (fun n => balance_led w1.heap.size _ lb _ _ (wb.drewN n) (HS5.out.below (Below.drewn HBB.out n)) a.p a.c a.hp a.hc)
              rw [← hob] at z2 HBL
              have z1n : ∀ n, (wb.drewN n).cell? ⟨gb, go + i * 3 + 1, none⟩ = some (.string a.c) := fun n => z1
              have hstep := hid' (show sumCur cur ((ks.take (i + 1)).map (legOf (mapOf S))) = if a.c = cur then wrap64 (sm + o) else sm by
                rw [take_snoc ks i a HA.out, List.map_append, List.map_singleton, sumCur_snoc, ← HSM.out]
                show (if a.c = cur then wrap64 (sm + balOf (mapOf S) a.p a.c) else _) = _
                rw [← hob])
              clear hv hax hob HO
              have hn1 : (o != o) = false := by simp
              have hn2 : (o == o) = true := by simp
              go_upto_region 23 with (fail)
              go_quiet ((go_at_call 20; exact Calls.quiet_of_same (HBL.out _)))
              by_cases e2 : a.c = cur
              · have f2 : (a.c.toList == cur.toList) = true := by rw [e2]; simp
                rw [if_pos e2] at hstep
                clear e2
                go_wp2_with fail
                go_roundw
                case rel => exact ⟨i + 1, wrap64 (sm + o), by go_num, rfl, by omega, hid' hstep.out.symm, hid' (Below.drewn HBB.out _)⟩
                case measure => simp [intOf]; omega
              · have f2 : (a.c.toList == cur.toList) = false := by
                  rw [beq_eq_false_iff_ne]
                  intro e
                  rw [ByteArray.toList_eq, ByteArray.toList_eq] at e
                  exact e2 (ba_ext e)
                rw [if_neg e2] at hstep
                clear e2
                go_wp2_with fail
                go_roundw
                case rel => exact ⟨i + 1, sm, by go_num, rfl, by omega, hid' hstep.out.symm, hid' (Below.drewn HBB.out _)⟩
                case measure => simp [intOf]; omega
        · obtain rfl : i = ks.length := by omega
          have g9 : decide (ks.length < ks.length) = false := by simp
          have hz : sm = 0 := by rw [HSM.out, List.take_length, sumCur_zero HST.out.ok HKS.out]
          subst hz
          clear hin
          go_wp2_with fail
          go_meet
          exact ⟨⟨_, rfl⟩, _, rfl, rfl, HBA.out⟩
    case rest =>
      obtain ⟨⟨i12, rfl⟩, w6, rfl, rfl, hb6⟩ := hcut
      have HW6 := hid' (Below.more HW5.out hb6)
      have HT := hid' (total_led _ _ _ _ _ _ cur (HS5.out.below hb6))
      clear hb6
      go_wp2_with fail
      refine HT.out.mono ?_
      rintro e w7 ⟨k7, rfl, hk7, hb7⟩
      rw [sumCur_zero HST.out.ok hk7]
      have HW7 := hid' (Below.more HW6.out hb7)
      clear hb7 hk7
      go_wp2_with fail
      go_ret
      exact ⟨rfl, HW7.out⟩
end Go.Proofs.YtmmbhmlhenpgbaaDoor

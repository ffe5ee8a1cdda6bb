/- Proved: lemmas and contracts of the functions that the law reaches, part 3 of 4: DnRightL. Conditions: as each states. -/
import Derived.Test.YtcpobnknmegkmaaDoorDng1
import Derived.Test.YtcpobnknmegkmaaDoorDng2
namespace Go.Proofs.YtcpobnknmegkmaaDoor
open Go.RowKit
open Rw
set_option linter.unusedVariables false
set_option linter.unusedSimpArgs false
set_option maxRecDepth 100000
theorem cells4_heap {W : World} {b : Nat} {x0 x1 x2 x3 : Value} {ty : TypeId} (h : W.heap[b]? = some (.cells #[x0, x1, x2, x3] ty (0, 0))) : (W.cell? ⟨b, 0, none⟩ = some x0 ∧ W.cell? ⟨b, 1, none⟩ = some x1 ∧ W.cell? ⟨b, 2, none⟩ = some x2 ∧ W.cell? ⟨b, 3, none⟩ = some x3) := heap_cells4 h
set_option maxHeartbeats 8000000 in
theorem refRightLives_yes (t : Co.T) (l : List (Int × Int)) (ok : Nat → Prop) (v vl : Value) (w : World) (hv : CoreIn ok w t v) (hsz : t.size ≤ 2000000) (hl : LivesSeen w vl l) (hok : Dn.LivesOk (Dn.pre t) l) :
    Calls Tryd.prog 11 #[v, vl] w (True1 w) := by
  obtain ⟨p, c, hve, -⟩ := hv.open
  obtain ⟨op, n, s, ln, rfl⟩ : ∃ op n s ln, v = .agg #[.int .i64 op, .int .i64 n, .string s, .slice p ln c] := ⟨_, _, _, _, hve⟩
  clear hve
  have HV := hid' hv
  have HL := hid' hl
  have HOK := hid' hok
  have HSZ := hid' hsz
  obtain ⟨lp, lc, rfl, hlen, hlc⟩ := hl
  have HLC := hid' hlc
  have HB := hid' ((Below.refl w.heap.size w).alloc (Nat.le_refl _) (.cells #[.int .i64 op, .int .i64 n, .string s, .slice p ln c] 24))
  have HC := hid' (heap_alloc_new w (.cells #[.int .i64 op, .int .i64 n, .string s, .slice p ln c] 24))
  have hbig : (l.length : Int) ≤ 100000000 := by omega
  clear hv hsz hok hlc hlen
  go_enter Tryd.func11, Tryd.ntmps11
  go_upto_region 1 with (fail)
  generalize World.alloc _ _ = w1 at *
  go_wp2_with fail
  go_loopw [5] (fun iv wr => ∃ i : Nat, iv = .int .i64 (i : Int) ∧ i ≤ l.length ∧ Hid (Below w1.heap.size w1 wr)) (fun iv _ => l.length - (intOf iv).toNat)
  case atStart => exact ⟨0, rfl, Nat.zero_le _, hid' (Below.refl _ _)⟩
  case round =>
    obtain ⟨i, rfl, hi, HJ⟩ := hrel
    by_cases hin : i < l.length
    · obtain ⟨x, hx⟩ : ∃ x, l[i]? = some x := ⟨_, List.getElem?_eq_getElem hin⟩
      obtain ⟨lb, lo, rfl, -, a0, a1⟩ := HLC.out i x hx
      have j1 : (0 : Int) ≤ (i : Int) := by omega
      have j2 : (i : Int) < (l.length : Int) := by omega
      have hiw : IntKind.i64.wrap ((i : Int) + 1) = (i : Int) + 1 := IntWalk.i64_in _ (by omega)
      have hlo := HOK.out i x hx
      have HBR := hid' (HB.out.trans (HJ.out.mono HB.out.size))
      have HKA := hid' (fun W (h : Below wr.heap.size wr W) => And.intro (heap_cells4 (box_below h (box_below HJ.out HC.out))) (And.intro (keep_all h _ _ (keep_all HBR.out _ _ a0)) (keep_all h _ _ (keep_all HBR.out _ _ a1))))
      obtain ⟨m, hm⟩ : ∃ m : Nat, x.1 = (m : Int) := ⟨x.1.toNat, by have := hlo.at'; omega⟩
      obtain ⟨u, hu⟩ : ∃ u, (Dn.pre t)[m]? = some u := ⟨_, List.getElem?_eq_getElem (by have := hlo.at'; omega)⟩
      have HNUM := hid' (show -1000000000000000 ≤ x.2 ∧ x.2 ≤ 1000000000000000 from by have h1 := hlo.num; have h2 := Num.clamp_ge x.2; have h3 := Num.clamp_le x.2; omega)
      have HUP := hid' hlo.up
      have hwt : Dn.wop u.op = true := by
        have := hlo.waits
        rw [hm, Int.toNat_natCast, List.getD_eq_getElem?_getD, hu] at this
        exact this
      have HTM := hid' (fun W (h : Below wr.heap.size wr W) => refTerm_yes t ok _ W m u (HV.out.under (HBR.out.trans (h.mono HBR.out.size))) HSZ.out hu)
      have HX := hid' hx
      have HI := hid' hin
      obtain ⟨xa, xf⟩ := x
      simp only at hm HKA HNUM HUP
      subst hm
      obtain ⟨uo, huo⟩ : ∃ o, Hid (u.op = o) := ⟨_, hid' rfl⟩
      have HWT := hid' hwt
      rw [huo.out] at HWT
      have HTM2 := hid' (fun W (h : Below wr.heap.size wr W) => (HTM.out W h).mono fun e w' ⟨h1, vu, h2, pu, cu, h3⟩ => show Below W.heap.size W w' ∧ ∃ (un : Int) (us : ByteArray) (ul : Nat) (pu : Option Addr) (cu : Nat), e = Ending.returned (.tuple #[.agg #[.int .i64 uo, .int .i64 un, .string us, .slice pu ul cu], .bool true]) from ⟨h1, u.n, u.s, u.ks.length, pu, cu, by rw [h2, h3, huo.out]⟩)
      clear HTM hwt hlo hx hu a0 a1 hin
      go_upto_region 4 with (fail)
      go_cut [6, 7] (fun pv bv wx => ∃ (g : Nat) (un : Int) (us : ByteArray) (ul : Nat) (pu : Option Addr) (cu : Nat), pv = .pointer (some ⟨g, 0, none⟩) ∧ bv = .bool true ∧ Hid (Below wr.heap.size wr wx ∧ wx.heap[g]? = some (.cells #[.int .i64 uo, .int .i64 un, .string us, .slice pu ul cu] 24 (0, 0))))
      case first =>
        have HD := hid' (show Below wr.heap.size wr wr.drew from (Below.refl _ _).drew)
        refine wp_region_plan (fun W => Below wr.heap.size wr W) (.quiet 0 (.quiet 1 (.quiet 2 (.quiet 3 (.quiet 4 (.quiet 5 (.two 6 (.quiet 7 (.quiet 8 (.quiet 9 (.act 10 (.act 11 (.quiet 12 .nil)))))) 10 (.act 6 (.quiet 7 (.quiet 8 (.quiet 9 (.act 11 (.quiet 12 .nil))))))))))))) (by kernel_rfl) (by kernel_rfl) (by kernel_rfl) HD.out ?_
        apply wpPlan_quiet (ho := rfl)
        · rfl
        · intro W hW
          obtain ⟨⟨d0, d1, d2, d3⟩, a0, a1⟩ := HKA.out W hW
          first | (go_simp; done) | (go_simp; with_reducible rfl)
        simp only [Act.put, List.setIfInBounds_toArray, List.set_cons_zero, List.set_cons_succ]
        apply wpPlan_quiet (ho := rfl)
        · rfl
        · intro W hW
          obtain ⟨⟨d0, d1, d2, d3⟩, a0, a1⟩ := HKA.out W hW
          first | (go_simp; done) | (go_simp; with_reducible rfl)
        simp only [Act.put, List.setIfInBounds_toArray, List.set_cons_zero, List.set_cons_succ]
        apply wpPlan_quiet (ho := rfl)
        · rfl
        · intro W hW
          obtain ⟨⟨d0, d1, d2, d3⟩, a0, a1⟩ := HKA.out W hW
          first | (go_simp; done) | (go_simp; with_reducible rfl)
        simp only [Act.put, List.setIfInBounds_toArray, List.set_cons_zero, List.set_cons_succ]
        apply wpPlan_quiet (ho := rfl)
        · rfl
        · intro W hW
          obtain ⟨⟨d0, d1, d2, d3⟩, a0, a1⟩ := HKA.out W hW
          first | (go_simp; done) | (go_simp; with_reducible rfl)
        simp only [Act.put, List.setIfInBounds_toArray, List.set_cons_zero, List.set_cons_succ]
        apply wpPlan_quiet (ho := rfl)
        · rfl
        · intro W hW
          obtain ⟨⟨d0, d1, d2, d3⟩, a0, a1⟩ := HKA.out W hW
          first | (go_simp; done) | (go_simp; with_reducible rfl)
        simp only [Act.put, List.setIfInBounds_toArray, List.set_cons_zero, List.set_cons_succ]
        apply wpPlan_quiet (ho := rfl)
        · rfl
        · intro W hW
          obtain ⟨⟨d0, d1, d2, d3⟩, a0, a1⟩ := HKA.out W hW
          first | (go_simp; done) | (go_simp; with_reducible rfl)
        simp only [Act.put, List.setIfInBounds_toArray, List.set_cons_zero, List.set_cons_succ]
        refine wpPlan_two ?_ ?_
        · skip
          refine wpAct_call 24 #[.agg #[.int .i64 op, .int .i64 n, .string s, .slice p ln c], .int .i64 (m : Int)] (fun v w' => Below wr.drew.heap.size wr.drew w' ∧ ∃ (un : Int) (us : ByteArray) (ul : Nat) (pu : Option Addr) (cu : Nat), v = .tuple #[.agg #[.int .i64 uo, .int .i64 un, .string us, .slice pu ul cu], .bool true]) rfl ?_ ?_ ?_ ?_
          · rfl
          · go_simp
          · exact (HTM2.out _ HD.out).mono fun e w' ⟨h1, un, us, ul, pu, cu, h2⟩ => ⟨_, h2, h1, un, us, ul, pu, cu, rfl⟩
          rintro _ w2 ⟨bw2, un, us, ul, pu, cu, rfl⟩
          have Hw2 := hid' (Below.more HD.out bw2)
          refine ⟨Hw2.out, ?_⟩
          simp only [Act.put, List.setIfInBounds_toArray, List.set_cons_zero, List.set_cons_succ]
          apply wpPlan_quiet (ho := rfl)
          · rfl
          · intro W hW
            obtain ⟨⟨d0, d1, d2, d3⟩, a0, a1⟩ := HKA.out W hW
            first | (go_simp; done) | (go_simp; with_reducible rfl)
          simp only [Act.put, List.setIfInBounds_toArray, List.set_cons_zero, List.set_cons_succ]
          apply wpPlan_quiet (ho := rfl)
          · rfl
          · intro W hW
            obtain ⟨⟨d0, d1, d2, d3⟩, a0, a1⟩ := HKA.out W hW
            first | (go_simp; done) | (go_simp; with_reducible rfl)
          simp only [Act.put, List.setIfInBounds_toArray, List.set_cons_zero, List.set_cons_succ]
          apply wpPlan_quiet (ho := rfl)
          · rfl
          · intro W hW
            obtain ⟨⟨d0, d1, d2, d3⟩, a0, a1⟩ := HKA.out W hW
            first | (go_simp; done) | (go_simp; with_reducible rfl)
          simp only [Act.put, List.setIfInBounds_toArray, List.set_cons_zero, List.set_cons_succ]
          refine wpPlan_act ?_
          have ba := (Below.refl w2.heap.size w2).alloc (Nat.le_refl _) (.cells #[.int .i64 0, .int .i64 0, .string ⟨#[]⟩, .slice none 0 0] 24)
          have hno := heap_alloc_new w2 (.cells #[.int .i64 0, .int .i64 0, .string ⟨#[]⟩, .slice none 0 0] 24)
          have HGE := hid' (show wr.heap.size ≤ w2.heap.size from Hw2.out.size)
          have HW3 := hid' (Below.more Hw2.out ba)
          refine wpAct_val (v := .pointer (some ⟨w2.heap.size, 0, none⟩)) (w' := w2.alloc (.cells #[.int .i64 0, .int .i64 0, .string ⟨#[]⟩, .slice none 0 0] 24)) rfl ?_ ?_ ?_ ?_
          · rfl
          · go_simp
          · exact HW3.out
          simp only [Act.put, List.setIfInBounds_toArray, List.set_cons_zero, List.set_cons_succ]
          have HO3 := hid' hno
          clear ba hno bw2
          obtain ⟨g, hg⟩ : ∃ g, g = w2.heap.size := ⟨_, rfl⟩
          rw [← hg] at HO3 HGE ⊢
          clear hg
          generalize World.alloc w2 _ = w3 at *
          obtain ⟨o0, o1, o2, o3⟩ := heap_cells4 HO3.out
          have f0 := frozen_of (o := 0) HO3.out
          have f1 := frozen_of (o := 1) HO3.out
          have f2 := frozen_of (o := 2) HO3.out
          have f3 := frozen_of (o := 3) HO3.out
          have hp := core_put (y0 := .int .i64 uo) (y1 := .int .i64 un) (y2 := .string us) (y3 := .slice pu ul cu) HW3.out HGE.out HO3.out
          refine wpPlan_act ?_
          refine wpAct_put (w' := ((((w3.setCell ⟨g, 0, none⟩ (.int .i64 uo)).setCell ⟨g, 1, none⟩ (.int .i64 un)).setCell ⟨g, 2, none⟩ (.string us)).setCell ⟨g, 3, none⟩ (.slice pu ul cu))) rfl ?_ ?_ ?_ ?_
          · rfl
          · go_simp
          · exact hp.1
          simp only [Act.put, List.setIfInBounds_toArray, List.set_cons_zero, List.set_cons_succ]
          clear o0 o1 o2 o3 f0 f1 f2 f3
          have HP := hid' hp
          clear hp
          generalize World.setCell _ _ _ = w9 at *
          apply wpPlan_quiet (ho := rfl)
          · rfl
          · intro W hW
            obtain ⟨⟨d0, d1, d2, d3⟩, a0, a1⟩ := HKA.out W hW
            first | (go_simp; done) | (go_simp; with_reducible rfl)
          simp only [Act.put, List.setIfInBounds_toArray, List.set_cons_zero, List.set_cons_succ]
          refine wpPlan_nil ?_
          go_wp2_with fail
          go_meet
          exact ⟨g, un, us, ul, pu, cu, rfl, rfl, HP⟩
        · have ba := (Below.refl wr.drew.heap.size wr.drew).alloc (Nat.le_refl _) (.cells #[.int .i64 0, .int .i64 0, .string ⟨#[]⟩, .slice none 0 0] 24)
          have hno := heap_alloc_new wr.drew (.cells #[.int .i64 0, .int .i64 0, .string ⟨#[]⟩, .slice none 0 0] 24)
          have HGE := hid' (show wr.heap.size ≤ wr.drew.heap.size from HD.out.size)
          have HW3 := hid' (Below.more HD.out ba)
          refine wpAct_val (v := .pointer (some ⟨wr.drew.heap.size, 0, none⟩)) (w' := wr.drew.alloc (.cells #[.int .i64 0, .int .i64 0, .string ⟨#[]⟩, .slice none 0 0] 24)) rfl ?_ ?_ ?_ ?_
          · rfl
          · go_simp
          · exact HW3.out
          simp only [Act.put, List.setIfInBounds_toArray, List.set_cons_zero, List.set_cons_succ]
          have HO3 := hid' hno
          clear ba hno
          obtain ⟨g, hg⟩ : ∃ g, g = wr.drew.heap.size := ⟨_, rfl⟩
          rw [← hg] at HO3 HGE ⊢
          clear hg
          generalize World.alloc wr.drew _ = w3 at *
          refine wpPlan_act ?_
          refine wpAct_call 24 #[.agg #[.int .i64 op, .int .i64 n, .string s, .slice p ln c], .int .i64 (m : Int)] (fun v w' => Below w3.heap.size w3 w' ∧ ∃ (un : Int) (us : ByteArray) (ul : Nat) (pu : Option Addr) (cu : Nat), v = .tuple #[.agg #[.int .i64 uo, .int .i64 un, .string us, .slice pu ul cu], .bool true]) rfl ?_ ?_ ?_ ?_
          · rfl
          · go_simp
          · exact (HTM2.out _ HW3.out).mono fun e w' ⟨h1, un, us, ul, pu, cu, h2⟩ => ⟨_, h2, h1, un, us, ul, pu, cu, rfl⟩
          rintro _ w4 ⟨bw4, un, us, ul, pu, cu, rfl⟩
          have Hw4 := hid' (Below.more HW3.out bw4)
          refine ⟨Hw4.out, ?_⟩
          simp only [Act.put, List.setIfInBounds_toArray, List.set_cons_zero, List.set_cons_succ]
          have HO4 := hid' (box_below bw4 HO3.out)
          clear bw4
          apply wpPlan_quiet (ho := rfl)
          · rfl
          · intro W hW
            obtain ⟨⟨d0, d1, d2, d3⟩, a0, a1⟩ := HKA.out W hW
            first | (go_simp; done) | (go_simp; with_reducible rfl)
          simp only [Act.put, List.setIfInBounds_toArray, List.set_cons_zero, List.set_cons_succ]
          apply wpPlan_quiet (ho := rfl)
          · rfl
          · intro W hW
            obtain ⟨⟨d0, d1, d2, d3⟩, a0, a1⟩ := HKA.out W hW
            first | (go_simp; done) | (go_simp; with_reducible rfl)
          simp only [Act.put, List.setIfInBounds_toArray, List.set_cons_zero, List.set_cons_succ]
          apply wpPlan_quiet (ho := rfl)
          · rfl
          · intro W hW
            obtain ⟨⟨d0, d1, d2, d3⟩, a0, a1⟩ := HKA.out W hW
            first | (go_simp; done) | (go_simp; with_reducible rfl)
          simp only [Act.put, List.setIfInBounds_toArray, List.set_cons_zero, List.set_cons_succ]
          obtain ⟨o0, o1, o2, o3⟩ := heap_cells4 HO4.out
          have f0 := frozen_of (o := 0) HO4.out
          have f1 := frozen_of (o := 1) HO4.out
          have f2 := frozen_of (o := 2) HO4.out
          have f3 := frozen_of (o := 3) HO4.out
          have hp := core_put (y0 := .int .i64 uo) (y1 := .int .i64 un) (y2 := .string us) (y3 := .slice pu ul cu) Hw4.out HGE.out HO4.out
          refine wpPlan_act ?_
          refine wpAct_put (w' := ((((w4.setCell ⟨g, 0, none⟩ (.int .i64 uo)).setCell ⟨g, 1, none⟩ (.int .i64 un)).setCell ⟨g, 2, none⟩ (.string us)).setCell ⟨g, 3, none⟩ (.slice pu ul cu))) rfl ?_ ?_ ?_ ?_
          · rfl
          · go_simp
          · exact hp.1
          simp only [Act.put, List.setIfInBounds_toArray, List.set_cons_zero, List.set_cons_succ]
          clear o0 o1 o2 o3 f0 f1 f2 f3
          have HP := hid' hp
          clear hp
          generalize World.setCell _ _ _ = w9 at *
          apply wpPlan_quiet (ho := rfl)
          · rfl
          · intro W hW
            obtain ⟨⟨d0, d1, d2, d3⟩, a0, a1⟩ := HKA.out W hW
            first | (go_simp; done) | (go_simp; with_reducible rfl)
          simp only [Act.put, List.setIfInBounds_toArray, List.set_cons_zero, List.set_cons_succ]
          refine wpPlan_nil ?_
          go_wp2_with fail
          go_meet
          exact ⟨g, un, us, ul, pu, cu, rfl, rfl, HP⟩
      case rest =>
        obtain ⟨g, un, us, ul, pu, cu, rfl, rfl, HP⟩ := hcut
        obtain ⟨q0, q1, q2, q3⟩ := heap_cells4 HP.out.2
        go_upto_region 5 with (fail)
        go_cut [8] (fun wv wx => wv = .bool true ∧ Hid (Below wr.heap.size wr wx))
        case first =>
          have h := HWT.out
          unfold Dn.wop at h
          simp only [Bool.or_eq_true, beq_iff_eq] at h
          rcases h with (((rfl | rfl) | rfl) | rfl) | rfl <;> (go_wp2_with fail; go_meet; exact ⟨rfl, hid' HP.out.1⟩)
        case rest =>
          obtain ⟨rfl, HW⟩ := hcut
          clear q0 q1 q2 q3 HP
          have t1 : decide ((m : Int) < 0) = false := decide_eq_false (by omega)
          have t2 : decide (xf < -1000000000000000) = false := decide_eq_false (by have := HNUM.out; omega)
          have t3 : decide (1000000000000000 < xf) = false := decide_eq_false (by have := HNUM.out; omega)
          by_cases hi0 : i = 0
          · subst hi0
            have g0 : decide ((0 : Int) < ((0 : Nat) : Int)) = false := rfl
            have hpos : 0 < l.length := HI.out
            have HKZ := hid' (fun W (h : Below wr.heap.size wr W) => show W.cell? ⟨lb, lo, none⟩ = some (.int .i64 (m : Int)) ∧ W.cell? ⟨lb, lo + 1, none⟩ = some (.int .i64 xf) from by have := (HKA.out W h).2; rw [Nat.zero_mul, Nat.add_zero] at this; exact this)
            go_upto_region 6 with (fail)
            refine wp_region_keep (Below wr.heap.size wr) (by kernel_rfl) (by kernel_rfl) (Below.more HW.out (Below.refl _ _).drew) ?_
            repeat (first
              | (refine wpKeep_skip ?_ ?_
                 · rfl
                 simp only [Act.put, List.setIfInBounds_toArray, List.set_cons_zero, List.set_cons_succ])
              | (apply wpKeep_val
                 · rfl
                 · (intro w hSw; obtain ⟨a0, a1⟩ := HKZ.out w hSw; first | (go_simp; done) | (go_simp; with_reducible rfl))
                 simp only [Act.put, List.setIfInBounds_toArray, List.set_cons_zero, List.set_cons_succ]))
            refine wpKeep_nil ?_
            intro w10 hS'
            have HWN := hid' hS'
            clear hS'
            go_wp2_with fail
            go_roundw
            case rel => exact ⟨1, by go_num, by have := HI.out; omega, hid' (Below.more HJ.out HWN.out)⟩
            case measure => simp only [intOf]; have := HI.out; omega
          · obtain ⟨j, hj⟩ : ∃ j, i = j + 1 := ⟨i - 1, by omega⟩
            obtain ⟨y, hy⟩ : ∃ y, l[j]? = some y := ⟨_, List.getElem?_eq_getElem (by have := HI.out; omega)⟩
            have hup := HUP.out j y hj hy
            obtain ⟨lb', lo', e, -, y0, -⟩ := HLC.out j y hy
            obtain ⟨rfl, rfl⟩ : lb = lb' ∧ lo = lo' := by simpa using e
            have HKY := hid' (fun W (h : Below wr.heap.size wr W) => keep_all h _ _ (keep_all HBR.out _ _ y0))
            obtain ⟨ya, yf⟩ := y
            simp only at hup HKY
            have hjw : IntKind.i64.wrap ((i : Int) - 1) = (j : Int) := by rw [IntWalk.i64_in _ (by omega)]; omega
            have k1 : (0 : Int) ≤ (j : Int) := by omega
            have k2 : (j : Int) < (l.length : Int) := by have := HI.out; omega
            have g0 : decide ((0 : Int) < (i : Int)) = true := decide_eq_true (by omega)
            have hipos : 0 < i := by omega
            have t4 : decide ((m : Int) ≤ ya) = false := decide_eq_false (by omega)
            clear hi0 hj hy hup e y0
            go_upto_region 6 with (fail)
            refine wp_region_keep (Below wr.heap.size wr) (by kernel_rfl) (by kernel_rfl) (Below.more HW.out (Below.refl _ _).drew) ?_
            repeat (first
              | (refine wpKeep_skip ?_ ?_
                 · rfl
                 simp only [Act.put, List.setIfInBounds_toArray, List.set_cons_zero, List.set_cons_succ])
              | (apply wpKeep_val
                 · rfl
                 · (intro w hSw; obtain ⟨-, a0, a1⟩ := HKA.out w hSw; have y0 := HKY.out w hSw; first | (go_simp; done) | (go_simp; with_reducible rfl))
                 simp only [Act.put, List.setIfInBounds_toArray, List.set_cons_zero, List.set_cons_succ]))
            refine wpKeep_nil ?_
            intro w10 hS'
            have HWN := hid' hS'
            clear hS'
            go_wp2_with fail
            go_roundw
            case rel => exact ⟨i + 1, by go_num, by have := HI.out; omega, hid' (Below.more HJ.out HWN.out)⟩
            case measure => simp only [intOf]; have := HI.out; omega
    · obtain rfl : i = l.length := by omega
      have g0 : decide (l.length < l.length) = false := by simp
      clear hin
      go_wp2_with fail
      go_ret
      exact ⟨rfl, HB.out.trans (HJ.out.mono HB.out.size)⟩
end Go.Proofs.YtcpobnknmegkmaaDoor

/- Proved: the law LedgerUndone (usancelaw20) returns true, any calls, any posting. -/
import Derived.Test.YtmmbhmlhenpgbaaDoorLedCalls
import Derived.Deep.CutBlock
import Derived.Deep.DeepCutAuto
import Derived.Deep.QuietTactic
import Derived.BigQuiet
namespace Go.Proofs.YtmmbhmlhenpgbaaDoor
open Go.RowKit
open Led
set_option linter.unusedVariables false
set_option linter.unusedSimpArgs false
set_option maxRecDepth 100000

/-- The posting that is laid the other way round: so far. -/
structure BackAt (w : World) (g : Nat) (p : Post) (i : Nat) (v : Value) (W : World) : Prop where
  blk : W.heap[g]? = some (.cells #[.int .i64 p.day, .int .i64 p.id, v] 24 (0, 0))
  own : LegRow w.heap.size W v ((p.legs.take i).map negLeg)
  bel : Below w.heap.size w W
  lo : w.heap.size ≤ g
theorem back_step {w : World} {g : Nat} {p : Post} {i : Nat} {v v' : Value} {x : Leg} {W W1 W2 : World} (h : BackAt w g p i v W) (hx : p.legs[i]? = some x) (hb : Below W.heap.size W W1)
    (h1 : W2.ownsRow w.heap.size 41 3 v' ((p.legs.take i).map negLeg).length.succ (legCells ((p.legs.take i).map negLeg) ++ [.string x.party, .string x.cur, .int .i64 (wrap64 (-x.amount))])) (h2 : W1.grownBy W2 v.ownBlock) :
    W2.cell? ⟨g, 2, none⟩ = some v ∧ W2.frozen? ⟨g, 2, none⟩ = false ∧ BackAt w g p (i + 1) v' (W2.setCell ⟨g, 2, none⟩ v') := by
  have hg1 : W1.heap[g]? = _ := (hb.block g (lt_of_block h.blk)).trans h.blk
  have hne : some g ≠ v.ownBlock := by
    rcases h.own.2 with ⟨rfl, _⟩ | ⟨g2, cap2, cur2, rfl, _, hgb, _⟩
    · intro e; cases e
    · intro e; cases e
      rw [h.blk] at hgb; cases hgb
  have hg2 : W2.heap[g]? = _ := (h2.block g (lt_of_block hg1) hne).trans hg1
  have hown : W2.ownsRow w.heap.size 41 3 v' ((p.legs.take (i + 1)).map negLeg).length (legCells ((p.legs.take (i + 1)).map negLeg)) := by
    rw [take_snoc p.legs i x hx, List.map_append, List.length_append, legCells_append]
    exact h1
  have hB2 : Below w.heap.size w W2 := by
    refine (Below.more h.bel hb).grown h2 (Below.more h.bel hb).size (fun k e => ?_)
    rcases h.own.2 with ⟨rfl, _⟩ | ⟨g2, cap2, cur2, rfl, hlo, hgb, _⟩
    · cases e
    · cases e; exact hlo
  refine ⟨by simp [World.cell?, hg2], by simp [World.frozen?, hg2], ⟨heap_setCell_same _ _ 2 _ _ v' hg2, ?_, hB2.setCell (p := ⟨g, 2, none⟩) h.lo _, h.lo⟩⟩
  obtain ⟨a0, a1 | ⟨g', cap', cur, hv, a3, a4, a5⟩⟩ := hown
  · exact ⟨a0, Or.inl a1⟩
  · refine ⟨a0, Or.inr ⟨g', cap', cur, hv, a3, ?_, a5⟩⟩
    rw [Below.heap_setCell _ _ _ _ (by rintro rfl; rw [hg2] at a4; cases a4)]
    exact a4
/-- Two postings that the call has laid in one row, the first one's legs from outside. -/
theorem two_posts {base hi h2 : Nat} {W : World} {p : Post} {lv v : Value} {g2 : Nat} (hl : ∀ W', Below base W W' → LegsAt W' lv p.legs) (hb : LegRow h2 W v (p.legs.map negLeg)) (hh : hi ≤ h2) (hfit : ∀ x ∈ p.legs.map negLeg, Wide x)
    (hg2 : W.heap[g2]? = some (.cells #[.int .i64 p.day, .int .i64 p.id, lv, .int .i64 p.day, .int .i64 p.id, v] 24 (0, 0))) (hg : hi ≤ g2) (hbase : base ≤ W.heap.size)
    (hd : -9223372036854775808 ≤ p.day ∧ p.day ≤ 9223372036854775807) (hi2 : -9223372036854775808 ≤ p.id ∧ p.id ≤ 9223372036854775807) :
    ∀ W', Out base hi W W' → PostsAt W' (.slice (some ⟨g2, 0, none⟩) 2 2) [p, backOf p] := by
  intro W' ho
  have h2' := (ho.block g2 (lt_of_block hg2) (.inr hg)).trans hg2
  have hl' := hl W' (ho.below hbase)
  have hb' : LegsAt W' v (p.legs.map negLeg) := (hb.out ho hh).wide hfit
  refine Or.inr ⟨g2, 0, 2, rfl, Nat.le_refl _, by decide, lt_of_block h2', fun j x hx => ?_⟩
  match j, hx with
  | 0, hx =>
    simp at hx; subst hx
    exact ⟨by simp [World.cell?, h2'], by simp [World.cell?, h2'], ⟨_, by simp [World.cell?, h2'], hl'⟩, hd.1, hd.2, hi2.1, hi2.2⟩
  | 1, hx =>
    simp at hx; subst hx
    exact ⟨by simp [World.cell?, h2', backOf], by simp [World.cell?, h2', backOf], ⟨_, by simp [World.cell?, h2'], hb'⟩, hd.1, hd.2, hi2.1, hi2.2⟩
theorem wide_neg {p : Post} {w : World} {lv : Value} (h : LegsAt w lv p.legs) : ∀ x ∈ p.legs.map negLeg, Wide x := by
  intro x hx
  obtain ⟨y, hy, rfl⟩ := List.mem_map.1 hx
  obtain ⟨i, hi, e⟩ := List.getElem_of_mem hy
  have hi' : p.legs[i]? = some y := by rw [List.getElem?_eq_getElem hi, e]
  have hw : -9223372036854775808 ≤ wrap64 (-y.amount) ∧ wrap64 (-y.amount) ≤ 9223372036854775807 := by
    unfold wrap64; omega
  rcases h with ⟨_, hz⟩ | ⟨b, off, cap, rfl, h1, h2, h3, h4⟩
  · rw [hz] at hi; simp at hi
  · obtain ⟨_, _, _, s1, s2, _⟩ := h4 i y hi'
    exact ⟨s1, s2, hw.1, hw.2⟩
/-- The law's first loop: the calls that were posted, what stands. -/
def Posted (base lb : Nat) (w W : World) : Prop := ∃ S M, LedIs base W.heap.size lb S M W ∧ Below base w W

set_option maxHeartbeats 4000000 in
theorem law_undone (calls : List (List Post)) (vc : Value) (p : Post) (lv : Value) (w : World) (hc : CallsAt w vc calls) (hl : LegsAt w lv p.legs) (hll : p.legs.length ≤ 1048576) (hd : -9223372036854775808 ≤ p.day ∧ p.day ≤ 9223372036854775807) (hi : -9223372036854775808 ≤ p.id ∧ p.id ≤ 9223372036854775807) :
    Calls Tryd.prog 5 #[vc, .agg #[.int .i64 p.day, .int .i64 p.id, lv]] w (True1 w) := by
  have HLL := hid' (fun W (B : Below w.heap.size w W) => hl.below B)
  obtain ⟨lp, lc, rfl, _⟩ := LegsAt.row hl
  obtain ⟨cp, cc, rfl, hcl, HC0⟩ := CallsAt.row hc
  have HC := hid' HC0
  have HN := hid' hll
  have HD := hid' (And.intro hd hi)
  have hk : ∀ o, (w.alloc (.cells #[.int .i64 p.day, .int .i64 p.id, .slice lp p.legs.length lc] 24)).cell? ⟨w.heap.size, o, none⟩ = (#[.int .i64 p.day, .int .i64 p.id, .slice lp p.legs.length lc] : Array Value)[o]? := fun o => World.cell?_alloc_new _ _ _ _
  have HK := hid' (heap_alloc_new w (.cells #[.int .i64 p.day, .int .i64 p.id, .slice lp p.legs.length lc] 24))
  have HB0 := hid' (show Below w.heap.size w (w.alloc (.cells #[.int .i64 p.day, .int .i64 p.id, .slice lp p.legs.length lc] 24)) from (Below.refl _ _).alloc (Nat.le_refl _) _)
  clear hl hc HC0 hll hd hi hk
  obtain ⟨i0, hi0, hz0, hz1, hz2⟩ := info_parts info_leg
  have HI0 := hid' hi0
  have HZ := hid' (And.intro hz0 (And.intro hz1 hz2))
  clear hi0 hz0 hz1 hz2
  go_enter Tryd.func5, Tryd.ntmps5
  go_wp2_with fail
  generalize w.alloc (.cells #[.int .i64 p.day, .int .i64 p.id, .slice lp p.legs.length lc] 24) = w0 at *
  refine (shown_any _).mono ?_
  rintro e w1 ⟨rfl, b1⟩
  have HB1 := hid' (Below.more HB0.out b1)
  have HK1 := hid' ((b1.block _ (lt_of_block HK.out)).trans HK.out)
  clear b1 HK HB0
  go_wp2_with fail
  refine (new_any _).mono ?_
  rintro e w2 ⟨lb, mb, rfl, hl2, hb2⟩
  have HS := hid' (show Posted w1.heap.size lb w1 w2 from ⟨_, _, LedIs.made hl2 hb2.size, hb2⟩)
  clear hl2 hb2
  go_upto_block 0 with (fail)
  go_cut [7] (fun v wx => (∃ i : Nat, v = .int .i64 (i : Int)) ∧ ∃ wn, wn = wx ∧ Posted w1.heap.size lb w1 wn)
  case first =>
    go_wp2_with fail
    go_loopw [7] (fun iv wr => ∃ i : Nat, iv = .int .i64 (i : Int) ∧ i ≤ calls.length ∧ Hid (Posted w1.heap.size lb w1 wr)) (fun iv _ => calls.length - (intOf iv).toNat)
    case atStart => exact ⟨0, rfl, Nat.zero_le _, HS⟩
    case round =>
      obtain ⟨i, rfl, hi, HP⟩ := hrel
      by_cases hin : i < calls.length ∧ i < 50
      · obtain ⟨hin, h50⟩ := hin
        obtain ⟨ps, hps⟩ : ∃ ps, calls[i]? = some ps := ⟨_, List.getElem?_eq_getElem hin⟩
        obtain ⟨cb, co, pv, rfl, hcb, x0, hpa, hpl⟩ := HC.out i ps hps
        obtain ⟨S, M, hS, hbS⟩ := HP.out
        have hBw : Below w.heap.size w wr := HB1.out.trans (hbS.mono HB1.out.size)
        have x0 := (hBw.cell (p := ⟨cb, co + i, none⟩) hcb).trans x0
        have HPA := hid' (post_led w1.heap.size _ lb S M wr hS (Nat.le_refl _) pv ps (fun W' ho => hpa.below (hBw.trans ((ho.below hS.base).mono HB1.out.size))) hpl)
        have HBS := hid' (And.intro hbS hS.base)
        have g0 : decide ((i : Int) < (calls.length : Int)) = true := by simp; omega
        have g1 : decide ((i : Int) < 50) = true := by simp; omega
        have j1 : (0 : Int) ≤ (i : Int) := by omega
        have j2 : (i : Int) < (calls.length : Int) := by omega
        clear hS hbS hBw hpa hps hpl h50 hcb
        go_wp2_with fail
        refine HPA.out.mono ?_
        rintro e w3 ⟨rfl, hl3, hb3⟩
        have HP3 := hid' (show Posted w1.heap.size lb w1 w3 from ⟨_, _, hl3, HBS.out.1.trans (hb3.below HBS.out.2)⟩)
        clear hl3 hb3
        go_wp2_with fail
        go_roundw
        case rel => exact ⟨i + 1, by go_num, by omega, HP3⟩
        case measure => simp [intOf]; omega
      · by_cases h : i < calls.length
        · have g0 : decide ((i : Int) < (calls.length : Int)) = true := by simp; omega
          have g1 : decide ((i : Int) < 50) = false := by simp; omega
          clear hin
          go_wp2_with fail
          go_meet
          exact ⟨⟨i, rfl⟩, _, rfl, HP.out⟩
        · have g0 : decide ((i : Int) < (calls.length : Int)) = false := by simp; omega
          clear hin
          go_wp2_with fail
          go_meet
          exact ⟨⟨i, rfl⟩, _, rfl, HP.out⟩
  case rest =>
    obtain ⟨⟨i7, rfl⟩, wq, rfl, S, M, hS, hbS⟩ := hcut
    have HS3 := hid' hS
    have HB3 := hid' hbS
    have HH := hid' (held_led w1.heap.size _ lb S M wq hS)
    clear hS hbS HS
    go_wp2_with fail
    refine HH.out.mono ?_
    rintro e w4 ⟨vh, ks, rfl, hks, hrow, hb4⟩
    obtain ⟨hp, hcap, rfl⟩ := hrow.form
    rw [List.length_map] at *
    have HKS := hid' hks
    have HR4 := hid' hrow
    have HS4 := hid' (HS3.out.below hb4)
    have HB4 := hid' (show Below w1.heap.size w1 w4 from Below.trans HB3.out (hb4.mono HS3.out.base))
    have HW4 := hid' (HB1.out.trans (HB4.out.mono HB1.out.size))
    have HI4 := hid' hb4.size
    have hk4 := (HB4.out.block _ (lt_of_block HK1.out)).trans HK1.out
    have HK4 := hid' hk4
    obtain ⟨k0, k1, k2, _⟩ := cells_of3 hk4
    clear hks hrow hb4 HH hk4 HK1 HB3
    go_wp2_with fail
    have HQ0 := hid' (show BackAt w4 w4.heap.size p 0 (.slice none 0 0) (w4.alloc (.cells #[.int .i64 p.day, .int .i64 p.id, .slice none 0 0] 24)) from ⟨heap_alloc_new _ _, LegRow.nil _ _, (Below.refl _ _).alloc (Nat.le_refl _) _, Nat.le_refl _⟩)
    clear k0 k1 k2
    go_loopw [10] (fun iv wr => ∃ (i : Nat) (v : Value), iv = .int .i64 (i : Int) ∧ i ≤ p.legs.length ∧ Hid (BackAt w4 w4.heap.size p i v wr)) (fun iv _ => p.legs.length - (intOf iv).toNat)
    case atStart => exact ⟨0, _, rfl, Nat.zero_le _, HQ0⟩
    case round =>
      obtain ⟨i, v, rfl, hi, HQ⟩ := hrel
      obtain ⟨k0, k1, k2, _⟩ := cells_of3 ((HQ.out.bel.block _ (lt_of_block HK4.out)).trans HK4.out)
      clear k0 k1
      by_cases hin : i < p.legs.length
      · obtain ⟨x, hx⟩ : ∃ x, p.legs[i]? = some x := ⟨_, List.getElem?_eq_getElem hin⟩
        obtain ⟨cb, co, cc2, hv, x0, x1, x2⟩ := LegsAt.cells (HLL.out _ (HW4.out.trans (HQ.out.bel.mono HW4.out.size))) (Below.refl _ _) hx
        obtain ⟨rfl, rfl⟩ : lp = some ⟨cb, co, none⟩ ∧ lc = cc2 := by simp at hv; exact hv
        clear hv
        obtain ⟨bp, bc, hv⟩ := HQ.out.own.form
        rw [List.length_map, List.length_take, Nat.min_eq_left (Nat.le_of_lt hin)] at hv
        subst hv
        obtain ⟨q0, q1, q2, _⟩ := cells_of3 HQ.out.blk
        have g0 : decide ((i : Int) < (p.legs.length : Int)) = true := by simp; omega
        have j1 : (0 : Int) ≤ (i : Int) := by omega
        have j2 : (i : Int) < (p.legs.length : Int) := by omega
        have HX := hid' hx
        have HLI := hid' (show ((p.legs.take i).map negLeg).length = i by rw [List.length_map, List.length_take]; omega)
        clear hx
        go_upto_region 15 with (fail)
        have hB3 : Below wr.heap.size wr (wr.alloc (.cells #[.string x.party, .string x.cur, .int .i64 (wrap64 (-x.amount))] 41)) := (Below.refl _ _).alloc (Nat.le_refl _) _
        obtain ⟨y0, y1, y2⟩ := heap_cells3 (heap_alloc_new wr (.cells #[.string x.party, .string x.cur, .int .i64 (wrap64 (-x.amount))] 41))
        have q2 := alloc_cell q2 (.cells #[.string x.party, .string x.cur, .int .i64 (wrap64 (-x.amount))] 41)
        have HB5 := hid' (hB3.trans ((Below.refl _ _).alloc hB3.size (.cells #[.string x.party, .string x.cur, .int .i64 (wrap64 (-x.amount))] 41)))
        have HOW := hid' (HQ.out.own.under HB5.out)
        have HSZ := hid' (show w4.heap.size ≤ wr.heap.size from HQ.out.bel.size)
        generalize hxb : wr.heap.size = xb at y0 y1 y2
        generalize wr.alloc (.cells #[.string x.party, .string x.cur, .int .i64 (wrap64 (-x.amount))] 41) = W3 at *
        clear hB3 q0 q1 x0 x1 x2 k2
        go_wp2_with (refine wpList_append_own _ rfl _ _ 22 rfl w4.heap.size 41 i0 _ 3 40 Tryd.underlying22 HI0.out HZ.out.1 HZ.out.2.1 HZ.out.2.2 rfl (by decide) _ _ _ rfl HOW.out ⟨W3.heap.size, 0, none⟩ 1 1 [.string x.party, .string x.cur, .int .i64 (wrap64 (-x.amount))] rfl rfl (cell_three_new _ _ _ _ _) (by simp [Value.oneCell']) (by have := HN.out; rw [HLI.out]; unfold maxLen; omega) (by have := HN.out; rw [HLI.out]; omega) (by exact Nat.le_trans HSZ.out HB5.out.size) (fun v' w' h1 h2 _ => ?_); refine halt' ?_)
        have HBK := hid' (back_step HQ.out HX.out HB5.out (by simpa using h1) h2)
        clear h1 h2
        refine hid' ?_
        obtain ⟨c2, f2, _⟩ := HBK.out
        obtain ⟨p5, c5, hv⟩ := HBK.out.2.2.own.form
        rw [List.length_map, List.length_take, Nat.min_eq_left (by omega)] at hv
        subst hv
        go_wp2_with fail
        go_roundw
        case rel => exact ⟨i + 1, _, by go_num, by omega, hid' HBK.out.2.2⟩
        case measure => simp [intOf]; omega
      · obtain rfl : i = p.legs.length := by omega
        have g9 : decide (p.legs.length < p.legs.length) = false := by simp
        clear hin
        go_upto_region 16 with (fail)
        have hown := HQ.out.own
        rw [List.take_length] at hown
        obtain ⟨bp, bc, rfl⟩ := hown.form
        have hbk := HQ.out.blk
        rw [List.length_map] at hbk hown HQ
        obtain ⟨k0, k1, k2, _⟩ := cells_of3 ((HQ.out.bel.block _ (lt_of_block HK4.out)).trans HK4.out)
        obtain ⟨q0, q1, q2, _⟩ := cells_of3 hbk
        have HBR := hid' HQ.out.bel
        have hB6 : Below wr.heap.size wr (wr.alloc (.cells #[.int .i64 p.day, .int .i64 p.id, .slice lp p.legs.length lc, .int .i64 p.day, .int .i64 p.id, .slice bp p.legs.length bc] 24)) := (Below.refl _ _).alloc (Nat.le_refl _) _
        have HB6 := hid' (HBR.out.trans (hB6.mono HBR.out.size))
        have HP2 := hid' (two_posts (base := w1.heap.size) (hi := wq.heap.size) (h2 := w4.heap.size) (p := p) (lv := .slice lp p.legs.length lc) (fun W' B => HLL.out _ ((HW4.out.trans (HB6.out.mono HW4.out.size)).trans (B.mono HB1.out.size))) (hown.under hB6) HI4.out (wide_neg (HLL.out w (Below.refl _ _)))
          (heap_alloc_new wr _) (Nat.le_trans HI4.out HBR.out.size) (Nat.le_trans HS4.out.base HB6.out.size) HD.out.1 HD.out.2)
        have HS6 := hid' (HS4.out.below HB6.out)
        have HR6 := hid' (HR4.out.under HB6.out)
        have HSZ := hid' (show wq.heap.size ≤ (wr.alloc (.cells #[.int .i64 p.day, .int .i64 p.id, .slice lp p.legs.length lc, .int .i64 p.day, .int .i64 p.id, .slice bp p.legs.length bc] 24)).heap.size from Nat.le_trans HI4.out HB6.out.size)
        have HW6 := hid' (HW4.out.trans (HB6.out.mono HW4.out.size))
        have HSB := hid' (Nat.le_trans HB1.out.size HB4.out.size)
        clear hbk hown hB6
        go_wp2_with fail
        refine (post_led w1.heap.size wq.heap.size lb S M _ HS6.out HSZ.out _ [p, backOf p] HP2.out (by simp)).mono ?_
        rintro e w7 ⟨rfl, hl7, ho7⟩
        have HR7 := hid' (HR6.out.out ho7 (Nat.le_refl _))
        have HW7 := hid' (HW6.out.trans ((ho7.below HS6.out.base).mono HB1.out.size))
        have HWD := hid' (wide_held HS4.out ks)
        have hkl : ks.length ≤ 9223372036854775807 := by
          obtain ⟨_, _, _, h, _⟩ := LegsAt.row (HR7.out.wide HWD.out)
          simpa using h
        clear ho7 HP2 HR6 HR4 k0 k1 k2 q0 q1 q2
        rcases postCode_cases S.length M [p, backOf p] with h0 | h0 | h0
        · rw [nextS_yes h0] at hl7
          rw [h0]
          have HU := hid' (postCode_room h0).1
          have HL7 := hid' hl7
          clear hl7 h0
          go_wp2_with fail
          have HKP := hid' (Kept.refl w7)
          go_loopw [13] (fun iv wr => ∃ i : Nat, iv = .int .i64 (i : Int) ∧ i ≤ ks.length ∧ Hid (Kept w7 wr)) (fun iv _ => ks.length - (intOf iv).toNat)
          case atStart => exact ⟨0, rfl, Nat.zero_le _, HKP⟩
          case round =>
            obtain ⟨i, rfl, hi, HKR⟩ := hrel
            by_cases hin : i < ks.length
            · obtain ⟨a, ha⟩ : ∃ a, ks[i]? = some a := ⟨_, List.getElem?_eq_getElem hin⟩
              have hax : (ks.map (legOf M))[i]? = some (legOf M a) := by rw [List.getElem?_map, ha]; rfl
              obtain ⟨gb, go, gc, hv, x0, x1, x2⟩ := LegsAt.cells (HR7.out.wide HWD.out) (Below.refl _ _) hax
              obtain ⟨rfl, -⟩ : hp = some ⟨gb, go, none⟩ ∧ hcap = gc := by simp at hv; exact hv
              have x0 := HKR.out.cell x0
              have x1 := HKR.out.cell x1
              have x2 := HKR.out.cell x2
              have g0 : decide ((i : Int) < (ks.length : Int)) = true := by simp; omega
              have j1 : (0 : Int) ≤ (i : Int) := by omega
              have j2 : (i : Int) < (ks.length : Int) := by omega
              have hbl := balance_led w1.heap.size w7.heap.size lb _ _ _ HL7.out a.p a.c a.hp a.hc
              rw [bal_undone HS4.out.isMap a.hp a.hc (HS4.out.bal a.hp a.hc) HU.out] at hbl
              have HBL := hid' (fun n => balance_led w1.heap.size w7.heap.size lb _ _ (wr.drewN n) (HL7.out.below (by obtain ⟨m, rfl⟩ := HKR.out; exact Below.drewn (Below.drewn (Below.refl _ _) m) n)) a.p a.c a.hp a.hc)
              rw [bal_undone HS4.out.isMap a.hp a.hc (HS4.out.bal a.hp a.hc) HU.out] at HBL
              obtain ⟨bl, hbl⟩ : ∃ bl, Hid (bl = balOf M a.p a.c) := ⟨_, rfl⟩
              have e0 : (legOf M a).party = a.p := rfl
              have e1 : (legOf M a).cur = a.c := rfl
              have e2 : (legOf M a).amount = bl := hbl.out.symm
              rw [e0] at x0
              rw [e1] at x1
              rw [e2] at x2
              rw [← hbl.out] at HBL
              clear hv hbl e0 e1 e2 ha hax
              go_upto_region 22 with (fail)
              go_quiet ((go_at_call 20; exact Calls.quiet_of_same (HBL.out _)))
              go_wp2_with fail
              go_roundw
              case rel => exact ⟨i + 1, by go_num, by omega, hid' (Kept.more HKR.out _)⟩
              case measure => simp [intOf]; omega
            · obtain rfl : i = ks.length := by omega
              have g9 : decide (ks.length < ks.length) = false := by simp
              clear hin
              go_wp2_with fail
              go_ret
              obtain ⟨m, rfl⟩ := HKR.out
              exact ⟨rfl, Below.drewn HW7.out m⟩
        · rw [nextS_no (by rw [h0]; omega)] at hl7
          rw [h0]
          have HH8 := hid' (held_led _ _ _ _ _ _ hl7)
          clear hl7 h0
          go_wp2_with fail
          refine HH8.out.mono ?_
          rintro e w8 ⟨vh2, ks2, rfl, hks2, hrow2, hb8⟩
          obtain rfl := hks2.unique HKS.out
          obtain ⟨hp2, hc2, hv⟩ := hrow2.form
          rw [List.length_map] at hv
          subst hv
          have HR8 := hid' (HR7.out.under hb8)
          have HQ8 := hid' (sameLegs_yes _ _ _ w8 (hrow2.wide HWD.out) (HR8.out.wide HWD.out))
          have HW8 := hid' (Below.more HW7.out hb8)
          clear hrow2 hks2 hb8
          go_wp2_with fail
          refine HQ8.out.mono ?_
          rintro e w9 ⟨rfl, m, rfl⟩
          go_wp2_with fail
          go_ret
          exact ⟨rfl, Below.drewn HW8.out m⟩
        · rw [nextS_no (by rw [h0]; omega)] at hl7
          rw [h0]
          have HH8 := hid' (held_led _ _ _ _ _ _ hl7)
          clear hl7 h0
          go_wp2_with fail
          refine HH8.out.mono ?_
          rintro e w8 ⟨vh2, ks2, rfl, hks2, hrow2, hb8⟩
          obtain rfl := hks2.unique HKS.out
          obtain ⟨hp2, hc2, hv⟩ := hrow2.form
          rw [List.length_map] at hv
          subst hv
          have HR8 := hid' (HR7.out.under hb8)
          have HQ8 := hid' (sameLegs_yes _ _ _ w8 (hrow2.wide HWD.out) (HR8.out.wide HWD.out))
          have HW8 := hid' (Below.more HW7.out hb8)
          clear hrow2 hks2 hb8
          go_wp2_with fail
          refine HQ8.out.mono ?_
          rintro e w9 ⟨rfl, m, rfl⟩
          go_wp2_with fail
          go_ret
          exact ⟨rfl, Below.drewn HW8.out m⟩
end Go.Proofs.YtmmbhmlhenpgbaaDoor

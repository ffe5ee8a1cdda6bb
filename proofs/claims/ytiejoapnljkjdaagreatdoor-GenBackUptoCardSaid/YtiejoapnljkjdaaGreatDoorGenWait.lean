/- Proved: the reference's wait, as a contract. -/
import Derived.Test.YtiejoapnljkjdaaGreatDoorGenText
import Derived.Deep.DeepCutAuto
namespace Go.Proofs.YtiejoapnljkjdaaGreatDoor
open Go.RowKit
open Gen
set_option linter.unusedVariables false
set_option linter.unusedSimpArgs false
set_option maxRecDepth 100000
def WtBox (W : World) (b : Nat) (x : Gen.Wt) : Prop := W.heap[b]? = some (.cells #[.int .i64 x.entry, .int .i64 x.day, .string x.label, .int .i64 x.first, .int .i64 x.second] 56 (0, 0))
structure WSt (w : World) (b0 b1 : Nat) (vw vi : Value) (c : Gen.Cd) (x : Gen.Wt) (W : World) : Prop where
  bel : Below w.heap.size w W
  cb : CdBox W b0 c.regs vw vi
  xb : WtBox W b1 x
  cd : CdAt W (.agg #[.int .i64 c.regs, vw, vi]) c
theorem box_below {W W' : World} {b : Nat} {o : Obj} (B : Below W.heap.size W W') (h : W.heap[b]? = some o) : W'.heap[b]? = some o := (B.block b (lt_of_block h)).trans h
theorem WSt.below {w : World} {b0 b1 : Nat} {vw vi : Value} {c : Gen.Cd} {x : Gen.Wt} {W W' : World} (h : WSt w b0 b1 vw vi c x W) (B : Below W.heap.size W W') : WSt w b0 b1 vw vi c x W' :=
  ⟨Below.more h.bel B, box_below B h.cb, box_below B h.xb, h.cd.below B⟩
set_option maxHeartbeats 4000000 in
theorem wait_any (v : Value) (c : Gen.Cd) (x : Gen.Wt) (w : World) (h : CdAt w v c) (hl : x.label.size ≤ 2000000) :
    Calls Tryz.prog 17 #[v, .agg #[.int .i64 x.entry, .int .i64 x.day, .string x.label, .int .i64 x.first, .int .i64 x.second]] w (Gives (.bool (Gen.waitOk c x)) w) := by
  have hcd := h
  obtain ⟨vw, vi, rfl, ⟨pw, cw, rfl, _⟩, ⟨pi, ci, rfl, _⟩, hr⟩ := h
  obtain ⟨t1, t2, t3⟩ := two_boxes w (.cells #[.int .i64 c.regs, .slice pw c.waits.length cw, .slice pi c.ins.length ci] 25) (.cells #[.int .i64 x.entry, .int .i64 x.day, .string x.label, .int .i64 x.first, .int .i64 x.second] 56)
  have e1 : (w.alloc (.cells #[.int .i64 c.regs, .slice pw c.waits.length cw, .slice pi c.ins.length ci] 25)).heap.size = w.heap.size + 1 := by simp
  rw [e1] at t2
  have HS := hid' (show WSt w w.heap.size (w.heap.size + 1) _ _ c x _ from ⟨t3, t1, t2, hcd.below t3⟩)
  have HIN := hid' (fun W => refIsName_any x.label W (by omega))
  clear hcd t1 t2 t3 e1 hl
  go_enter Tryz.func17, Tryz.ntmps17
  go_upto_region 1 with (fail)
  obtain ⟨b1, hb1⟩ : ∃ b1, b1 = w.heap.size + 1 := ⟨_, rfl⟩
  rw [← hb1] at HS ⊢
  obtain ⟨b0, hb0⟩ : ∃ b0, b0 = w.heap.size := ⟨_, rfl⟩
  have HS1 := hid' (show WSt w b0 b1 _ _ c x _ by rw [hb0]; exact HS.out)
  rw [← hb0]
  clear hb1 hb0 HS
  generalize ((w.alloc (.cells #[.int .i64 c.regs, .slice pw c.waits.length cw, .slice pi c.ins.length ci] 25)).alloc (.cells #[.int .i64 x.entry, .int .i64 x.day, .string x.label, .int .i64 x.first, .int .i64 x.second] 56)) = w2 at *
  have c0 := bcells HS1.out.cb 0 _ rfl
  have c1 := bcells HS1.out.cb 1 _ rfl
  have c2 := bcells HS1.out.cb 2 _ rfl
  have x0 := bcells HS1.out.xb 0 _ rfl
  go_wp2_with fail
  refine (place_any _ c x.entry w2 HS1.out.cd).mono ?_
  rintro e w3 ⟨rfl, b3⟩
  have HS2 := hid' (HS1.out.below b3)
  clear b3 c0 c1 c2 x0 HS1
  have x1 := bcells HS2.out.xb 1 _ rfl
  have x2 := bcells HS2.out.xb 2 _ rfl
  have x3 := bcells HS2.out.xb 3 _ rfl
  have x4 := bcells HS2.out.xb 4 _ rfl
  have c0 := bcells HS2.out.cb 0 _ rfl
  have c1 := bcells HS2.out.cb 1 _ rfl
  have c2 := bcells HS2.out.cb 2 _ rfl
  have hW : waitOk c x = (Gen.place c x.entry && (decide (0 ≤ x.day) && (decide (x.day ≤ 73048) && (if x.label = ⟨#[]⟩ then decide (x.first = 0) && decide (x.second = 0) else Led.isName x.label && (Gen.place c x.first && Gen.place c x.second))))) := by
    unfold waitOk within; rw [Bool.and_assoc]
  cases hp : Gen.place c x.entry with
  | false =>
    rw [hp, Bool.false_and] at hW
    have HW := hid' hW
    clear hW hp
    go_wp2_with fail
    go_ret
    refine ⟨?_, HS2.out.bel⟩
    rw [HW.out]
    rfl
  | true =>
    rw [hp, Bool.true_and] at hW
    clear hp
    by_cases h1 : x.day < 0
    · have g1 : decide (x.day < 0) = true := decide_eq_true h1
      rw [decide_eq_false (show ¬ 0 ≤ x.day by omega), Bool.false_and] at hW
      have HW := hid' hW
      clear hW h1
      go_wp2_with fail
      go_ret
      refine ⟨?_, HS2.out.bel⟩
      rw [HW.out]
      rfl
    · have g1 : decide (x.day < 0) = false := decide_eq_false h1
      rw [decide_eq_true (show 0 ≤ x.day by omega), Bool.true_and] at hW
      by_cases h2 : 73048 < x.day
      · have g2 : decide (73048 < x.day) = true := decide_eq_true h2
        rw [decide_eq_false (show ¬ x.day ≤ 73048 by omega), Bool.false_and] at hW
        have HW := hid' hW
        clear hW h1 h2
        go_wp2_with fail
        go_ret
        refine ⟨?_, HS2.out.bel⟩
        rw [HW.out]
        rfl
      · have g2 : decide (73048 < x.day) = false := decide_eq_false h2
        rw [decide_eq_true (show x.day ≤ 73048 by omega), Bool.true_and] at hW
        clear h1 h2
        by_cases hlb : x.label = ⟨#[]⟩
        · rw [if_pos hlb] at hW
          rw [hlb] at x2
          by_cases hf : x.first = 0
          · have q1 : (x.first == 0) = true := by rw [hf]; rfl
            have HW := hid' (show waitOk c x = (x.second == 0) by rw [hW, decide_eq_true hf, Bool.true_and]; rfl)
            clear hW hlb hf
            go_wp2_with fail
            go_ret
            refine ⟨?_, HS2.out.bel⟩
            rw [HW.out]
            rfl
          · have q1 : (x.first == 0) = false := by rw [beq_eq_false_iff_ne]; exact hf
            have HW := hid' (show waitOk c x = false by rw [hW, decide_eq_false hf, Bool.false_and])
            clear hW hlb hf
            go_wp2_with fail
            go_ret
            refine ⟨?_, HS2.out.bel⟩
            rw [HW.out]
            rfl
        · rw [if_neg hlb] at hW
          have hnl : x.label.toList.isEmpty = false := nonempty_list hlb
          have HW := hid' hW
          clear hW hlb
          go_wp2_with fail
          refine (HIN.out w3).mono ?_
          rintro e w4 ⟨rfl, rfl⟩
          go_wp2_with fail
          refine (place_any _ c x.first w4 HS2.out.cd).mono ?_
          rintro e w5 ⟨rfl, b5⟩
          have HS3 := hid' (HS2.out.below b5)
          clear b5 c0 c1 c2 x1 x2 x3 x4
          have x4 := bcells HS3.out.xb 4 _ rfl
          have c0 := bcells HS3.out.cb 0 _ rfl
          have c1 := bcells HS3.out.cb 1 _ rfl
          have c2 := bcells HS3.out.cb 2 _ rfl
          go_wp2_with fail
          refine (place_any _ c x.second w5 HS3.out.cd).mono ?_
          rintro e w6 ⟨rfl, b6⟩
          have HS4 := hid' (HS3.out.below b6)
          clear b6 c0 c1 c2 x4
          generalize Led.isName x.label = bn at *
          generalize Gen.place c x.first = bf at *
          generalize Gen.place c x.second = bs at *
          cases bn <;> cases bf
          all_goals
            go_wp2_with fail
            go_ret
            refine ⟨?_, HS4.out.bel⟩
            rw [HW.out]
            rfl
end Go.Proofs.YtiejoapnljkjdaaGreatDoor

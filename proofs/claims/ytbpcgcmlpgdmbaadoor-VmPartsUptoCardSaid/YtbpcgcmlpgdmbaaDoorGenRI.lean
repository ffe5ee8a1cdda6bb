/- Proved: gen.rightInstr, as a contract. -/
import Derived.Test.YtbpcgcmlpgdmbaaDoorGenIs
import Derived.Deep.DeepCutAuto
namespace Go.Proofs.YtbpcgcmlpgdmbaaDoor
open Go.RowKit
open Gen
set_option linter.unusedVariables false
set_option linter.unusedSimpArgs false
set_option maxRecDepth 100000
/-- What rightInstr's loop has in its boxes. -/
structure RSl (w : World) (b0 b1 b2 b3 : Nat) (vw vi : Value) (c : Gen.Cd) (x : Gen.Ix) (W : World) : Prop where
  is : ISt w b0 b1 vw vi c x W
  fb : W.heap[b2]? = some (.cells #[.string (usesT x.op)] 9 (0, 0))
  sl : W.heap[b3]? = some (.cells #[.int .i64 x.a, .int .i64 x.b, .int .i64 x.c] 3 (0, 0))
def okU (c : Gen.Cd) (x : Gen.Ix) : Nat → Bool
  | 0 => isOp x.op
  | 1 => isOp x.op && fld (useA x.op) x.a c.regs
  | 2 => isOp x.op && fld (useA x.op) x.a c.regs && fld (useB x.op) x.b c.regs
  | _ => isOp x.op && fld (useA x.op) x.a c.regs && fld (useB x.op) x.b c.regs && fld (useC x.op) x.c c.regs
def okT (c : Gen.Cd) (k : Int) (x : Gen.Ix) : Bool := okU c x 3 && toOk c k x
theorem insOk_okT (c : Gen.Cd) (k : Int) (x : Gen.Ix) : insOk c k x = (okT c k x && (numOk c k x && textOk x)) := by
  rw [ins_and]
  unfold okT okU
  generalize isOp x.op = p1
  generalize fld (useA x.op) x.a c.regs = p3
  generalize fld (useB x.op) x.b c.regs = p4
  generalize fld (useC x.op) x.c c.regs = p5
  generalize toOk c k x = p6
  generalize numOk c k x = p7
  generalize textOk x = p8
  cases p1 <;> cases p3 <;> cases p4 <;> cases p5 <;> cases p6 <;> cases p7 <;> cases p8 <;> rfl
set_option maxHeartbeats 8000000 in
theorem rightInstr_any (v : Value) (c : Gen.Cd) (k : Nat) (x : Gen.Ix) (w : World) (h : CdAt w v c) (hx : c.ins[k]? = some x) : Calls Tryd.prog 22 #[v, .int .i64 (k : Int)] w (Gives (.bool (Gen.insOk c (k : Int) x)) w) := by
  have hcd := h
  obtain ⟨vw, vi, rfl, ⟨pw, cw, rfl, -⟩, ⟨pi, ci, rfl, ⟨hi1, hi2⟩, hic⟩, hr⟩ := h
  obtain ⟨ib, io, rfl, hib, ⟨x0, x1, x2, x3, x4, x5, x6⟩, hxf⟩ := hic k x hx
  have hk := (List.getElem?_eq_some_iff.1 hx).1
  obtain ⟨t1, t2, t3⟩ := two_boxes w (.cells #[.int .i64 c.regs, .slice pw c.waits.length cw, .slice (some ⟨ib, io, none⟩) c.ins.length ci] 25) (.cells #[.int .i64 x.op, .int .i64 x.a, .int .i64 x.b, .int .i64 x.c, .int .i64 x.n, .string x.s, .int .i64 x.to] 39)
  have e1 : (w.alloc (.cells #[.int .i64 c.regs, .slice pw c.waits.length cw, .slice (some ⟨ib, io, none⟩) c.ins.length ci] 25)).heap.size = w.heap.size + 1 := by simp
  rw [e1] at t2
  have HS := hid' (show ISt w w.heap.size (w.heap.size + 1) _ _ c x _ from ⟨t3, t1, t2, hcd.below t3⟩)
  have j1 : (0 : Int) ≤ (k : Int) := by omega
  have j2 : (k : Int) < (c.ins.length : Int) := by omega
  have al := fun (a : Addr) (vv : Value) (hh : w.cell? a = some vv) (o : Obj) => (Below.cell ((Below.refl w.heap.size w).alloc (Nat.le_refl _) o) (World.block_lt_of_cell? _ _ hh)).trans hh
  have y0 := fun o => al _ _ x0 o
  have y1 := fun o => al _ _ x1 o
  have y2 := fun o => al _ _ x2 o
  have y3 := fun o => al _ _ x3 o
  have y4 := fun o => al _ _ x4 o
  have y5 := fun o => al _ _ x5 o
  have y6 := fun o => al _ _ x6 o
  have HKX := hid' (And.intro hx hxf)
  have HU := hid' (fun W => fields_any x.op W)
  obtain ⟨u1, u2, u3, u4⟩ := uses_has x.op
  have HUA := hid' u1
  have HUB := hid' u2
  have HUC := hid' u3
  have HUT := hid' u4
  clear hcd t1 t2 t3 e1 hic hx hr hk al hxf u1 u2 u3 u4
  go_enter Tryd.func22, Tryd.ntmps22
  go_upto_region 2 with (fail)
  obtain ⟨b1, hb1⟩ : ∃ b1, b1 = w.heap.size + 1 := ⟨_, rfl⟩
  rw [← hb1] at HS ⊢
  obtain ⟨b0, hb0⟩ : ∃ b0, b0 = w.heap.size := ⟨_, rfl⟩
  have HS1 := hid' (show ISt w b0 b1 _ _ c x _ by rw [hb0]; exact HS.out)
  rw [← hb0]
  clear hb1 hb0 HS x0 x1 x2 x3 x4 x5 x6 y0 y1 y2 y3 y4 y5 y6
  generalize ((w.alloc (.cells #[.int .i64 c.regs, .slice pw c.waits.length cw, .slice (some ⟨ib, io, none⟩) c.ins.length ci] 25)).alloc (.cells #[.int .i64 x.op, .int .i64 x.a, .int .i64 x.b, .int .i64 x.c, .int .i64 x.n, .string x.s, .int .i64 x.to] 39)) = w2 at *
  have x0 := bcells HS1.out.xb 0 _ rfl
  go_wp2_with fail
  refine (HU.out w2).mono ?_
  rintro e w3 ⟨rfl, b3⟩
  have HS2 := hid' (HS1.out.below b3)
  clear x0 b3
  have HFB := hid' (heap_alloc_new w3 (.cells #[.string (usesT x.op)] 9))
  have HS3 := hid' (HS2.out.below ((Below.refl w3.heap.size w3).alloc (Nat.le_refl _) (.cells #[.string (usesT x.op)] 9)))
  have x1 := bcells HS3.out.xb 1 _ rfl
  have x2 := bcells HS3.out.xb 2 _ rfl
  have x3 := bcells HS3.out.xb 3 _ rfl
  go_wp2_with fail
  --LOOP
  have h4 : RSl w b0 b1 w3.heap.size (w3.heap.size + 1) _ _ c x ((w3.alloc (.cells #[.string (usesT x.op)] 9)).alloc (.cells #[.int .i64 x.a, .int .i64 x.b, .int .i64 x.c] 3)) :=
    ⟨HS3.out.below ((Below.refl _ _).alloc (Nat.le_refl _) _), (Below.heap_alloc _ _ _ (by simp)).trans HFB.out, (by have := heap_alloc_new (w3.alloc (.cells #[.string (usesT x.op)] 9)) (.cells #[.int .i64 x.a, .int .i64 x.b, .int .i64 x.c] 3); rwa [World.size_alloc] at this)⟩
  have H4 := hid' h4
  clear h4 x1 x2 x3 HFB HS3 HS2 HS1
  generalize ((w3.alloc (.cells #[.string (usesT x.op)] 9)).alloc (.cells #[.int .i64 x.a, .int .i64 x.b, .int .i64 x.c] 3)) = w4 at *
  generalize w3.heap.size + 1 = b3 at *
  generalize w3.heap.size = b2 at *
  clear HU
  have HOK0 := hid' (show okU c x 0 = isOp x.op from rfl)
  rw [← HOK0.out]
  clear HOK0
  go_loopw [7, 32] (fun ov iv wr => ∃ j : Nat, iv = .int .i64 (j : Int) ∧ j ≤ 3 ∧ ov = .bool (okU c x j) ∧ wr = w4) (fun _ iv _ => 3 - (intOf iv).toNat)
  case atStart => exact ⟨0, rfl, by omega, rfl, rfl⟩
  case round =>
    obtain ⟨j, rfl, hj, rfl, rfl⟩ := hrel
    rcases (by omega : j = 0 ∨ j = 1 ∨ j = 2 ∨ j = 3) with rfl | rfl | rfl | rfl
    · have y0 := bcells H4.out.sl 0 _ rfl
      have f0 := bcells H4.out.fb 0 _ rfl
      have c0 := bcells H4.out.is.cb 0 _ rfl
      have HS := hid' (show okU c x 1 = (okU c x 0 && fld (useA x.op) x.a c.regs) from rfl)
      have HC := hid' (show Calls Tryd.prog 34 #[.string (Utf8.encode 65), .pointer (some ⟨b2, 0, none⟩)] wr (Ret (.bool (useA x.op)) wr) by rw [← HUA.out, show Utf8.encode 65 = ⟨#[65]⟩ by decide +kernel]; exact used_any (usesT x.op) 65 b2 wr f0)
      obtain ⟨q, hq⟩ : ∃ q, Hid (q = okU c x 1) := ⟨_, rfl⟩
      rw [← hq.out] at HS
      generalize okU c x 0 = p at *
      obtain ⟨u, hu⟩ : ∃ u, Hid (u = useA x.op) := ⟨_, rfl⟩
      rw [← hu.out] at HS HC
      clear hu
      generalize x.a = r at *
      go_wp2_with fail
      refine HC.out.mono ?_
      rintro e w5 ⟨rfl, rfl⟩
      cases u with
      | true =>
        cases p with
        | false =>
          have HQ := hid' (show q = false by rw [HS.out]; rfl)
          go_wp2_with fail
          go_roundw
          case rel => exact ⟨1, by go_num, by omega, by rw [← hq.out, HQ.out], by first | rfl | trivial⟩
          case measure => simp [intOf]
        | true =>
          by_cases h1 : 0 ≤ r
          · have g1 : decide (0 ≤ r) = true := decide_eq_true h1
            have HQ := hid' (show q = decide (r < c.regs) by rw [HS.out]; unfold fld; simp [h1])
            clear h1
            go_wp2_with fail
            go_roundw
            case rel => exact ⟨1, by go_num, by omega, by rw [← hq.out, HQ.out], by first | rfl | trivial⟩
            case measure => simp [intOf]
          · have g1 : decide (0 ≤ r) = false := decide_eq_false h1
            have HQ := hid' (show q = false by rw [HS.out]; unfold fld; simp [h1])
            clear h1
            go_wp2_with fail
            go_roundw
            case rel => exact ⟨1, by go_num, by omega, by rw [← hq.out, HQ.out], by first | rfl | trivial⟩
            case measure => simp [intOf]
      | false =>
        cases p with
        | false =>
          have HQ := hid' (show q = false by rw [HS.out]; rfl)
          go_wp2_with fail
          go_roundw
          case rel => exact ⟨1, by go_num, by omega, by rw [← hq.out, HQ.out], by first | rfl | trivial⟩
          case measure => simp [intOf]
        | true =>
          by_cases h1 : r = 0
          · have g1 : (r == 0) = true := by rw [h1]; rfl
            have HQ := hid' (show q = true by rw [HS.out]; unfold fld; simp [h1])
            clear h1
            go_wp2_with fail
            go_roundw
            case rel => exact ⟨1, by go_num, by omega, by rw [← hq.out, HQ.out], by first | rfl | trivial⟩
            case measure => simp [intOf]
          · have g1 : (r == 0) = false := by rw [beq_eq_false_iff_ne]; exact h1
            have HQ := hid' (show q = false by rw [HS.out]; unfold fld; simp [h1])
            clear h1
            go_wp2_with fail
            go_roundw
            case rel => exact ⟨1, by go_num, by omega, by rw [← hq.out, HQ.out], by first | rfl | trivial⟩
            case measure => simp [intOf]
    · have y0 := bcells H4.out.sl 1 _ rfl
      have f0 := bcells H4.out.fb 0 _ rfl
      have c0 := bcells H4.out.is.cb 0 _ rfl
      have HS := hid' (show okU c x 2 = (okU c x 1 && fld (useB x.op) x.b c.regs) from rfl)
      have HC := hid' (show Calls Tryd.prog 34 #[.string (Utf8.encode 66), .pointer (some ⟨b2, 0, none⟩)] wr (Ret (.bool (useB x.op)) wr) by rw [← HUB.out, show Utf8.encode 66 = ⟨#[66]⟩ by decide +kernel]; exact used_any (usesT x.op) 66 b2 wr f0)
      obtain ⟨q, hq⟩ : ∃ q, Hid (q = okU c x 2) := ⟨_, rfl⟩
      rw [← hq.out] at HS
      generalize okU c x 1 = p at *
      obtain ⟨u, hu⟩ : ∃ u, Hid (u = useB x.op) := ⟨_, rfl⟩
      rw [← hu.out] at HS HC
      clear hu
      generalize x.b = r at *
      go_wp2_with fail
      refine HC.out.mono ?_
      rintro e w5 ⟨rfl, rfl⟩
      cases u with
      | true =>
        cases p with
        | false =>
          have HQ := hid' (show q = false by rw [HS.out]; rfl)
          go_wp2_with fail
          go_roundw
          case rel => exact ⟨2, by go_num, by omega, by rw [← hq.out, HQ.out], by first | rfl | trivial⟩
          case measure => simp [intOf]
        | true =>
          by_cases h1 : 0 ≤ r
          · have g1 : decide (0 ≤ r) = true := decide_eq_true h1
            have HQ := hid' (show q = decide (r < c.regs) by rw [HS.out]; unfold fld; simp [h1])
            clear h1
            go_wp2_with fail
            go_roundw
            case rel => exact ⟨2, by go_num, by omega, by rw [← hq.out, HQ.out], by first | rfl | trivial⟩
            case measure => simp [intOf]
          · have g1 : decide (0 ≤ r) = false := decide_eq_false h1
            have HQ := hid' (show q = false by rw [HS.out]; unfold fld; simp [h1])
            clear h1
            go_wp2_with fail
            go_roundw
            case rel => exact ⟨2, by go_num, by omega, by rw [← hq.out, HQ.out], by first | rfl | trivial⟩
            case measure => simp [intOf]
      | false =>
        cases p with
        | false =>
          have HQ := hid' (show q = false by rw [HS.out]; rfl)
          go_wp2_with fail
          go_roundw
          case rel => exact ⟨2, by go_num, by omega, by rw [← hq.out, HQ.out], by first | rfl | trivial⟩
          case measure => simp [intOf]
        | true =>
          by_cases h1 : r = 0
          · have g1 : (r == 0) = true := by rw [h1]; rfl
            have HQ := hid' (show q = true by rw [HS.out]; unfold fld; simp [h1])
            clear h1
            go_wp2_with fail
            go_roundw
            case rel => exact ⟨2, by go_num, by omega, by rw [← hq.out, HQ.out], by first | rfl | trivial⟩
            case measure => simp [intOf]
          · have g1 : (r == 0) = false := by rw [beq_eq_false_iff_ne]; exact h1
            have HQ := hid' (show q = false by rw [HS.out]; unfold fld; simp [h1])
            clear h1
            go_wp2_with fail
            go_roundw
            case rel => exact ⟨2, by go_num, by omega, by rw [← hq.out, HQ.out], by first | rfl | trivial⟩
            case measure => simp [intOf]
    · have y0 := bcells H4.out.sl 2 _ rfl
      have f0 := bcells H4.out.fb 0 _ rfl
      have c0 := bcells H4.out.is.cb 0 _ rfl
      have HS := hid' (show okU c x 3 = (okU c x 2 && fld (useC x.op) x.c c.regs) from rfl)
      have HC := hid' (show Calls Tryd.prog 34 #[.string (Utf8.encode 67), .pointer (some ⟨b2, 0, none⟩)] wr (Ret (.bool (useC x.op)) wr) by rw [← HUC.out, show Utf8.encode 67 = ⟨#[67]⟩ by decide +kernel]; exact used_any (usesT x.op) 67 b2 wr f0)
      obtain ⟨q, hq⟩ : ∃ q, Hid (q = okU c x 3) := ⟨_, rfl⟩
      rw [← hq.out] at HS
      generalize okU c x 2 = p at *
      obtain ⟨u, hu⟩ : ∃ u, Hid (u = useC x.op) := ⟨_, rfl⟩
      rw [← hu.out] at HS HC
      clear hu
      generalize x.c = r at *
      go_wp2_with fail
      refine HC.out.mono ?_
      rintro e w5 ⟨rfl, rfl⟩
      cases u with
      | true =>
        cases p with
        | false =>
          have HQ := hid' (show q = false by rw [HS.out]; rfl)
          go_wp2_with fail
          go_roundw
          case rel => exact ⟨3, by go_num, by omega, by rw [← hq.out, HQ.out], by first | rfl | trivial⟩
          case measure => simp [intOf]
        | true =>
          by_cases h1 : 0 ≤ r
          · have g1 : decide (0 ≤ r) = true := decide_eq_true h1
            have HQ := hid' (show q = decide (r < c.regs) by rw [HS.out]; unfold fld; simp [h1])
            clear h1
            go_wp2_with fail
            go_roundw
            case rel => exact ⟨3, by go_num, by omega, by rw [← hq.out, HQ.out], by first | rfl | trivial⟩
            case measure => simp [intOf]
          · have g1 : decide (0 ≤ r) = false := decide_eq_false h1
            have HQ := hid' (show q = false by rw [HS.out]; unfold fld; simp [h1])
            clear h1
            go_wp2_with fail
            go_roundw
            case rel => exact ⟨3, by go_num, by omega, by rw [← hq.out, HQ.out], by first | rfl | trivial⟩
            case measure => simp [intOf]
      | false =>
        cases p with
        | false =>
          have HQ := hid' (show q = false by rw [HS.out]; rfl)
          go_wp2_with fail
          go_roundw
          case rel => exact ⟨3, by go_num, by omega, by rw [← hq.out, HQ.out], by first | rfl | trivial⟩
          case measure => simp [intOf]
        | true =>
          by_cases h1 : r = 0
          · have g1 : (r == 0) = true := by rw [h1]; rfl
            have HQ := hid' (show q = true by rw [HS.out]; unfold fld; simp [h1])
            clear h1
            go_wp2_with fail
            go_roundw
            case rel => exact ⟨3, by go_num, by omega, by rw [← hq.out, HQ.out], by first | rfl | trivial⟩
            case measure => simp [intOf]
          · have g1 : (r == 0) = false := by rw [beq_eq_false_iff_ne]; exact h1
            have HQ := hid' (show q = false by rw [HS.out]; unfold fld; simp [h1])
            clear h1
            go_wp2_with fail
            go_roundw
            case rel => exact ⟨3, by go_num, by omega, by rw [← hq.out, HQ.out], by first | rfl | trivial⟩
            case measure => simp [intOf]
    · have f0 := bcells H4.out.fb 0 _ rfl
      have x6 := bcells H4.out.is.xb 6 _ rfl
      have c2 := bcells H4.out.is.cb 2 _ rfl
      have HC := hid' (show Calls Tryd.prog 34 #[.string ⟨#[84]⟩, .pointer (some ⟨b2, 0, none⟩)] wr (Ret (.bool (useT x.op)) wr) by rw [← HUT.out]; exact used_any (usesT x.op) 84 b2 wr f0)
      have HS := hid' (show okT c (k : Int) x = (okU c x 3 && toOk c (k : Int) x) from rfl)
      have HTO := hid' (show toOk c (k : Int) x = if useT x.op then decide ((k : Int) < x.to) && decide (x.to < (c.ins.length : Int)) else decide (x.to = 0) from rfl)
      obtain ⟨q, hq⟩ : ∃ q, Hid (q = okT c (k : Int) x) := ⟨_, rfl⟩
      rw [← hq.out] at HS
      generalize toOk c (k : Int) x = pto at *
      generalize okU c x 3 = p at *
      obtain ⟨u, hu⟩ : ∃ u, Hid (u = useT x.op) := ⟨_, rfl⟩
      rw [← hu.out] at HTO HC
      clear hu
      go_wp2_with fail
      refine HC.out.mono ?_
      rintro e w5 ⟨rfl, rfl⟩
      clear HC f0
      go_upto_if 61 with (fail)
      go_cut [7] (fun v wx => v = .bool q ∧ wx = w5)
      case first =>
        cases p with
        | false =>
          have HQ := hid' (show q = false by rw [HS.out]; rfl)
          cases u with
          | true =>
            go_wp2_with fail
            go_meet
            exact ⟨by rw [HQ.out], by first | rfl | trivial⟩
          | false =>
            go_wp2_with fail
            go_meet
            exact ⟨by rw [HQ.out], by first | rfl | trivial⟩
        | true =>
          cases u with
          | true =>
            by_cases h1 : (k : Int) < x.to
            · have g1 : decide ((k : Int) < x.to) = true := decide_eq_true h1
              have HQ := hid' (show q = decide (x.to < (c.ins.length : Int)) by rw [HS.out, HTO.out]; simp [h1])
              clear h1
              go_wp2_with fail
              go_meet
              exact ⟨by rw [HQ.out], by first | rfl | trivial⟩
            · have g1 : decide ((k : Int) < x.to) = false := decide_eq_false h1
              have HQ := hid' (show q = false by rw [HS.out, HTO.out]; simp [h1])
              clear h1
              go_wp2_with fail
              go_meet
              exact ⟨by rw [HQ.out], by first | rfl | trivial⟩
          | false =>
            by_cases h1 : x.to = 0
            · have g1 : (x.to == 0) = true := by rw [h1]; rfl
              have HQ := hid' (show q = true by rw [HS.out, HTO.out]; simp [h1])
              clear h1
              go_wp2_with fail
              go_meet
              exact ⟨by rw [HQ.out], by first | rfl | trivial⟩
            · have g1 : (x.to == 0) = false := by rw [beq_eq_false_iff_ne]; exact h1
              have HQ := hid' (show q = false by rw [HS.out, HTO.out]; simp [h1])
              clear h1
              go_wp2_with fail
              go_meet
              exact ⟨by rw [HQ.out], by first | rfl | trivial⟩
      case rest =>
        obtain ⟨rfl, rfl⟩ := hcut
        clear x6 c2 HTO HS
        have HI := hid' (show insOk c (k : Int) x = (q && (numOk c (k : Int) x && textOk x)) by rw [hq.out]; exact insOk_okT c (k : Int) x)
        have x0 := bcells H4.out.is.xb 0 _ rfl
        have x4 := bcells H4.out.is.xb 4 _ rfl
        have x5 := bcells H4.out.is.xb 5 _ rfl
        have c1 := bcells H4.out.is.cb 1 _ rfl
        have hw3 : (c.waits.length : Int) ≤ 9223372036854775807 := by
          obtain ⟨vw', vi', e, ⟨p', c', e2, ⟨a1, a2⟩, -⟩, -⟩ := H4.out.is.cd
          unfold maxLen at a2; omega
        have hw4 : IntKind.i64.wrap ((c.waits.length : Int) - 1) = (c.waits.length : Int) - 1 := IntWalk.i64_in _ (by omega)
        have HB := hid' H4.out.is.bel
        have hsz := HKX.out.2.s
        clear hi1 hi2 hib j1 j2 hj hq HUA HUB HUC HUT hw3
        rcases (by omega : x.op = 1 ∨ x.op = 2 ∨ x.op = 3 ∨ x.op = 21 ∨ x.op = 22 ∨ x.op = 27 ∨ x.op = 28 ∨ x.op = 29 ∨ (x.op ≠ 1 ∧ x.op ≠ 2 ∧ x.op ≠ 3 ∧ x.op ≠ 21 ∧ x.op ≠ 22 ∧ x.op ≠ 27 ∧ x.op ≠ 28 ∧ x.op ≠ 29)) with hop | hop | hop | hop | hop | hop | hop | hop | hop
        · have q1 : (x.op == 1) = true := by rw [hop]; rfl
          have q2 : (x.op == 2) = false := by rw [hop]; rfl
          have q3 : (x.op == 3) = false := by rw [hop]; rfl
          have q21 : (x.op == 21) = false := by rw [hop]; rfl
          have q22 : (x.op == 22) = false := by rw [hop]; rfl
          have q27 : (x.op == 27) = false := by rw [hop]; rfl
          have q28 : (x.op == 28) = false := by rw [hop]; rfl
          have q29 : (x.op == 29) = false := by rw [hop]; rfl
          have HM := hid' (show numOk c (k : Int) x = within x.n (-1000000000000000) 1000000000000000 by unfold numOk; simp [hop])
          have HX := hid' (show textOk x = decide (x.s = ⟨#[]⟩) by unfold textOk; simp [hop])
          rw [HM.out, HX.out] at HI
          clear hop HM HX
          cases q with
          | false =>
            have HQ := hid' (show insOk c (k : Int) x = false by rw [HI.out]; rfl)
            go_wp2_with fail
            go_ret
            refine ⟨?_, HB.out⟩
            rw [HQ.out]
            rfl
          | true =>
            by_cases hs : x.s = ⟨#[]⟩
            · rw [hs] at x5
              rw [decide_eq_true hs, Bool.and_true, Bool.true_and] at HI
              clear hs
              have HQ := HI
              go_wp2_with fail
              refine (within_any _ _ _ _).mono ?_
              rintro e w7 ⟨rfl, rfl⟩
              go_wp2_with fail
              go_ret
              refine ⟨?_, HB.out⟩
              rw [HQ.out]
              rfl
            · have hnl : x.s.toList.isEmpty = false := nonempty_list hs
              rw [decide_eq_false hs, Bool.and_false, Bool.and_false] at HI
              have HQ := HI
              clear hs
              go_wp2_with fail
              go_ret
              refine ⟨?_, HB.out⟩
              rw [HQ.out]
              rfl
        · have q1 : (x.op == 1) = false := by rw [hop]; rfl
          have q2 : (x.op == 2) = true := by rw [hop]; rfl
          have q3 : (x.op == 3) = false := by rw [hop]; rfl
          have q21 : (x.op == 21) = false := by rw [hop]; rfl
          have q22 : (x.op == 22) = false := by rw [hop]; rfl
          have q27 : (x.op == 27) = false := by rw [hop]; rfl
          have q28 : (x.op == 28) = false := by rw [hop]; rfl
          have q29 : (x.op == 29) = false := by rw [hop]; rfl
          have HM := hid' (show numOk c (k : Int) x = within x.n 0 3660 by unfold numOk; simp [hop])
          have HX := hid' (show textOk x = Led.isName x.s by unfold textOk; simp [hop])
          rw [HM.out, HX.out] at HI
          clear hop HM HX
          cases q with
          | false =>
            have HQ := hid' (show insOk c (k : Int) x = false by rw [HI.out]; rfl)
            go_wp2_with fail
            go_ret
            refine ⟨?_, HB.out⟩
            rw [HQ.out]
            rfl
          | true =>
            obtain ⟨nm, hnm⟩ : ∃ nm, Hid (Led.isName x.s = nm) := ⟨_, hid' rfl⟩
            rw [hnm.out] at HI
            have HN := hid' (fun W => genIsName_any x.s W (by omega))
            rw [hnm.out] at HN
            go_wp2_with fail
            refine (HN.out _).mono ?_
            rintro e w6 ⟨rfl, b6⟩
            have H6 := hid' (H4.out.is.below b6)
            have x4' := bcells H6.out.xb 4 _ rfl
            clear x0 x4 x5 c1 b6
            cases nm with
            | false =>
              have HQ := hid' (show insOk c (k : Int) x = false by rw [HI.out, Bool.and_false]; rfl)
              go_wp2_with fail
              go_ret
              refine ⟨?_, H6.out.bel⟩
              rw [HQ.out]
              rfl
            | true =>
              have HQ := hid' (show insOk c (k : Int) x = within x.n 0 3660 by rw [HI.out, Bool.and_true, Bool.true_and])
              go_wp2_with fail
              refine (within_any _ _ _ _).mono ?_
              rintro e w7 ⟨rfl, rfl⟩
              go_wp2_with fail
              go_ret
              refine ⟨?_, H6.out.bel⟩
              rw [HQ.out]
              rfl
        · have q1 : (x.op == 1) = false := by rw [hop]; rfl
          have q2 : (x.op == 2) = false := by rw [hop]; rfl
          have q3 : (x.op == 3) = true := by rw [hop]; rfl
          have q21 : (x.op == 21) = false := by rw [hop]; rfl
          have q22 : (x.op == 22) = false := by rw [hop]; rfl
          have q27 : (x.op == 27) = false := by rw [hop]; rfl
          have q28 : (x.op == 28) = false := by rw [hop]; rfl
          have q29 : (x.op == 29) = false := by rw [hop]; rfl
          have HM := hid' (show numOk c (k : Int) x = within x.n 0 3660 by unfold numOk; simp [hop])
          have HX := hid' (show textOk x = decide (x.s = ⟨#[]⟩) by unfold textOk; simp [hop])
          rw [HM.out, HX.out] at HI
          clear hop HM HX
          cases q with
          | false =>
            have HQ := hid' (show insOk c (k : Int) x = false by rw [HI.out]; rfl)
            go_wp2_with fail
            go_ret
            refine ⟨?_, HB.out⟩
            rw [HQ.out]
            rfl
          | true =>
            by_cases hs : x.s = ⟨#[]⟩
            · rw [hs] at x5
              rw [decide_eq_true hs, Bool.and_true, Bool.true_and] at HI
              clear hs
              have HQ := HI
              go_wp2_with fail
              refine (within_any _ _ _ _).mono ?_
              rintro e w7 ⟨rfl, rfl⟩
              go_wp2_with fail
              go_ret
              refine ⟨?_, HB.out⟩
              rw [HQ.out]
              rfl
            · have hnl : x.s.toList.isEmpty = false := nonempty_list hs
              rw [decide_eq_false hs, Bool.and_false, Bool.and_false] at HI
              have HQ := HI
              clear hs
              go_wp2_with fail
              go_ret
              refine ⟨?_, HB.out⟩
              rw [HQ.out]
              rfl
        · have q1 : (x.op == 1) = false := by rw [hop]; rfl
          have q2 : (x.op == 2) = false := by rw [hop]; rfl
          have q3 : (x.op == 3) = false := by rw [hop]; rfl
          have q21 : (x.op == 21) = true := by rw [hop]; rfl
          have q22 : (x.op == 22) = false := by rw [hop]; rfl
          have q27 : (x.op == 27) = false := by rw [hop]; rfl
          have q28 : (x.op == 28) = false := by rw [hop]; rfl
          have q29 : (x.op == 29) = false := by rw [hop]; rfl
          have HM := hid' (show numOk c (k : Int) x = within x.n 0 73048 by unfold numOk; simp [hop])
          have HX := hid' (show textOk x = decide (x.s = ⟨#[]⟩) by unfold textOk; simp [hop])
          rw [HM.out, HX.out] at HI
          clear hop HM HX
          cases q with
          | false =>
            have HQ := hid' (show insOk c (k : Int) x = false by rw [HI.out]; rfl)
            go_wp2_with fail
            go_ret
            refine ⟨?_, HB.out⟩
            rw [HQ.out]
            rfl
          | true =>
            by_cases hs : x.s = ⟨#[]⟩
            · rw [hs] at x5
              rw [decide_eq_true hs, Bool.and_true, Bool.true_and] at HI
              clear hs
              have HQ := HI
              go_wp2_with fail
              refine (within_any _ _ _ _).mono ?_
              rintro e w7 ⟨rfl, rfl⟩
              go_wp2_with fail
              go_ret
              refine ⟨?_, HB.out⟩
              rw [HQ.out]
              rfl
            · have hnl : x.s.toList.isEmpty = false := nonempty_list hs
              rw [decide_eq_false hs, Bool.and_false, Bool.and_false] at HI
              have HQ := HI
              clear hs
              go_wp2_with fail
              go_ret
              refine ⟨?_, HB.out⟩
              rw [HQ.out]
              rfl
        · have q1 : (x.op == 1) = false := by rw [hop]; rfl
          have q2 : (x.op == 2) = false := by rw [hop]; rfl
          have q3 : (x.op == 3) = false := by rw [hop]; rfl
          have q21 : (x.op == 21) = false := by rw [hop]; rfl
          have q22 : (x.op == 22) = true := by rw [hop]; rfl
          have q27 : (x.op == 27) = false := by rw [hop]; rfl
          have q28 : (x.op == 28) = false := by rw [hop]; rfl
          have q29 : (x.op == 29) = false := by rw [hop]; rfl
          have HM := hid' (show numOk c (k : Int) x = within x.n 0 73048 by unfold numOk; simp [hop])
          have HX := hid' (show textOk x = decide (x.s = ⟨#[]⟩) by unfold textOk; simp [hop])
          rw [HM.out, HX.out] at HI
          clear hop HM HX
          cases q with
          | false =>
            have HQ := hid' (show insOk c (k : Int) x = false by rw [HI.out]; rfl)
            go_wp2_with fail
            go_ret
            refine ⟨?_, HB.out⟩
            rw [HQ.out]
            rfl
          | true =>
            by_cases hs : x.s = ⟨#[]⟩
            · rw [hs] at x5
              rw [decide_eq_true hs, Bool.and_true, Bool.true_and] at HI
              clear hs
              have HQ := HI
              go_wp2_with fail
              refine (within_any _ _ _ _).mono ?_
              rintro e w7 ⟨rfl, rfl⟩
              go_wp2_with fail
              go_ret
              refine ⟨?_, HB.out⟩
              rw [HQ.out]
              rfl
            · have hnl : x.s.toList.isEmpty = false := nonempty_list hs
              rw [decide_eq_false hs, Bool.and_false, Bool.and_false] at HI
              have HQ := HI
              clear hs
              go_wp2_with fail
              go_ret
              refine ⟨?_, HB.out⟩
              rw [HQ.out]
              rfl
        · have q1 : (x.op == 1) = false := by rw [hop]; rfl
          have q2 : (x.op == 2) = false := by rw [hop]; rfl
          have q3 : (x.op == 3) = false := by rw [hop]; rfl
          have q21 : (x.op == 21) = false := by rw [hop]; rfl
          have q22 : (x.op == 22) = false := by rw [hop]; rfl
          have q27 : (x.op == 27) = true := by rw [hop]; rfl
          have q28 : (x.op == 28) = false := by rw [hop]; rfl
          have q29 : (x.op == 29) = false := by rw [hop]; rfl
          have HM := hid' (show numOk c (k : Int) x = decide (x.n = 0) by unfold numOk; simp [hop])
          have HX := hid' (show textOk x = Led.isCur x.s by unfold textOk; simp [hop])
          rw [HM.out, HX.out] at HI
          clear hop HM HX
          cases q with
          | false =>
            have HQ := hid' (show insOk c (k : Int) x = false by rw [HI.out]; rfl)
            go_wp2_with fail
            go_ret
            refine ⟨?_, HB.out⟩
            rw [HQ.out]
            rfl
          | true =>
            by_cases hn : x.n = 0
            · have g1 : (x.n == 0) = true := by rw [hn]; rfl
              have HQ := hid' (show insOk c (k : Int) x = Led.isCur x.s by rw [HI.out, decide_eq_true hn, Bool.true_and, Bool.true_and])
              clear hn
              go_wp2_with fail
              refine (genIsCur_any x.s _ (by omega)).mono ?_
              rintro e w6 ⟨rfl, b6⟩
              have H6 := hid' (H4.out.is.below b6)
              clear b6
              go_wp2_with fail
              go_ret
              refine ⟨?_, H6.out.bel⟩
              rw [HQ.out]
              rfl
            · have g1 : (x.n == 0) = false := by rw [beq_eq_false_iff_ne]; exact hn
              have HQ := hid' (show insOk c (k : Int) x = false by rw [HI.out, decide_eq_false hn]; rfl)
              clear hn
              go_wp2_with fail
              go_ret
              refine ⟨?_, HB.out⟩
              rw [HQ.out]
              rfl
        · have q1 : (x.op == 1) = false := by rw [hop]; rfl
          have q2 : (x.op == 2) = false := by rw [hop]; rfl
          have q3 : (x.op == 3) = false := by rw [hop]; rfl
          have q21 : (x.op == 21) = false := by rw [hop]; rfl
          have q22 : (x.op == 22) = false := by rw [hop]; rfl
          have q27 : (x.op == 27) = false := by rw [hop]; rfl
          have q28 : (x.op == 28) = true := by rw [hop]; rfl
          have q29 : (x.op == 29) = false := by rw [hop]; rfl
          have HM := hid' (show numOk c (k : Int) x = within x.n 0 ((c.waits.length : Int) - 1) by unfold numOk; simp [hop])
          have HX := hid' (show textOk x = decide (x.s = ⟨#[]⟩) by unfold textOk; simp [hop])
          rw [HM.out, HX.out] at HI
          clear hop HM HX
          cases q with
          | false =>
            have HQ := hid' (show insOk c (k : Int) x = false by rw [HI.out]; rfl)
            go_wp2_with fail
            go_ret
            refine ⟨?_, HB.out⟩
            rw [HQ.out]
            rfl
          | true =>
            by_cases hs : x.s = ⟨#[]⟩
            · rw [hs] at x5
              rw [decide_eq_true hs, Bool.and_true, Bool.true_and] at HI
              clear hs
              have HQ := HI
              go_wp2_with fail
              refine (within_any _ _ _ _).mono ?_
              rintro e w7 ⟨rfl, rfl⟩
              go_wp2_with fail
              go_ret
              refine ⟨?_, HB.out⟩
              rw [HQ.out]
              rfl
            · have hnl : x.s.toList.isEmpty = false := nonempty_list hs
              rw [decide_eq_false hs, Bool.and_false, Bool.and_false] at HI
              have HQ := HI
              clear hs
              go_wp2_with fail
              go_ret
              refine ⟨?_, HB.out⟩
              rw [HQ.out]
              rfl
        · have q1 : (x.op == 1) = false := by rw [hop]; rfl
          have q2 : (x.op == 2) = false := by rw [hop]; rfl
          have q3 : (x.op == 3) = false := by rw [hop]; rfl
          have q21 : (x.op == 21) = false := by rw [hop]; rfl
          have q22 : (x.op == 22) = false := by rw [hop]; rfl
          have q27 : (x.op == 27) = false := by rw [hop]; rfl
          have q28 : (x.op == 28) = false := by rw [hop]; rfl
          have q29 : (x.op == 29) = true := by rw [hop]; rfl
          have HM := hid' (show numOk c (k : Int) x = (within x.n 0 ((c.waits.length : Int) - 1) && decide ((k : Int) < entryAt c x.n)) by unfold numOk; simp [hop])
          have HX := hid' (show textOk x = decide (x.s = ⟨#[]⟩) by unfold textOk; simp [hop])
          rw [HM.out, HX.out] at HI
          clear hop HM HX
          cases q with
          | false =>
            have HQ := hid' (show insOk c (k : Int) x = false by rw [HI.out]; rfl)
            go_wp2_with fail
            go_ret
            refine ⟨?_, HB.out⟩
            rw [HQ.out]
            rfl
          | true =>
            by_cases hs : x.s = ⟨#[]⟩
            · rw [hs] at x5
              rw [decide_eq_true hs, Bool.and_true, Bool.true_and] at HI
              clear hs
              go_wp2_with fail
              refine (within_any _ _ _ _).mono ?_
              rintro e w7 ⟨rfl, rfl⟩
              by_cases hw : within x.n 0 ((c.waits.length : Int) - 1) = true
              · have hn : 0 ≤ x.n ∧ x.n < (c.waits.length : Int) := by unfold within at hw; simp at hw; omega
                have HQ := hid' (show insOk c (k : Int) x = decide ((k : Int) < entryAt c x.n) by rw [HI.out, hw, Bool.true_and])
                rw [hw]
                obtain ⟨wt, hwt⟩ : ∃ wt, c.waits[x.n.toNat]? = some wt := ⟨_, List.getElem?_eq_getElem (by omega)⟩
                rw [show entryAt c x.n = wt.entry by unfold entryAt; rw [hwt]] at HQ
                obtain ⟨wb, wo, rfl, z0, -⟩ := H4.out.is.cd.waitCells hwt
                have hn1 := hn.1
                have hn2 := hn.2
                have g1 : decide (0 ≤ x.n) = true := decide_eq_true hn.1
                have g2 : decide (x.n < (c.waits.length : Int)) = true := decide_eq_true hn.2
                clear hn hw hwt
                go_wp2_with fail
                go_ret
                refine ⟨?_, HB.out⟩
                rw [HQ.out]
                rfl
              · have hw : within x.n 0 ((c.waits.length : Int) - 1) = false := by simpa using hw
                have HQ := hid' (show insOk c (k : Int) x = false by rw [HI.out, hw, Bool.false_and])
                rw [hw]
                go_wp2_with fail
                go_ret
                refine ⟨?_, HB.out⟩
                rw [HQ.out]
                rfl
            · have hnl : x.s.toList.isEmpty = false := nonempty_list hs
              rw [decide_eq_false hs, Bool.and_false, Bool.and_false] at HI
              have HQ := HI
              clear hs
              go_wp2_with fail
              go_ret
              refine ⟨?_, HB.out⟩
              rw [HQ.out]
              rfl
        · have q1 : (x.op == 1) = false := by rw [beq_eq_false_iff_ne]; omega
          have q2 : (x.op == 2) = false := by rw [beq_eq_false_iff_ne]; omega
          have q3 : (x.op == 3) = false := by rw [beq_eq_false_iff_ne]; omega
          have q21 : (x.op == 21) = false := by rw [beq_eq_false_iff_ne]; omega
          have q22 : (x.op == 22) = false := by rw [beq_eq_false_iff_ne]; omega
          have q27 : (x.op == 27) = false := by rw [beq_eq_false_iff_ne]; omega
          have q28 : (x.op == 28) = false := by rw [beq_eq_false_iff_ne]; omega
          have q29 : (x.op == 29) = false := by rw [beq_eq_false_iff_ne]; omega
          have HM := hid' (show numOk c (k : Int) x = decide (x.n = 0) by unfold numOk; simp [hop.1, hop.2.1, hop.2.2.1, hop.2.2.2.1, hop.2.2.2.2.1, hop.2.2.2.2.2.2.1, hop.2.2.2.2.2.2.2])
          have HX := hid' (show textOk x = decide (x.s = ⟨#[]⟩) by unfold textOk; simp [hop.2.1, hop.2.2.2.2.2.1])
          rw [HM.out, HX.out] at HI
          clear hop HM HX
          cases q with
          | false =>
            have HQ := hid' (show insOk c (k : Int) x = false by rw [HI.out]; rfl)
            go_wp2_with fail
            go_ret
            refine ⟨?_, HB.out⟩
            rw [HQ.out]
            rfl
          | true =>
            by_cases hs : x.s = ⟨#[]⟩
            · rw [hs] at x5
              rw [decide_eq_true hs, Bool.and_true, Bool.true_and] at HI
              clear hs
              have HQ := hid' (show insOk c (k : Int) x = (x.n == 0) by rw [HI.out]; by_cases hn : x.n = 0 <;> simp [hn])
              go_wp2_with fail
              go_ret
              refine ⟨?_, HB.out⟩
              rw [HQ.out]
              rfl
            · have hnl : x.s.toList.isEmpty = false := nonempty_list hs
              rw [decide_eq_false hs, Bool.and_false, Bool.and_false] at HI
              have HQ := HI
              clear hs
              go_wp2_with fail
              go_ret
              refine ⟨?_, HB.out⟩
              rw [HQ.out]
              rfl
end Go.Proofs.YtbpcgcmlpgdmbaaDoor

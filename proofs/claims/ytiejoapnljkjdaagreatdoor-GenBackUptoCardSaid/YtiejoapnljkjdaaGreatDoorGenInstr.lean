/- Proved: the reference's instr, as a contract. -/
import Derived.Test.YtiejoapnljkjdaaGreatDoorGenWait
namespace Go.Proofs.YtiejoapnljkjdaaGreatDoor
open Go.RowKit
open Gen
set_option linter.unusedVariables false
set_option linter.unusedSimpArgs false
set_option maxRecDepth 100000
structure ISt (w : World) (b0 b1 : Nat) (vw vi : Value) (c : Gen.Cd) (x : Gen.Ix) (W : World) : Prop where
  bel : Below w.heap.size w W
  cb : CdBox W b0 c.regs vw vi
  xb : IxBox W b1 x
  cd : CdAt W (.agg #[.int .i64 c.regs, vw, vi]) c
theorem ISt.below {w : World} {b0 b1 : Nat} {vw vi : Value} {c : Gen.Cd} {x : Gen.Ix} {W W' : World} (h : ISt w b0 b1 vw vi c x W) (B : Below W.heap.size W W') : ISt w b0 b1 vw vi c x W' :=
  ⟨Below.more h.bel B, box_below B h.cb, box_below B h.xb, h.cd.below B⟩
theorem usesT_size (op : Int) : (Gen.usesT op).size ≤ 1000 := by
  rcases op_cases op with rfl | rfl | rfl | rfl | rfl | rfl | rfl | rfl | rfl | rfl | rfl | rfl | rfl | rfl | rfl | rfl | rfl | rfl | rfl | rfl | rfl | rfl | rfl | rfl | rfl | rfl | rfl | rfl | rfl | rfl | h
  all_goals first
    | decide
    | (rw [usesT_no h]; decide)
theorem ins_and (c : Gen.Cd) (k : Int) (x : Gen.Ix) : insOk c k x = (isOp x.op && (fld (useA x.op) x.a c.regs && (fld (useB x.op) x.b c.regs && (fld (useC x.op) x.c c.regs && (numOk c k x && (textOk x && toOk c k x)))))) := by
  unfold insOk isOp
  generalize decide (1 ≤ x.op) = p1
  generalize decide (x.op ≤ 30) = p2
  generalize fld (useA x.op) x.a c.regs = p3
  generalize fld (useB x.op) x.b c.regs = p4
  generalize fld (useC x.op) x.c c.regs = p5
  generalize toOk c k x = p6
  generalize numOk c k x = p7
  generalize textOk x = p8
  cases p1 <;> cases p2 <;> cases p3 <;> cases p4 <;> cases p5 <;> cases p6 <;> cases p7 <;> cases p8 <;> rfl
set_option maxHeartbeats 8000000 in
theorem instr_any (v : Value) (c : Gen.Cd) (k : Nat) (x : Gen.Ix) (w : World) (h : CdAt w v c) (hx : c.ins[k]? = some x) : Calls Tryz.prog 18 #[v, .int .i64 (k : Int)] w (Gives (.bool (Gen.insOk c (k : Int) x)) w) := by
  have hcd := h
  obtain ⟨vw, vi, rfl, ⟨pw, cw, rfl, _⟩, ⟨pi, ci, rfl, ⟨hi1, hi2⟩, hic⟩, hr⟩ := h
  obtain ⟨ib, io, rfl, hib, ⟨x0, x1, x2, x3, x4, x5, x6⟩, hxf⟩ := hic k x hx
  have hk := (List.getElem?_eq_some_iff.1 hx).1
  obtain ⟨t1, t2, t3⟩ := two_boxes w (.cells #[.int .i64 c.regs, .slice pw c.waits.length cw, .slice (some ⟨ib, io, none⟩) c.ins.length ci] 25) (.cells #[.int .i64 x.op, .int .i64 x.a, .int .i64 x.b, .int .i64 x.c, .int .i64 x.n, .string x.s, .int .i64 x.to] 53)
  have e1 : (w.alloc (.cells #[.int .i64 c.regs, .slice pw c.waits.length cw, .slice (some ⟨ib, io, none⟩) c.ins.length ci] 25)).heap.size = w.heap.size + 1 := by simp
  rw [e1] at t2
  have HS := hid' (show ISt w w.heap.size (w.heap.size + 1) _ _ c x _ from ⟨t3, t1, t2, hcd.below t3⟩)
  have j1 : (0 : Int) ≤ (k : Int) := by omega
  have j2 : (k : Int) < (c.ins.length : Int) := by omega
  have al := fun (a : Addr) (vv : Value) (hh : w.cell? a = some vv) (o : Obj) => (Below.cell ((Below.refl w.heap.size w).alloc (Nat.le_refl _) o) (World.block_lt_of_cell? _ _ hh)).trans hh
  have y0 := fun o => al _ _ x0 o
  have y1 := fun o => al _ _ x1 o
  have y2 := fun o => al _ _ x2 o
  have y3 := fun o => al _ _ x3 o
  have y4 := fun o => al _ _ x4 o
  have y5 := fun o => al _ _ x5 o
  have y6 := fun o => al _ _ x6 o
  have HKX := hid' (And.intro hx hxf)
  have HU := hid' (fun W => uses_any x.op W)
  obtain ⟨u1, u2, u3, u4⟩ := uses_has x.op
  have HUS := hid' (usesT_size x.op)
  have HH := hid' (fun (n : Nat) (W : World) => (has_any (usesT x.op) n W HUS.out).mono (fun e w' h => (⟨h.1, 0, h.2⟩ : e = .returned (.bool (hasB (usesT x.op) n)) ∧ ∃ m, w' = W.drewN m)))
  have HA := hid' (fun (W : World) => show Calls Tryz.prog 48 #[.string (usesT x.op), .int .u8 65] W (fun e w' => e = .returned (.bool (useA x.op)) ∧ ∃ m, w' = W.drewN m) by rw [← u1]; exact HH.out 65 W)
  have HB := hid' (fun (W : World) => show Calls Tryz.prog 48 #[.string (usesT x.op), .int .u8 66] W (fun e w' => e = .returned (.bool (useB x.op)) ∧ ∃ m, w' = W.drewN m) by rw [← u2]; exact HH.out 66 W)
  have HC := hid' (fun (W : World) => show Calls Tryz.prog 48 #[.string (usesT x.op), .int .u8 67] W (fun e w' => e = .returned (.bool (useC x.op)) ∧ ∃ m, w' = W.drewN m) by rw [← u3]; exact HH.out 67 W)
  have HT := hid' (fun (W : World) => show Calls Tryz.prog 48 #[.string (usesT x.op), .int .u8 84] W (Ret (.bool (useT x.op)) W) by rw [← u4]; exact has_any (usesT x.op) 84 W HUS.out)
  have HG := hid' (fun (n : Int) (b : Bool) (W : World) => (register_any n b c.regs W).mono (fun e w' h => (⟨h.1, 0, h.2⟩ : e = .returned (.bool (fld b n c.regs)) ∧ ∃ m, w' = W.drewN m)))
  clear hcd t1 t2 t3 e1 hic hx hr hk al hxf u1 u2 u3 u4
  go_enter Tryz.func18, Tryz.ntmps18
  go_upto_region 2 with (fail)
  obtain ⟨b1, hb1⟩ : ∃ b1, b1 = w.heap.size + 1 := ⟨_, rfl⟩
  rw [← hb1] at HS ⊢
  obtain ⟨b0, hb0⟩ : ∃ b0, b0 = w.heap.size := ⟨_, rfl⟩
  have HS1 := hid' (show ISt w b0 b1 _ _ c x _ by rw [hb0]; exact HS.out)
  rw [← hb0]
  clear hb1 hb0 HS x0 x1 x2 x3 x4 x5 x6 y0 y1 y2 y3 y4 y5 y6
  generalize ((w.alloc (.cells #[.int .i64 c.regs, .slice pw c.waits.length cw, .slice (some ⟨ib, io, none⟩) c.ins.length ci] 25)).alloc (.cells #[.int .i64 x.op, .int .i64 x.a, .int .i64 x.b, .int .i64 x.c, .int .i64 x.n, .string x.s, .int .i64 x.to] 53)) = w2 at *
  have x0 := bcells HS1.out.xb 0 _ rfl
  go_wp2_with fail
  refine (HU.out w2).mono ?_
  rintro e w3 ⟨rfl, rfl⟩
  clear x0
  have x1 := bcells HS1.out.xb 1 _ rfl
  have c0 := bcells HS1.out.cb 0 _ rfl
  go_upto_region 3 with (fail)
  go_quiet (first | (go_at_call 48; exact Calls.quiet_of (HA.out _)) | (go_at_call 47; exact Calls.quiet_of (HG.out _ _ _)))
  obtain ⟨m0, hm0⟩ : ∃ m, m = nq := ⟨_, rfl⟩
  have HS2 := hid' (HS1.out.below (Below.drewn (Below.refl _ _) nq))
  clear x1 c0
  generalize World.drewN w3 nq = w4 at *
  have x1 := bcells HS2.out.xb 2 _ rfl
  have c0 := bcells HS2.out.cb 0 _ rfl
  go_upto_region 4 with (fail)
  go_quiet (first | (go_at_call 48; exact Calls.quiet_of (HB.out _)) | (go_at_call 47; exact Calls.quiet_of (HG.out _ _ _)))
  obtain ⟨m1, hm1⟩ : ∃ m, m = nq := ⟨_, rfl⟩
  have HS3 := hid' (HS2.out.below (Below.drewn (Below.refl _ _) nq))
  clear x1 c0
  generalize World.drewN w4 nq = w5 at *
  have x1 := bcells HS3.out.xb 3 _ rfl
  have c0 := bcells HS3.out.cb 0 _ rfl
  go_upto_region 5 with (fail)
  go_quiet (first | (go_at_call 48; exact Calls.quiet_of (HC.out _)) | (go_at_call 47; exact Calls.quiet_of (HG.out _ _ _)))
  obtain ⟨m2, hm2⟩ : ∃ m, m = nq := ⟨_, rfl⟩
  have HS4 := hid' (HS3.out.below (Below.drewn (Below.refl _ _) nq))
  clear x1 c0
  generalize World.drewN w5 nq = w6 at *
  have c0 := bcells HS4.out.cb 0 _ rfl
  have c1 := bcells HS4.out.cb 1 _ rfl
  have c2 := bcells HS4.out.cb 2 _ rfl
  go_wp2_with fail
  refine (number_any _ c k x w6 HS4.out.cd HKX.out.1).mono ?_
  rintro e w7 ⟨rfl, b7⟩
  have HS5 := hid' (HS4.out.below b7)
  clear c0 c1 c2 b7
  have x0 := bcells HS5.out.xb 0 _ rfl
  have x1 := bcells HS5.out.xb 1 _ rfl
  have x2 := bcells HS5.out.xb 2 _ rfl
  have x3 := bcells HS5.out.xb 3 _ rfl
  have x4 := bcells HS5.out.xb 4 _ rfl
  have x5 := bcells HS5.out.xb 5 _ rfl
  have x6 := bcells HS5.out.xb 6 _ rfl
  go_wp2_with fail
  refine (text_any x w7 HKX.out.2.s).mono ?_
  rintro e w8 ⟨rfl, b8⟩
  have HS7 := hid' (HS5.out.below b8)
  clear x0 x1 x2 x3 x4 x5 x6 b8
  go_wp2_with fail
  refine (HT.out w8).mono ?_
  rintro e w9 ⟨rfl, rfl⟩
  have x6 := bcells HS7.out.xb 6 _ rfl
  have c2 := bcells HS7.out.cb 2 _ rfl
  have hW := ins_and c (k : Int) x
  have HTO := hid' (show toOk c (k : Int) x = if useT x.op then decide ((k : Int) < x.to) && decide (x.to < (c.ins.length : Int)) else decide (x.to = 0) from rfl)
  generalize toOk c (k : Int) x = pto at *
  generalize useT x.op = ut at *
  generalize isOp x.op = p1 at *
  generalize fld (useA x.op) x.a c.regs = p2 at *
  generalize fld (useB x.op) x.b c.regs = p3 at *
  generalize fld (useC x.op) x.c c.regs = p4 at *
  generalize numOk c (k : Int) x = p5 at *
  generalize textOk x = p6 at *
  cases p1 with
  | false =>
    rw [Bool.false_and] at hW
    have HW := hid' hW
    clear hW
    go_wp2_with fail
    go_ret
    refine ⟨?_, HS7.out.bel⟩
    rw [HW.out]
    rfl
  | true =>
    rw [Bool.true_and] at hW
    cases p2 with
    | false =>
      rw [Bool.false_and] at hW
      have HW := hid' hW
      clear hW
      go_wp2_with fail
      go_ret
      refine ⟨?_, HS7.out.bel⟩
      rw [HW.out]
      rfl
    | true =>
      rw [Bool.true_and] at hW
      cases p3 with
      | false =>
        rw [Bool.false_and] at hW
        have HW := hid' hW
        clear hW
        go_wp2_with fail
        go_ret
        refine ⟨?_, HS7.out.bel⟩
        rw [HW.out]
        rfl
      | true =>
        rw [Bool.true_and] at hW
        cases p4 with
        | false =>
          rw [Bool.false_and] at hW
          have HW := hid' hW
          clear hW
          go_wp2_with fail
          go_ret
          refine ⟨?_, HS7.out.bel⟩
          rw [HW.out]
          rfl
        | true =>
          rw [Bool.true_and] at hW
          cases p5 with
          | false =>
            rw [Bool.false_and] at hW
            have HW := hid' hW
            clear hW
            go_wp2_with fail
            go_ret
            refine ⟨?_, HS7.out.bel⟩
            rw [HW.out]
            rfl
          | true =>
            rw [Bool.true_and] at hW
            cases p6 with
            | false =>
              rw [Bool.false_and] at hW
              have HW := hid' hW
              clear hW
              go_wp2_with fail
              go_ret
              refine ⟨?_, HS7.out.bel⟩
              rw [HW.out]
              rfl
            | true =>
              rw [Bool.true_and] at hW
              cases ut with
              | false =>
                have HW := hid' (show insOk c (k : Int) x = (x.to == 0) by rw [hW, HTO.out]; rfl)
                clear hW
                go_wp2_with fail
                go_ret
                refine ⟨?_, HS7.out.bel⟩
                rw [HW.out]
                rfl
              | true =>
                by_cases h1 : (k : Int) < x.to
                · have g1 : decide ((k : Int) < x.to) = true := decide_eq_true h1
                  have HW := hid' (show insOk c (k : Int) x = decide (x.to < (c.ins.length : Int)) by rw [hW, HTO.out, if_pos rfl, g1, Bool.true_and])
                  clear hW h1
                  by_cases h2 : x.to < (c.ins.length : Int)
                  · have g2 : decide (x.to < (c.ins.length : Int)) = true := decide_eq_true h2
                    rw [g2] at HW
                    clear h2
                    go_wp2_with fail
                    go_ret
                    refine ⟨?_, HS7.out.bel⟩
                    rw [HW.out]
                    rfl
                  · have g2 : decide (x.to < (c.ins.length : Int)) = false := decide_eq_false h2
                    rw [g2] at HW
                    clear h2
                    go_wp2_with fail
                    go_ret
                    refine ⟨?_, HS7.out.bel⟩
                    rw [HW.out]
                    rfl
                · have g1 : decide ((k : Int) < x.to) = false := decide_eq_false h1
                  have HW := hid' (show insOk c (k : Int) x = false by rw [hW, HTO.out, if_pos rfl, g1, Bool.false_and])
                  clear hW h1
                  go_wp2_with fail
                  go_ret
                  refine ⟨?_, HS7.out.bel⟩
                  rw [HW.out]
                  rfl
end Go.Proofs.YtiejoapnljkjdaaGreatDoor

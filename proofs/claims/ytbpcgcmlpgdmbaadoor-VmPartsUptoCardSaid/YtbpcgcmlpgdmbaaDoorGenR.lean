/- Proved: gen.Right, as a contract. -/
import Derived.Test.YtbpcgcmlpgdmbaaDoorGenRI
import Derived.Deep.DeepCutAuto
namespace Go.Proofs.YtbpcgcmlpgdmbaaDoor
open Go.RowKit
open Gen
set_option linter.unusedVariables false
set_option linter.unusedSimpArgs false
set_option maxRecDepth 100000
/-- The closure place. -/
theorem place1_any (n : Int) (m b : Nat) (w : World) (hm : w.cell? ⟨b, 0, none⟩ = some (.int .i64 (m : Int))) : Calls Tryd.prog 20 #[.int .i64 n, .pointer (some ⟨b, 0, none⟩)] w (Ret (.bool (decide (0 ≤ n) && decide (n < (m : Int)))) w) := by
  by_cases h1 : 0 ≤ n
  · have g1 : decide (0 ≤ n) = true := decide_eq_true h1
    have e := hid' (show (decide (0 ≤ n) && decide (n < (m : Int))) = decide (n < (m : Int)) by rw [g1, Bool.true_and])
    rw [e.out]
    clear h1
    go_enter Tryd.func20, Tryd.ntmps20
    go_wp2_with fail
    go_ret
    exact ⟨rfl, rfl⟩
  · have g1 : decide (0 ≤ n) = false := decide_eq_false h1
    have e := hid' (show (decide (0 ≤ n) && decide (n < (m : Int))) = false by rw [g1, Bool.false_and])
    rw [e.out]
    clear h1
    go_enter Tryd.func20, Tryd.ntmps20
    go_wp2_with fail
    go_ret
    exact ⟨rfl, rfl⟩
/-- What gen.Right has in its boxes: the bytecode, and how many instructions. -/
structure GSt (w : World) (b0 b3 : Nat) (vw vi : Value) (c : Gen.Cd) (W : World) : Prop where
  r : RSt w b0 vw vi c W
  nb : W.heap[b3]? = some (.cells #[.int .i64 (c.ins.length : Int)] 3 (0, 0))
theorem GSt.below {w : World} {b0 b3 : Nat} {vw vi : Value} {c : Gen.Cd} {W W' : World} (h : GSt w b0 b3 vw vi c W) (B : Below W.heap.size W W') : GSt w b0 b3 vw vi c W' := ⟨h.r.below B, box_below B h.nb⟩
theorem within_no {n lo hi : Int} (h : n < lo ∨ hi < n) : within n lo hi = false := by unfold within; rcases h with h | h <;> simp <;> omega
theorem within_yes {n lo hi : Int} (h : lo ≤ n) (h2 : n ≤ hi) : within n lo hi = true := by unfold within; simp [h, h2]
def named (x : Gen.Wt) : Bool := decide (¬ (x.label = ⟨#[]⟩ ∧ x.first = 0 ∧ x.second = 0))
theorem wait_named (c : Gen.Cd) (x : Gen.Wt) : waitOk c x = (place c x.entry && (within x.day 0 73048 && (bif named x then Led.isName x.label && (place c x.first && place c x.second) else true))) := by
  unfold waitOk
  by_cases hl : x.label = ⟨#[]⟩
  · rw [if_pos hl, hl, show Led.isName (⟨#[]⟩ : ByteArray) = false from rfl, Bool.false_and]
    unfold named
    by_cases hf : x.first = 0 <;> by_cases hs : x.second = 0 <;> simp [hl, hf, hs]
  · rw [if_neg hl, show named x = true by unfold named; simp [hl]]
    rfl
set_option maxHeartbeats 8000000 in
theorem genRight_any (v : Value) (c : Gen.Cd) (w : World) (h : CdAt w v c) : Calls Tryd.prog 10 #[v] w (Gives (.bool (Gen.right c)) w) := by
  have hcd := h
  obtain ⟨vw, vi, rfl, ⟨pw, cw, rfl, ⟨hw1, hw2⟩, -⟩, ⟨pi, ci, rfl, ⟨hi1, hi2⟩, -⟩, hr⟩ := h
  have B0 := (Below.refl w.heap.size w).alloc (Nat.le_refl _) (.cells #[.int .i64 c.regs, .slice pw c.waits.length cw, .slice pi c.ins.length ci] 25)
  have HS := hid' (show RSt w w.heap.size _ _ c _ from ⟨B0, heap_alloc_new w _, hcd.below B0⟩)
  have hi3 : (c.ins.length : Int) ≤ 9223372036854775807 := by unfold maxLen at hi2; omega
  have hw3 : (c.waits.length : Int) ≤ 9223372036854775807 := by unfold maxLen at hw2; omega
  have HIN := hid' hi3
  have HWN := hid' hw3
  clear hcd B0 hi2 hw2 hi3 hw3
  go_enter Tryd.func10, Tryd.ntmps10
  go_upto_region 1 with (fail)
  obtain ⟨b0, hb0⟩ : ∃ b0, b0 = w.heap.size := ⟨_, rfl⟩
  rw [← hb0] at HS ⊢
  clear hb0
  generalize w.alloc (.cells #[.int .i64 c.regs, .slice pw c.waits.length cw, .slice pi c.ins.length ci] 25) = w2 at *
  have c0 := bcells HS.out.cb 0 _ rfl
  have c1 := bcells HS.out.cb 1 _ rfl
  have c2 := bcells HS.out.cb 2 _ rfl
  have HG := hid' (show GSt w b0 w2.heap.size _ _ c (w2.alloc (.cells #[.int .i64 (c.ins.length : Int)] 3)) from ⟨HS.out.below ((Below.refl _ _).alloc (Nat.le_refl _) _), heap_alloc_new _ _⟩)
  go_upto_region 2 with (fail)
  clear c0 c1 c2 HS
  generalize w2.alloc (.cells #[.int .i64 (c.ins.length : Int)] 3) = w3 at *
  generalize w2.heap.size = b3 at *
  have c0 := bcells HG.out.r.cb 0 _ rfl
  have c1 := bcells HG.out.r.cb 1 _ rfl
  have c2 := bcells HG.out.r.cb 2 _ rfl
  have c3 := bcells HG.out.nb 0 _ rfl
  have HBAD := hid' (fun hh => right_head (c := c) hh)
  by_cases h1 : c.regs < 0 ∨ 256 < c.regs
  · have g1 : within c.regs 0 256 = false := within_no h1
    have HW := hid' (HBAD.out (by rcases h1 with h | h; exact .inl h; exact .inr (.inl h)))
    clear h1
    go_wp2_with (first | (go_at_call 19; refine (within_any _ _ _ _).mono ?_; rintro e w' ⟨rfl, rfl⟩))
    go_ret
    refine ⟨?_, HG.out.r.bel⟩
    rw [HW.out]
    rfl
  have g1 : within c.regs 0 256 = true := within_yes (by omega) (by omega)
  by_cases h3 : 250 < c.waits.length
  · have g3 : decide (250 < c.waits.length) = true := decide_eq_true h3
    have g3i : decide ((250 : Int) < (c.waits.length : Int)) = true := decide_eq_true (by omega)
    have HW := hid' (HBAD.out (.inr (.inr (.inl h3))))
    clear h1 h3
    go_wp2_with (first | (go_at_call 19; refine (within_any _ _ _ _).mono ?_; rintro e w' ⟨rfl, rfl⟩))
    go_ret
    refine ⟨?_, HG.out.r.bel⟩
    rw [HW.out]
    rfl
  have g3 : decide (250 < c.waits.length) = false := decide_eq_false h3
  have g3i : decide ((250 : Int) < (c.waits.length : Int)) = false := decide_eq_false (by omega)
  by_cases h4 : c.ins.length < 1 ∨ 16384 < c.ins.length
  · have g4 : within (c.ins.length : Int) 1 16384 = false := within_no (by omega)
    have HW := hid' (HBAD.out (by rcases h4 with h | h; exact .inr (.inr (.inr (.inl h))); exact .inr (.inr (.inr (.inr (.inl h))))))
    clear h1 h3 h4
    go_wp2_with (first | (go_at_call 19; refine (within_any _ _ _ _).mono ?_; rintro e w' ⟨rfl, rfl⟩))
    go_ret
    refine ⟨?_, HG.out.r.bel⟩
    rw [HW.out]
    rfl
  have g4 : within (c.ins.length : Int) 1 16384 = true := within_yes (by omega) (by omega)
  obtain ⟨y, hy⟩ : ∃ y, c.ins[c.ins.length - 1]? = some y := ⟨_, List.getElem?_eq_getElem (by omega)⟩
  have hlast := lastOp_at hy
  obtain ⟨ib, io, rfl, z0⟩ := HG.out.r.cd.insCells hy
  have v1 : IntKind.i64.wrap ((c.ins.length : Int) - 1) = (c.ins.length : Int) - 1 := IntWalk.i64_in _ (by omega)
  have v2 : (0 : Int) ≤ (c.ins.length : Int) - 1 := by omega
  have v3 : (1 : Int) ≤ (c.ins.length : Int) := by omega
  have v4 : (c.ins.length : Int) - 1 < (c.ins.length : Int) := by omega
  have v5 : ((c.ins.length : Int) - 1).toNat = c.ins.length - 1 := by omega
  by_cases h6 : y.op = 30
  case neg =>
    have q1 : (y.op == 30) = false := by rw [beq_eq_false_iff_ne]; exact h6
    have q2 : (y.op != 30) = true := by rw [bne_iff_ne]; exact h6
    have HW := hid' (HBAD.out (.inr (.inr (.inr (.inr (.inr (by rw [hlast]; exact h6)))))))
    clear h1 h3 h4 h6 hy hlast
    go_wp2_with (first | (go_at_call 19; refine (within_any _ _ _ _).mono ?_; rintro e w' ⟨rfl, rfl⟩))
    go_ret
    refine ⟨?_, HG.out.r.bel⟩
    rw [HW.out]
    rfl
  have q1 : (y.op == 30) = true := by rw [h6]; rfl
  have q2 : (y.op != 30) = false := by rw [h6]; rfl
  have HHEAD := hid' (show (0 ≤ c.regs ∧ c.regs ≤ 256) ∧ c.waits.length ≤ 250 ∧ 1 ≤ c.ins.length ∧ c.ins.length ≤ 16384 ∧ lastOp c.ins = 30 from ⟨⟨by omega, by omega⟩, by omega, by omega, by omega, by rw [hlast]; exact h6⟩)
  have HW0 := hid' (show ∀ j, j < 0 → ∀ x, c.waits[j]? = some x → waitOk c x = true from fun j hj => by omega)
  clear h1 h3 h4 h6 hy hlast
  go_wp2_with (first | (go_at_call 19; refine (within_any _ _ _ _).mono ?_; rintro e w' ⟨rfl, rfl⟩))
  go_loopw [41] (fun iv wr => ∃ i : Nat, iv = .int .i64 (i : Int) ∧ i ≤ c.waits.length ∧ Hid (∀ j, j < i → ∀ x, c.waits[j]? = some x → waitOk c x = true) ∧ Hid (GSt w b0 b3 (.slice pw c.waits.length cw) (.slice (some ⟨ib, io, none⟩) c.ins.length ci) c wr)) (fun iv _ => c.waits.length - (intOf iv).toNat)
  case atStart => exact ⟨0, rfl, Nat.zero_le _, HW0, HG⟩
  case round =>
    obtain ⟨i, rfl, hi, HA, HR⟩ := hrel
    clear c0 c1 c2 c3 z0
    have c0 := bcells HR.out.r.cb 0 _ rfl
    have c1 := bcells HR.out.r.cb 1 _ rfl
    have c2 := bcells HR.out.r.cb 2 _ rfl
    have c3 := bcells HR.out.nb 0 _ rfl
    by_cases hin : i < c.waits.length
    · obtain ⟨x, hx⟩ : ∃ x, c.waits[i]? = some x := ⟨_, List.getElem?_eq_getElem hin⟩
      obtain ⟨wb, wo, rfl, ⟨y0, y1, y2, y3, y4⟩, hwf⟩ := HR.out.r.cd.waitCells hx
      have hwn := HWN.out
      have j1 : (0 : Int) ≤ (i : Int) := by omega
      have j2 : (i : Int) < (c.waits.length : Int) := by omega
      have wi : IntKind.i64.wrap ((i : Int) + 1) = (i : Int) + 1 := IntWalk.i64_in _ (by omega)
      have HX := hid' (And.intro hx hwf)
      have HI := hid' hin
      clear hx hwf hin
      go_upto_region 8 with (fail)
      have B6 := (Below.refl wr.heap.size wr).alloc (Nat.le_refl _) (.cells #[.int .i64 x.entry, .int .i64 x.day, .string x.label, .int .i64 x.first, .int .i64 x.second] 56)
      have H6 := hid' (show GSt w b0 b3 _ _ c _ ∧ WtBox _ wr.heap.size x from ⟨HR.out.below B6, heap_alloc_new wr _⟩)
      clear c0 c1 c2 c3 y0 y1 y2 y3 y4 B6 HR
      generalize wr.alloc (.cells #[.int .i64 x.entry, .int .i64 x.day, .string x.label, .int .i64 x.first, .int .i64 x.second] 56) = w6 at *
      generalize wr.heap.size = b6 at *
      have z0 := bcells H6.out.2 0 _ rfl
      have z1 := bcells H6.out.2 1 _ rfl
      have z2 := bcells H6.out.2 2 _ rfl
      have z3 := bcells H6.out.2 3 _ rfl
      have z4 := bcells H6.out.2 4 _ rfl
      go_cut [7] (fun v wx => v = .bool (named x) ∧ wx = w6)
      case first =>
        by_cases hl : x.label = ⟨#[]⟩
        · rw [hl] at z2
          by_cases hf : x.first = 0
          · rw [hf] at z3
            by_cases hs : x.second = 0
            · rw [hs] at z4
              have HN := hid' (show named x = false by unfold named; simp [hl, hf, hs])
              clear hl hf hs
              go_wp2_with fail
              go_meet
              exact ⟨by rw [HN.out], rfl⟩
            · have HN := hid' (show named x = true by unfold named; simp [hs])
              have g : (x.second == 0) = false := by rw [beq_eq_false_iff_ne]; exact hs
              clear hl hf hs
              go_wp2_with fail
              go_meet
              exact ⟨by rw [HN.out], rfl⟩
          · have HN := hid' (show named x = true by unfold named; simp [hf])
            have g : (x.first == 0) = false := by rw [beq_eq_false_iff_ne]; exact hf
            clear hl hf
            go_wp2_with fail
            go_meet
            exact ⟨by rw [HN.out], rfl⟩
        · have HN := hid' (show named x = true by unfold named; simp [hl])
          have hnl : x.label.toList.isEmpty = false := nonempty_list hl
          clear hl
          go_wp2_with fail
          go_meet
          exact ⟨by rw [HN.out], rfl⟩
      case rest =>
        obtain ⟨rfl, rfl⟩ := hcut
        clear z0 z1 z2 z3 z4
        have z0 := bcells H6.out.2 0 _ rfl
        have z1 := bcells H6.out.2 1 _ rfl
        have z2 := bcells H6.out.2 2 _ rfl
        have HP := hid' (fun (n : Int) (W : World) (B : Below wc.heap.size wc W) => (show Calls Tryd.prog 20 #[.int .i64 n, .pointer (some ⟨b3, 0, none⟩)] W (Ret (.bool (place c n)) W) from place1_any n c.ins.length b3 W (bcells (box_below B H6.out.1.nb) 0 _ rfl)))
        have HIS := hid' (fun W => genIsName_any x.label W (by have := HX.out.2.label; omega))
        have HWO := hid' (wait_named c x)
        obtain ⟨ok, hok⟩ : ∃ ok, Hid (ok = waitOk c x) := ⟨_, rfl⟩
        rw [← hok.out] at HWO
        have HPE := hid' (HP.out x.entry)
        have HPF := hid' (HP.out x.first)
        have HPS := hid' (HP.out x.second)
        have HWI := hid' (fun W => within_any x.day 0 73048 W)
        generalize place c x.entry = p1 at *
        generalize place c x.first = p4 at *
        generalize place c x.second = p5 at *
        generalize within x.day 0 73048 = p2 at *
        generalize named x = nm at *
        generalize Led.isName x.label = p3 at *
        clear HP
        go_upto_region 9 with (fail)
        go_cut [85] (fun v wx => v = .bool (!ok) ∧ Hid (Below wc.heap.size wc wx))
        case first =>
          cases p1 with
          | false =>
            have HQ := hid' (show ok = false by rw [HWO.out]; rfl)
            go_wp2_with (first | (go_at_call 20; refine (HPE.out _ (Below.refl _ _)).mono ?_; rintro e w' ⟨rfl, rfl⟩))
            go_meet
            exact ⟨by rw [HQ.out]; rfl, Below.refl _ _⟩
          | true =>
            cases p2 with
            | false =>
              have HQ := hid' (show ok = false by rw [HWO.out]; rfl)
              go_wp2_with (first | (go_at_call 20; refine (HPE.out _ (Below.refl _ _)).mono ?_; rintro e w' ⟨rfl, rfl⟩) | (go_at_call 19; refine (HWI.out _).mono ?_; rintro e w' ⟨rfl, rfl⟩))
              go_meet
              exact ⟨by rw [HQ.out]; rfl, Below.refl _ _⟩
            | true =>
              cases nm with
              | false =>
                have HQ := hid' (show ok = true by rw [HWO.out]; rfl)
                go_wp2_with (first | (go_at_call 20; refine (HPE.out _ (Below.refl _ _)).mono ?_; rintro e w' ⟨rfl, rfl⟩) | (go_at_call 19; refine (HWI.out _).mono ?_; rintro e w' ⟨rfl, rfl⟩))
                go_meet
                exact ⟨by rw [HQ.out]; rfl, Below.refl _ _⟩
              | true =>
                go_wp2_with (first | (go_at_call 20; refine (HPE.out _ (Below.refl _ _)).mono ?_; rintro e w' ⟨rfl, rfl⟩) | (go_at_call 19; refine (HWI.out _).mono ?_; rintro e w' ⟨rfl, rfl⟩))
                refine (HIS.out _).mono ?_
                rintro e w8 ⟨rfl, b8⟩
                have y3 := bcells (box_below b8 H6.out.2) 3 _ rfl
                have y4 := bcells (box_below b8 H6.out.2) 4 _ rfl
                have HF8 := hid' (HPF.out w8 b8)
                have HS8 := hid' (HPS.out w8 b8)
                have B8 := hid' b8
                clear b8 z0 z1 z2
                cases p3 with
                | false =>
                  have HQ := hid' (show ok = false by rw [HWO.out]; rfl)
                  go_wp2_with fail
                  go_meet
                  exact ⟨by rw [HQ.out]; rfl, B8⟩
                | true =>
                  go_wp2_with fail
                  refine HF8.out.mono ?_
                  rintro e w9 ⟨rfl, rfl⟩
                  cases p4 with
                  | false =>
                    have HQ := hid' (show ok = false by rw [HWO.out]; rfl)
                    go_wp2_with fail
                    go_meet
                    exact ⟨by rw [HQ.out]; rfl, B8⟩
                  | true =>
                    have HQ := hid' (show ok = p5 by rw [HWO.out]; rfl)
                    go_wp2_with fail
                    refine HS8.out.mono ?_
                    rintro e w10 ⟨rfl, rfl⟩
                    go_wp2_with fail
                    go_meet
                    exact ⟨by rw [HQ.out], B8⟩
        case rest =>
          obtain ⟨rfl, hb⟩ := hcut
          have HR2 := hid' (H6.out.1.below hb.out)
          clear hb z0 z1 z2 HIS HPE HPF HPS HWI H6 HWO
          cases ok with
          | false =>
            have HW := hid' (right_wait HX.out.1 hok.out.symm)
            go_wp2_with fail
            go_ret
            refine ⟨?_, HR2.out.r.bel⟩
            rw [HW.out]
            rfl
          | true =>
            have HA2 := hid' (show ∀ j, j < i + 1 → ∀ z, c.waits[j]? = some z → waitOk c z = true from fun j hj z hz => by
              rcases Nat.lt_or_ge j i with h1 | h1
              · exact HA.out j h1 z hz
              · obtain rfl : j = i := by omega
                have := HX.out.1
                rw [hz] at this
                cases this
                exact hok.out.symm)
            go_wp2_with fail
            go_roundw
            case rel => exact ⟨i + 1, by go_num, by have := HI.out; omega, HA2, HR2⟩
            case measure => have := HI.out; simp [intOf]; omega
    · obtain rfl : i = c.waits.length := by omega
      have g9 : decide (c.waits.length < c.waits.length) = false := by simp
      have HI0 := hid' (show ∀ (j : Nat), j < 0 → ∀ x, c.ins[j]? = some x → insOk c (j : Int) x = true from fun j hj => by omega)
      clear hin
      go_wp2_with fail
      go_loopw [90] (fun iv wz => ∃ i : Nat, iv = .int .i64 (i : Int) ∧ i ≤ c.ins.length ∧ Hid (∀ (j : Nat), j < i → ∀ x, c.ins[j]? = some x → insOk c (j : Int) x = true) ∧ Hid (GSt w b0 b3 (.slice pw c.waits.length cw) (.slice (some ⟨ib, io, none⟩) c.ins.length ci) c wz)) (fun iv _ => c.ins.length - (intOf iv).toNat)
      case atStart => exact ⟨0, rfl, Nat.zero_le _, HI0, HR⟩
      case round =>
        obtain ⟨i, rfl, hi, HJ, HV⟩ := hrel
        clear c0 c1 c2 c3
        have c0 := bcells HV.out.r.cb 0 _ rfl
        have c1 := bcells HV.out.r.cb 1 _ rfl
        have c2 := bcells HV.out.r.cb 2 _ rfl
        by_cases hin : i < c.ins.length
        · obtain ⟨x, hx⟩ : ∃ x, c.ins[i]? = some x := ⟨_, List.getElem?_eq_getElem hin⟩
          have hwn := HIN.out
          have j1 : (0 : Int) ≤ (i : Int) := by omega
          have j2 : (i : Int) < (c.ins.length : Int) := by omega
          have wi : IntKind.i64.wrap ((i : Int) + 1) = (i : Int) + 1 := IntWalk.i64_in _ (by omega)
          have g8 : decide (i < c.ins.length) = true := decide_eq_true hin
          have HX := hid' hx
          have HI := hid' hin
          clear hx hin
          go_wp2_with fail
          refine (rightInstr_any _ c i x _ HV.out.r.cd HX.out).mono ?_
          rintro e w6 ⟨rfl, b6⟩
          have HR2 := hid' (HV.out.below b6)
          clear b6 c0 c1 c2
          cases hok : insOk c (i : Int) x with
          | false =>
            have HW := hid' (right_ins HX.out hok)
            clear hok
            go_wp2_with fail
            go_ret
            refine ⟨?_, HR2.out.r.bel⟩
            rw [HW.out]
            rfl
          | true =>
            have HA2 := hid' (show ∀ (j : Nat), j < i + 1 → ∀ z, c.ins[j]? = some z → insOk c (j : Int) z = true from fun j hj z hz => by
              rcases Nat.lt_or_ge j i with h1 | h1
              · exact HJ.out j h1 z hz
              · obtain rfl : j = i := by omega
                have := HX.out
                rw [hz] at this
                cases this
                exact hok)
            clear hok
            go_wp2_with fail
            go_roundw
            case rel => exact ⟨i + 1, by go_num, by have := HI.out; omega, HA2, HR2⟩
            case measure => have := HI.out; simp [intOf]; omega
        · obtain rfl : i = c.ins.length := by omega
          have g8 : decide (c.ins.length < c.ins.length) = false := by simp
          obtain ⟨k1, k2, k3, k4, k5⟩ := HHEAD.out
          have HW := hid' (right_all k1 k2 k3 k4 k5 (fun j x hx => HA.out j (List.getElem?_eq_some_iff.1 hx).1 x hx) (fun j x hx => HJ.out j (List.getElem?_eq_some_iff.1 hx).1 x hx))
          clear hin k1 k2 k3 k4 k5
          go_wp2_with fail
          go_ret
          refine ⟨?_, HV.out.r.bel⟩
          rw [HW.out]
          rfl
end Go.Proofs.YtbpcgcmlpgdmbaaDoor

/- Proved: the reference's Decode of a bytecode, as a contract. -/
import Derived.Test.YtiejoapnljkjdaaGreatDoorGenRefRd

namespace Go.Proofs.YtiejoapnljkjdaaGreatDoor
open Go.RowKit
set_option linter.unusedVariables false
set_option linter.unusedSimpArgs false
set_option maxRecDepth 100000
/-- Decode's world: the box of the result, the reader, the bytecode so far. -/
structure RefSt (w : World) (b2 rb cb : Nat) (v0 : Value) (a : Nat) (ok : Bool) (regs : Int) (vw vi : Value) (lw : List Gen.Wt) (li : List Gen.Ix) (W : World) : Prop where
  bel : Below w.heap.size w W
  rd : RfBox W rb v0 a ok
  kc : CdBox W cb regs vw vi
  kr : CdBox W b2 0 (.slice none 0 0) (.slice none 0 0)
  ws : WtRow (cb + 1) W vw lw
  is : IxRow (cb + 1) W vi li
  lt : w.heap.size ≤ b2 ∧ b2 < rb ∧ rb < cb
/-- Another block grows: all else is kept. -/
theorem RefSt.other {w : World} {b2 rb cb : Nat} {v0 : Value} {a : Nat} {ok : Bool} {regs : Int} {vw vi : Value} {lw : List Gen.Wt} {li : List Gen.Ix} {W W' : World} (h : RefSt w b2 rb cb v0 a ok regs vw vi lw li W) {k : Nat} (g : W.grownBy W' (some k))
    (h1 : w.heap.size ≤ k) (h2 : k ≠ b2) (h3 : k ≠ rb) (h4 : k ≠ cb) (h5 : vw.ownBlock ≠ some k) (h6 : vi.ownBlock ≠ some k) : RefSt w b2 rb cb v0 a ok regs vw vi lw li W' :=
  ⟨below_grown h.bel g h1 h.bel.size, box_grown g (Ne.symm h3) h.rd, box_grown g (Ne.symm h4) h.kc, box_grown g (Ne.symm h2) h.kr, World.ownsRow.kept h.ws g (.inr h5), World.ownsRow.kept h.is g (.inr h6), h.lt⟩
/-- The reader reads on. -/
theorem RefSt.read {w : World} {b2 rb cb : Nat} {v0 : Value} {a : Nat} {ok : Bool} {regs : Int} {vw vi : Value} {lw : List Gen.Wt} {li : List Gen.Ix} {W W' : World} (h : RefSt w b2 rb cb v0 a ok regs vw vi lw li W) {a' : Nat} {ok' : Bool} (g : W.grownBy W' (some rb)) (r : RfBox W' rb v0 a' ok') : RefSt w b2 rb cb v0 a' ok' regs vw vi lw li W' := by
  have hl := h.lt
  exact ⟨below_grown h.bel g (by omega) h.bel.size, r, box_grown g (by omega) h.kc, box_grown g (by omega) h.kr, World.ownsRow.kept h.ws g (.inr (own_lt h.ws (by omega))), World.ownsRow.kept h.is g (.inr (own_lt h.is (by omega))), h.lt⟩
theorem RefSt.below {w : World} {b2 rb cb : Nat} {v0 : Value} {a : Nat} {ok : Bool} {regs : Int} {vw vi : Value} {lw : List Gen.Wt} {li : List Gen.Ix} {W W' : World} (h : RefSt w b2 rb cb v0 a ok regs vw vi lw li W) (b : Below W.heap.size W W') : RefSt w b2 rb cb v0 a ok regs vw vi lw li W' := by
  have hl := h.lt
  exact h.read (grown_of_below b _) (box_below b h.rd)
theorem RefSt.addW {w : World} {b2 rb cb : Nat} {v0 : Value} {a : Nat} {ok : Bool} {regs : Int} {vw vi v' : Value} {lw lw' : List Gen.Wt} {li : List Gen.Ix} {W W' : World} (h : RefSt w b2 rb cb v0 a ok regs vw vi lw li W)
    (row : WtRow (cb + 1) W' v' lw') (g : W.grownBy W' vw.ownBlock) (hn : vi.ownBlock = none) : RefSt w b2 rb cb v0 a ok regs v' vi lw' li (W'.setCell ⟨cb, 1, none⟩ v') := by
  have hl := h.lt
  have k1 := fun (b : Nat) (o : Obj) (hb : b < cb + 1) (e : W.heap[b]? = some o) => (g.block b (lt_of_block e) (fun e => own_lt h.ws hb e.symm)).trans e
  have gs := grown_set W' cb 1 v'
  have hc : W'.heap.size ≥ W.heap.size := g.size
  refine ⟨?_, box_grown gs (by omega) (k1 rb _ (by omega) h.rd), ?_, box_grown gs (by omega) (k1 b2 _ (by omega) h.kr), World.ownsRow.kept row gs (.inr (own_lt row (by omega))), World.ownsRow.kept (World.ownsRow.kept h.is g (.inl hn)) gs (.inl hn), h.lt⟩
  · refine below_grown (h.bel.trans ⟨g.os, g.tape, g.output, g.size, fun k hk => g.block k (Nat.lt_of_lt_of_le hk h.bel.size) (fun e => own_lt h.ws (by omega) e.symm)⟩) gs (by omega) (Nat.le_trans h.bel.size g.size)
  · exact heap_setCell_same W' cb 1 _ _ v' (k1 cb _ (by omega) h.kc)
theorem RefSt.addI {w : World} {b2 rb cb : Nat} {v0 : Value} {a : Nat} {ok : Bool} {regs : Int} {vw vi v' : Value} {lw : List Gen.Wt} {li li' : List Gen.Ix} {W W' : World} (h : RefSt w b2 rb cb v0 a ok regs vw vi lw li W)
    (row : IxRow (cb + 1) W' v' li') (g : W.grownBy W' vi.ownBlock) : RefSt w b2 rb cb v0 a ok regs vw v' lw li' (W'.setCell ⟨cb, 2, none⟩ v') := by
  have hl := h.lt
  have k1 := fun (b : Nat) (o : Obj) (hb : b < cb + 1) (e : W.heap[b]? = some o) => (g.block b (lt_of_block e) (fun e => own_lt h.is hb e.symm)).trans e
  have gs := grown_set W' cb 2 v'
  refine ⟨?_, box_grown gs (by omega) (k1 rb _ (by omega) h.rd), ?_, box_grown gs (by omega) (k1 b2 _ (by omega) h.kr), ?_, World.ownsRow.kept row gs (.inr (own_lt row (by omega))), h.lt⟩
  · refine below_grown (h.bel.trans ⟨g.os, g.tape, g.output, g.size, fun k hk => g.block k (Nat.lt_of_lt_of_le hk h.bel.size) (fun e => own_lt h.is (by omega) e.symm)⟩) gs (by omega) (Nat.le_trans h.bel.size g.size)
  · exact heap_setCell_same W' cb 2 _ _ v' (k1 cb _ (by omega) h.kc)
  · have hw := World.ownsRow.kept h.ws g (row_ne h.ws h.is (by decide))
    exact World.ownsRow.kept hw gs (.inr (own_lt hw (by omega)))
theorem RefSt.fin {w : World} {b2 rb cb : Nat} {v0 : Value} {a : Nat} {ok : Bool} {regs : Int} {vw vi : Value} {lw : List Gen.Wt} {li : List Gen.Ix} {W : World} (h : RefSt w b2 rb cb v0 a ok regs vw vi lw li W) (r : Int) (x y : Value) :
    CdBox (((W.setCell ⟨b2, 0, none⟩ (.int .i64 r)).setCell ⟨b2, 1, none⟩ x).setCell ⟨b2, 2, none⟩ y) b2 r x y ∧ W.grownBy (((W.setCell ⟨b2, 0, none⟩ (.int .i64 r)).setCell ⟨b2, 1, none⟩ x).setCell ⟨b2, 2, none⟩ y) (some b2) :=
  ⟨heap_setCell_same _ b2 2 _ _ y (heap_setCell_same _ b2 1 _ _ x (heap_setCell_same W b2 0 _ _ (.int .i64 r) h.kr)), grown_trans (grown_trans (grown_set _ b2 0 _) (grown_set _ b2 1 _)) (grown_set _ b2 2 _)⟩

set_option maxHeartbeats 8000000 in
theorem refDecode_any (v : Value) (l : List UInt8) (w : World) (hv : Reads w v (nums l)) (hl : l.length ≤ 140737488355300) : Calls Tryz.prog 13 #[v] w (GenDecPost l w) := by
  obtain ⟨p, c, rfl⟩ := hv.len
  rw [nums_length] at *
  have HV := hid' (fun (W : World) (b : Below w.heap.size w W) => hv.below b)
  have HL := hid' hl
  have hli : (l.length : Int) ≤ 140737488355300 := by omega
  have hB0 : Below w.heap.size w ((w.alloc (.cells #[.int .i64 0, .slice none 0 0, .slice none 0 0] 25)).alloc (.cells #[.slice p l.length c, .int .i64 0, .bool false] 76)) := ((Below.refl _ _).alloc (Nat.le_refl _) _).alloc (by simp) _
  have hRd : RfBox ((w.alloc (.cells #[.int .i64 0, .slice none 0 0, .slice none 0 0] 25)).alloc (.cells #[.slice p l.length c, .int .i64 0, .bool false] 76)) (w.heap.size + 1) (.slice p l.length c) 0 true := by
    have := heap_alloc_new (w.alloc (.cells #[.int .i64 0, .slice none 0 0, .slice none 0 0] 25)) (.cells #[.slice p l.length c, .int .i64 0, .bool false] 76)
    rwa [World.size_alloc] at this
  have hKr : CdBox ((w.alloc (.cells #[.int .i64 0, .slice none 0 0, .slice none 0 0] 25)).alloc (.cells #[.slice p l.length c, .int .i64 0, .bool false] 76)) w.heap.size 0 (.slice none 0 0) (.slice none 0 0) :=
    (Below.heap_alloc _ _ _ (by simp)).trans (heap_alloc_new w _)
  have HI0 := hid' (show Gen.Inv l (Gen.bnd Gen.rdI fun r => Gen.bnd (Gen.rdN 250) fun n => Gen.bnd (Gen.rdMany Gen.rdW n) fun w => Gen.kM r ([] ++ w)) 0 true from rfl)
  have H0 := hid' (And.intro hB0 (And.intro hRd hKr))
  clear hv hl hB0 hRd hKr
  go_enter Tryz.func13, Tryz.ntmps13
  go_wp2_with fail
  refine (rfInt_any l (w.heap.size + 1) (.slice p l.length c) 0 true _ H0.out.2.1 (HV.out _ H0.out.1) HL.out).mono ?_
  rintro e w2 ⟨rfl, hr2, g2⟩
  have HI1 := hid' HI0.out.int'
  have hb2 := below_grown H0.out.1 g2 (by omega) H0.out.1.size
  have hk2 := box_grown g2 (by omega) H0.out.2.2
  clear g2 HI0 H0
  have HNV := hid' (Gen.vI_in l 0 true)
  generalize Gen.vI l 0 true = regs at *
  generalize Gen.nI l 0 true = a1 at *
  generalize Gen.oI l 0 true = o1 at *
  have wreg : IntKind.i64.wrap regs = regs := IntWalk.i64_in _ HNV.out
  have hS : RefSt w w.heap.size (w.heap.size + 1) w2.heap.size (.slice p l.length c) a1 o1 regs (.slice none 0 0) (.slice none 0 0) [] [] (w2.alloc (.cells #[.int .i64 regs, .slice none 0 0, .slice none 0 0] 25)) :=
    ⟨hb2.trans ((Below.refl _ _).alloc hb2.size _), (Below.heap_alloc _ _ _ (lt_of_block hr2)).trans hr2, heap_alloc_new _ _, (Below.heap_alloc _ _ _ (lt_of_block hk2)).trans hk2, World.ownsRow_nil _ _ _ _, World.ownsRow_nil _ _ _ _, ⟨Nat.le_refl _, by omega, lt_of_block hr2⟩⟩
  have HS := hid' hS
  clear hS hb2 hk2 hr2
  go_upto_region 3 with (fail)
  generalize w2.alloc (.cells #[.int .i64 regs, .slice none 0 0, .slice none 0 0] 25) = w3 at *
  generalize w2.heap.size = cb at *
  obtain ⟨rb, hrb⟩ : ∃ rb, rb = w.heap.size + 1 := ⟨_, rfl⟩
  obtain ⟨b2, hb2⟩ : ∃ b, b = w.heap.size := ⟨_, rfl⟩
  rw [← hrb] at HS ⊢
  rw [← hb2] at HS ⊢
  clear hrb hb2
  go_wp2_with fail
  refine (rfCount_any l 250 rb (.slice p l.length c) a1 o1 _ HS.out.rd (HV.out _ HS.out.bel) HL.out).mono ?_
  rintro e w4 ⟨rfl, hr4, g4⟩
  have HS4 := hid' (HS.out.read g4 hr4)
  have HI2 := hid' HI1.out.count
  have hn0 := Gen.vC_le l a1 250 o1
  clear g4 hr4 HS HI1
  generalize Gen.nC l a1 250 o1 = a2 at *
  generalize Gen.oC l a1 250 o1 = o2 at *
  generalize Gen.vC l a1 250 o1 = n0 at *
  have HF0 := hid' (show ∀ x ∈ ([] : List Gen.Wt), WtFits x from fun x h => by cases h)
  have HN0 := hid' (show 0 + n0 = n0 ∧ ([] : List Gen.Wt).length = 0 from ⟨by omega, rfl⟩)
  go_wp2_with fail
  go_loopw [8] (fun iv wr => ∃ (i n a : Nat) (ok : Bool) (vw : Value) (lw : List Gen.Wt), iv = .int .i64 (i : Int) ∧ Hid (RefSt w b2 rb cb (.slice p l.length c) a ok regs vw (.slice none 0 0) lw [] wr) ∧ Hid (Gen.Inv l (Gen.bnd (Gen.rdMany Gen.rdW n) fun w => Gen.kM regs (lw ++ w)) a ok) ∧ Hid (i + n = n0 ∧ lw.length = i) ∧ Hid (∀ x ∈ lw, WtFits x)) (fun iv _ => n0 - (intOf iv).toNat)
  case atStart => exact ⟨0, n0, a2, o2, _, [], rfl, HS4, HI2, HN0, HF0⟩
  case round =>
    obtain ⟨i, n, a, ok, vw, lw, rfl, HS, HI, HN, HF⟩ := hrel
    clear HS4 HI2 HN0 HF0
    have r2 := bcells HS.out.rd 2 _ rfl
    by_cases ht : 0 < n ∧ ok = true
    · obtain ⟨hn, rfl⟩ := ht
      obtain ⟨n, rfl⟩ : ∃ m, n = m + 1 := ⟨n - 1, by omega⟩
      have HI3 := hid' HI.out.manyW
      have hin : i < n0 := by have := HN.out.1; omega
      have g1 : decide ((i : Int) < (n0 : Int)) = true := decide_eq_true (by omega)
      have g2 : decide (i < n0) = true := decide_eq_true hin
      have wi : IntKind.i64.wrap ((i : Int) + 1) = (i : Int) + 1 := IntWalk.i64_in _ (by omega)
      have HIN := hid' hin
      have H8 := HS
      clear HI hn HS hin
      go_upto_region 7 with (fail)
      clear r2
      go_wp2_with fail
      refine (rfInt_any l rb (.slice p l.length c) a true _ H8.out.rd (HV.out _ H8.out.bel) HL.out).mono ?_
      rintro e wq ⟨rfl, hr, hg⟩
      have hS := H8.out.read hg hr
      have hI := HI3.out.int'
      clear H8 HI3
      have H8 := hid' hS
      have HI3 := hid' hI
      have HV_e1 := hid' (Gen.vI_in l a true)
      clear hS hI hr hg
      generalize Gen.vI l a true = e1 at *
      generalize Gen.nI l a true = m1 at *
      generalize Gen.oI l a true = p1 at *
      have w_e1 : IntKind.i64.wrap e1 = e1 := IntWalk.i64_in _ HV_e1.out
      go_wp2_with fail
      refine (rfInt_any l rb (.slice p l.length c) m1 p1 _ H8.out.rd (HV.out _ H8.out.bel) HL.out).mono ?_
      rintro e wq ⟨rfl, hr, hg⟩
      have hS := H8.out.read hg hr
      have hI := HI3.out.int'
      clear H8 HI3
      have H8 := hid' hS
      have HI3 := hid' hI
      have HV_e2 := hid' (Gen.vI_in l m1 p1)
      clear hS hI hr hg
      generalize Gen.vI l m1 p1 = e2 at *
      generalize Gen.nI l m1 p1 = m2 at *
      generalize Gen.oI l m1 p1 = p2 at *
      have w_e2 : IntKind.i64.wrap e2 = e2 := IntWalk.i64_in _ HV_e2.out
      go_wp2_with fail
      refine (rfText_any l rb (.slice p l.length c) m2 p2 _ H8.out.rd (HV.out _ H8.out.bel) HL.out).mono ?_
      rintro e wq ⟨rfl, hr, hg⟩
      have hS := H8.out.read hg hr
      have hI := HI3.out.text'
      clear H8 HI3
      have H8 := hid' hS
      have HI3 := hid' hI
      have HV_e3 := hid' (Gen.vS_len l m2 p2)
      clear hS hI hr hg
      generalize Gen.vS l m2 p2 = e3 at *
      generalize Gen.nS l m2 p2 = m3 at *
      generalize Gen.oS l m2 p2 = p3 at *
      go_wp2_with fail
      refine (rfInt_any l rb (.slice p l.length c) m3 p3 _ H8.out.rd (HV.out _ H8.out.bel) HL.out).mono ?_
      rintro e wq ⟨rfl, hr, hg⟩
      have hS := H8.out.read hg hr
      have hI := HI3.out.int'
      clear H8 HI3
      have H8 := hid' hS
      have HI3 := hid' hI
      have HV_e4 := hid' (Gen.vI_in l m3 p3)
      clear hS hI hr hg
      generalize Gen.vI l m3 p3 = e4 at *
      generalize Gen.nI l m3 p3 = m4 at *
      generalize Gen.oI l m3 p3 = p4 at *
      have w_e4 : IntKind.i64.wrap e4 = e4 := IntWalk.i64_in _ HV_e4.out
      go_wp2_with fail
      refine (rfInt_any l rb (.slice p l.length c) m4 p4 _ H8.out.rd (HV.out _ H8.out.bel) HL.out).mono ?_
      rintro e wq ⟨rfl, hr, hg⟩
      have hS := H8.out.read hg hr
      have hI := HI3.out.int'
      clear H8 HI3
      have H8 := hid' hS
      have HI3 := hid' hI
      have HV_e5 := hid' (Gen.vI_in l m4 p4)
      clear hS hI hr hg
      generalize Gen.vI l m4 p4 = e5 at *
      generalize Gen.nI l m4 p4 = m5 at *
      generalize Gen.oI l m4 p4 = p5 at *
      have w_e5 : IntKind.i64.wrap e5 = e5 := IntWalk.i64_in _ HV_e5.out
      have c1 := bcells H8.out.kc 1 _ rfl
      obtain ⟨pv, cv, rfl⟩ := row_form H8.out.ws
      go_wp2_with (refine append_wt rfl _ _ rfl (cb + 1) (.slice pv lw.length cv) lw rfl H8.out.ws ⟨e1, e2, e3, e4, e5⟩ rfl (by have := HN.out; omega) (lt_of_block H8.out.kc) (fun v' w' h1 h2 => ?_); refine halt' ?_)
      obtain ⟨pv', mv', cv', rfl⟩ := row_form3 h1
      have hk := (h2.block cb (lt_of_block H8.out.kc) (fun e => own_lt H8.out.ws (by omega) e.symm)).trans H8.out.kc
      have y1 := bcells hk 1 _ rfl
      have y2 := frozen_of (o := 1) hk
      have HS9 := hid' (H8.out.addW h1 h2 rfl)
      have HF9 := hid' (show ∀ x ∈ lw ++ [(⟨e1, e2, e3, e4, e5⟩ : Gen.Wt)], WtFits x from fun x hx => by
        rcases List.mem_append.1 hx with h | h
        · exact HF.out x h
        · rw [List.mem_singleton] at h
          subst h
          exact ⟨HV_e1.out, HV_e2.out, by have := HV_e3.out; show e3.size ≤ 2000000; omega, HV_e4.out, HV_e5.out⟩)
      have HN9 := hid' (show (i + 1) + n = n0 ∧ (lw ++ [(⟨e1, e2, e3, e4, e5⟩ : Gen.Wt)]).length = i + 1 by rw [List.length_append]; have := HN.out; simp; omega)
      clear h1 h2 hk c1 H8
      refine hid' ?_
      go_wp2_with fail
      go_roundw
      case rel => exact ⟨i + 1, n, m5, p5, _, _, by go_num, HS9, HI3, HN9, HF9⟩
      case measure => have := HIN.out; simp [intOf]; omega
    · have HEW := hid' (HI.out.endW (by rcases Nat.eq_zero_or_pos n with h | h; exact .inl h; refine .inr ?_; cases ok; rfl; exact absurd ⟨h, rfl⟩ ht))
      go_upto_region 5 with (fail)
      go_cut [40] (fun v wx => v = .bool false ∧ wx = wr)
      case first =>
        by_cases hn : 0 < n
        · obtain rfl : ok = false := by cases ok; rfl; exact absurd ⟨hn, rfl⟩ ht
          have g1 : decide ((i : Int) < (n0 : Int)) = true := decide_eq_true (by have := HN.out.1; omega)
          have g1n : decide (i < n0) = true := decide_eq_true (by have := HN.out.1; omega)
          clear ht hn
          go_wp2_with fail
          go_meet
          exact ⟨rfl, rfl⟩
        · have g1 : decide ((i : Int) < (n0 : Int)) = false := decide_eq_false (by have := HN.out.1; omega)
          have g1n : decide (i < n0) = false := decide_eq_false (by have := HN.out.1; omega)
          clear ht hn
          go_wp2_with fail
          go_meet
          exact ⟨rfl, rfl⟩
      case rest =>
        obtain ⟨rfl, rfl⟩ := hcut
        clear r2 ht HI HN
        obtain ⟨HFW, -⟩ : Hid (∀ x ∈ lw, WtFits x) ∧ True := ⟨HF, trivial⟩
        clear HF
        go_wp2_with fail
        refine (rfCount_any l 16384 rb (.slice p l.length c) a ok _ HS.out.rd (HV.out _ HS.out.bel) HL.out).mono ?_
        rintro e wq ⟨rfl, hr4, g4⟩
        have HS4 := hid' (HS.out.read g4 hr4)
        have HI2 := hid' (show Gen.Inv l (Gen.bnd (Gen.rdN 16384) fun m => Gen.bnd (Gen.rdMany Gen.rdX m) fun i => Gen.kI regs lw ([] ++ i)) a ok from HEW.out).count
        have hn1 := Gen.vC_le l a 16384 ok
        clear g4 hr4 HS HEW
        generalize Gen.nC l a 16384 ok = a2 at *
        generalize Gen.oC l a 16384 ok = o2 at *
        generalize Gen.vC l a 16384 ok = n1 at *
        have HF0 := hid' (show ∀ x ∈ ([] : List Gen.Ix), IxFits x from fun x h => by cases h)
        have HN0 := hid' (show 0 + n1 = n1 ∧ ([] : List Gen.Ix).length = 0 from ⟨by omega, rfl⟩)
        go_wp2_with fail
        go_loopw [14] (fun iv wr => ∃ (i n a : Nat) (ok : Bool) (vi : Value) (li : List Gen.Ix), iv = .int .i64 (i : Int) ∧ Hid (RefSt w b2 rb cb (.slice p l.length c) a ok regs vw vi lw li wr) ∧ Hid (Gen.Inv l (Gen.bnd (Gen.rdMany Gen.rdX n) fun i => Gen.kI regs lw (li ++ i)) a ok) ∧ Hid (i + n = n1 ∧ li.length = i) ∧ Hid (∀ x ∈ li, IxFits x)) (fun iv _ => n1 - (intOf iv).toNat)
        case atStart => exact ⟨0, n1, a2, o2, _, [], rfl, HS4, HI2, HN0, HF0⟩
        case round =>
          obtain ⟨i, n, a, ok, vi, li, rfl, HS, HI, HN, HF⟩ := hrel
          clear HS4 HI2 HN0 HF0
          have r2 := bcells HS.out.rd 2 _ rfl
          by_cases ht : 0 < n ∧ ok = true
          · obtain ⟨hn, rfl⟩ := ht
            obtain ⟨n, rfl⟩ : ∃ m, n = m + 1 := ⟨n - 1, by omega⟩
            have HI3 := hid' HI.out.manyX
            have hin : i < n1 := by have := HN.out.1; omega
            have g1 : decide ((i : Int) < (n1 : Int)) = true := decide_eq_true (by omega)
            have g2 : decide (i < n1) = true := decide_eq_true hin
            have wi : IntKind.i64.wrap ((i : Int) + 1) = (i : Int) + 1 := IntWalk.i64_in _ (by omega)
            have HIN := hid' hin
            have H8 := HS
            clear HI hn HS hin
            go_upto_region 17 with (fail)
            clear r2
            go_wp2_with fail
            refine (rfInt_any l rb (.slice p l.length c) a true _ H8.out.rd (HV.out _ H8.out.bel) HL.out).mono ?_
            rintro e wq ⟨rfl, hr, hg⟩
            have hS := H8.out.read hg hr
            have hI := HI3.out.int'
            clear H8 HI3
            have H8 := hid' hS
            have HI3 := hid' hI
            have HV_e1 := hid' (Gen.vI_in l a true)
            clear hS hI hr hg
            generalize Gen.vI l a true = e1 at *
            generalize Gen.nI l a true = m1 at *
            generalize Gen.oI l a true = p1 at *
            have w_e1 : IntKind.i64.wrap e1 = e1 := IntWalk.i64_in _ HV_e1.out
            go_wp2_with fail
            refine (rfInt_any l rb (.slice p l.length c) m1 p1 _ H8.out.rd (HV.out _ H8.out.bel) HL.out).mono ?_
            rintro e wq ⟨rfl, hr, hg⟩
            have hS := H8.out.read hg hr
            have hI := HI3.out.int'
            clear H8 HI3
            have H8 := hid' hS
            have HI3 := hid' hI
            have HV_e2 := hid' (Gen.vI_in l m1 p1)
            clear hS hI hr hg
            generalize Gen.vI l m1 p1 = e2 at *
            generalize Gen.nI l m1 p1 = m2 at *
            generalize Gen.oI l m1 p1 = p2 at *
            have w_e2 : IntKind.i64.wrap e2 = e2 := IntWalk.i64_in _ HV_e2.out
            go_wp2_with fail
            refine (rfInt_any l rb (.slice p l.length c) m2 p2 _ H8.out.rd (HV.out _ H8.out.bel) HL.out).mono ?_
            rintro e wq ⟨rfl, hr, hg⟩
            have hS := H8.out.read hg hr
            have hI := HI3.out.int'
            clear H8 HI3
            have H8 := hid' hS
            have HI3 := hid' hI
            have HV_e3 := hid' (Gen.vI_in l m2 p2)
            clear hS hI hr hg
            generalize Gen.vI l m2 p2 = e3 at *
            generalize Gen.nI l m2 p2 = m3 at *
            generalize Gen.oI l m2 p2 = p3 at *
            have w_e3 : IntKind.i64.wrap e3 = e3 := IntWalk.i64_in _ HV_e3.out
            go_wp2_with fail
            refine (rfInt_any l rb (.slice p l.length c) m3 p3 _ H8.out.rd (HV.out _ H8.out.bel) HL.out).mono ?_
            rintro e wq ⟨rfl, hr, hg⟩
            have hS := H8.out.read hg hr
            have hI := HI3.out.int'
            clear H8 HI3
            have H8 := hid' hS
            have HI3 := hid' hI
            have HV_e4 := hid' (Gen.vI_in l m3 p3)
            clear hS hI hr hg
            generalize Gen.vI l m3 p3 = e4 at *
            generalize Gen.nI l m3 p3 = m4 at *
            generalize Gen.oI l m3 p3 = p4 at *
            have w_e4 : IntKind.i64.wrap e4 = e4 := IntWalk.i64_in _ HV_e4.out
            go_wp2_with fail
            refine (rfInt_any l rb (.slice p l.length c) m4 p4 _ H8.out.rd (HV.out _ H8.out.bel) HL.out).mono ?_
            rintro e wq ⟨rfl, hr, hg⟩
            have hS := H8.out.read hg hr
            have hI := HI3.out.int'
            clear H8 HI3
            have H8 := hid' hS
            have HI3 := hid' hI
            have HV_e5 := hid' (Gen.vI_in l m4 p4)
            clear hS hI hr hg
            generalize Gen.vI l m4 p4 = e5 at *
            generalize Gen.nI l m4 p4 = m5 at *
            generalize Gen.oI l m4 p4 = p5 at *
            have w_e5 : IntKind.i64.wrap e5 = e5 := IntWalk.i64_in _ HV_e5.out
            go_wp2_with fail
            refine (rfText_any l rb (.slice p l.length c) m5 p5 _ H8.out.rd (HV.out _ H8.out.bel) HL.out).mono ?_
            rintro e wq ⟨rfl, hr, hg⟩
            have hS := H8.out.read hg hr
            have hI := HI3.out.text'
            clear H8 HI3
            have H8 := hid' hS
            have HI3 := hid' hI
            have HV_e6 := hid' (Gen.vS_len l m5 p5)
            clear hS hI hr hg
            generalize Gen.vS l m5 p5 = e6 at *
            generalize Gen.nS l m5 p5 = m6 at *
            generalize Gen.oS l m5 p5 = p6 at *
            go_wp2_with fail
            refine (rfInt_any l rb (.slice p l.length c) m6 p6 _ H8.out.rd (HV.out _ H8.out.bel) HL.out).mono ?_
            rintro e wq ⟨rfl, hr, hg⟩
            have hS := H8.out.read hg hr
            have hI := HI3.out.int'
            clear H8 HI3
            have H8 := hid' hS
            have HI3 := hid' hI
            have HV_e7 := hid' (Gen.vI_in l m6 p6)
            clear hS hI hr hg
            generalize Gen.vI l m6 p6 = e7 at *
            generalize Gen.nI l m6 p6 = m7 at *
            generalize Gen.oI l m6 p6 = p7 at *
            have w_e7 : IntKind.i64.wrap e7 = e7 := IntWalk.i64_in _ HV_e7.out
            have c1 := bcells H8.out.kc 2 _ rfl
            obtain ⟨pv, cv, rfl⟩ := row_form H8.out.is
            go_wp2_with (refine append_ix rfl _ _ rfl (cb + 1) (.slice pv li.length cv) li rfl H8.out.is ⟨e1, e2, e3, e4, e5, e6, e7⟩ rfl (by have := HN.out; omega) (lt_of_block H8.out.kc) (fun v' w' h1 h2 => ?_); refine halt' ?_)
            obtain ⟨pv', mv', cv', rfl⟩ := row_form3 h1
            have hk := (h2.block cb (lt_of_block H8.out.kc) (fun e => own_lt H8.out.is (by omega) e.symm)).trans H8.out.kc
            have y1 := bcells hk 2 _ rfl
            have y2 := frozen_of (o := 2) hk
            have HS9 := hid' (H8.out.addI h1 h2)
            have HF9 := hid' (show ∀ x ∈ li ++ [(⟨e1, e2, e3, e4, e5, e6, e7⟩ : Gen.Ix)], IxFits x from fun x hx => by
              rcases List.mem_append.1 hx with h | h
              · exact HF.out x h
              · rw [List.mem_singleton] at h
                subst h
                exact ⟨HV_e1.out, HV_e2.out, HV_e3.out, HV_e4.out, HV_e5.out, by have := HV_e6.out; show e6.size ≤ 2000000; omega, HV_e7.out⟩)
            have HN9 := hid' (show (i + 1) + n = n1 ∧ (li ++ [(⟨e1, e2, e3, e4, e5, e6, e7⟩ : Gen.Ix)]).length = i + 1 by rw [List.length_append]; have := HN.out; simp; omega)
            clear h1 h2 hk c1 H8
            refine hid' ?_
            go_wp2_with fail
            go_roundw
            case rel => exact ⟨i + 1, n, m7, p7, _, _, by go_num, HS9, HI3, HN9, HF9⟩
            case measure => have := HIN.out; simp [intOf]; omega
          · have HEW := hid' (HI.out.endX (by rcases Nat.eq_zero_or_pos n with h | h; exact .inl h; refine .inr ?_; cases ok; rfl; exact absurd ⟨h, rfl⟩ ht))
            go_upto_region 15 with (fail)
            go_cut [75] (fun v wx => v = .bool false ∧ wx = wr)
            case first =>
              by_cases hn : 0 < n
              · obtain rfl : ok = false := by cases ok; rfl; exact absurd ⟨hn, rfl⟩ ht
                have g1 : decide ((i : Int) < (n1 : Int)) = true := decide_eq_true (by have := HN.out.1; omega)
                have g1n : decide (i < n1) = true := decide_eq_true (by have := HN.out.1; omega)
                clear ht hn
                go_wp2_with fail
                go_meet
                exact ⟨rfl, rfl⟩
              · have g1 : decide ((i : Int) < (n1 : Int)) = false := decide_eq_false (by have := HN.out.1; omega)
                have g1n : decide (i < n1) = false := decide_eq_false (by have := HN.out.1; omega)
                clear ht hn
                go_wp2_with fail
                go_meet
                exact ⟨rfl, rfl⟩
            case rest =>
              obtain ⟨rfl, rfl⟩ := hcut
              clear r2 ht HI HN
              have r1 := bcells HS.out.rd 1 _ rfl
              have r2 := bcells HS.out.rd 2 _ rfl
              cases ok with
              | false =>
                have HD := hid' (Gen.dec_bad HEW.out)
                have q0 := bcells HS.out.kr 0 _ rfl
                have q1 := bcells HS.out.kr 1 _ rfl
                have q2 := bcells HS.out.kr 2 _ rfl
                have fr0 := frozen_of (o := 0) HS.out.kr
                have fr1 := frozen_of (o := 1) HS.out.kr
                have fr2 := frozen_of (o := 2) HS.out.kr
                have hfin := HS.out.fin 0 (.slice none 0 0) (.slice none 0 0)
                have hbel := below_grown HS.out.bel hfin.2 (by have := HS.out.lt; omega) HS.out.bel.size
                have t0 := bcells hfin.1 0 _ rfl
                have t1 := bcells hfin.1 1 _ rfl
                have t2 := bcells hfin.1 2 _ rfl
                have r1' := (World.cell?_of_block (a := ⟨rb, 1, none⟩) (hfin.2.block rb (lt_of_block HS.out.rd) (fun e => by have := HS.out.lt; cases e; omega))).trans r1
                have hne1 : rb ≠ b2 := by have := HS.out.lt; omega
                have HF2 := hid' hbel
                clear hfin hbel
                go_upto_region 26 with (fail)
                go_region
                all_goals go_wp2_with fail
                refine bodyPost_ret (v := .tuple #[.agg #[.int .i64 0, .slice none 0 0, .slice none 0 0], .int .i64 (a : Int), .int .i64 172]) ?_ rfl ?_
                · simp [results, Tryz.results13, go_sem, t0, t1, t2]
                · refine ⟨_, by rw [HD.out], ?_, HF2.out.drew⟩
                  rw [HD.out]
                  exact cdAt0 _
              | true =>
                have HD := hid' (Gen.dec_end HEW.out)
                have q0 := bcells HS.out.kr 0 _ rfl
                have q1 := bcells HS.out.kr 1 _ rfl
                have q2 := bcells HS.out.kr 2 _ rfl
                have fr0 := frozen_of (o := 0) HS.out.kr
                have fr1 := frozen_of (o := 1) HS.out.kr
                have fr2 := frozen_of (o := 2) HS.out.kr
                by_cases ha : a < l.length
                · have g1 : decide ((a : Int) < (l.length : Int)) = true := decide_eq_true (by omega)
                  have g1n : decide (a < l.length) = true := decide_eq_true ha
                  rw [if_pos ha] at HD
                  clear ha
                  have hfin := HS.out.fin 0 (.slice none 0 0) (.slice none 0 0)
                  have hbel := below_grown HS.out.bel hfin.2 (by have := HS.out.lt; omega) HS.out.bel.size
                  have t0 := bcells hfin.1 0 _ rfl
                  have t1 := bcells hfin.1 1 _ rfl
                  have t2 := bcells hfin.1 2 _ rfl
                  have r1' := (World.cell?_of_block (a := ⟨rb, 1, none⟩) (hfin.2.block rb (lt_of_block HS.out.rd) (fun e => by have := HS.out.lt; cases e; omega))).trans r1
                  have hne1 : rb ≠ b2 := by have := HS.out.lt; omega
                  have HF2 := hid' hbel
                  clear hfin hbel
                  go_upto_region 26 with (fail)
                  go_region
                  all_goals go_wp2_with fail
                  refine bodyPost_ret (v := .tuple #[.agg #[.int .i64 0, .slice none 0 0, .slice none 0 0], .int .i64 (a : Int), .int .i64 172]) ?_ rfl ?_
                  · simp [results, Tryz.results13, go_sem, t0, t1, t2]
                  · refine ⟨_, by rw [HD.out], ?_, HF2.out.drew⟩
                    rw [HD.out]
                    exact cdAt0 _
                · have g1 : decide ((a : Int) < (l.length : Int)) = false := decide_eq_false (by omega)
                  have g1n : decide (a < l.length) = false := decide_eq_false ha
                  rw [if_neg ha] at HD
                  clear ha
                  have hcd : CdAt wc (.agg #[.int .i64 regs, vw, vi]) ⟨regs, lw, li⟩ := ⟨vw, vi, rfl, HS.out.ws.waits HFW.out, HS.out.is.ins HF.out, HNV.out⟩
                  have c0 := bcells HS.out.kc 0 _ rfl
                  have c1 := bcells HS.out.kc 1 _ rfl
                  have c2 := bcells HS.out.kc 2 _ rfl
                  obtain ⟨ri, hri⟩ : ∃ ri, Hid (Gen.right ⟨regs, lw, li⟩ = ri) := ⟨_, hid' rfl⟩
                  have HR := hid' (refRight_any _ ⟨regs, lw, li⟩ wc hcd)
                  rw [hri.out] at HR HD
                  clear hcd q0 q1 q2 fr0 fr1 fr2
                  obtain ⟨pw, nw, kw, rfl⟩ := row_form3 HS.out.ws
                  obtain ⟨pi, ni, ki, rfl⟩ := row_form3 HS.out.is
                  go_wp2_with fail
                  refine HR.out.mono ?_
                  rintro e wq ⟨rfl, b9⟩
                  have HS2 := hid' (HS.out.below b9)
                  clear b9 c0 c1 c2 r1 r2
                  have q0 := bcells HS2.out.kr 0 _ rfl
                  have q1 := bcells HS2.out.kr 1 _ rfl
                  have q2 := bcells HS2.out.kr 2 _ rfl
                  have fr0 := frozen_of (o := 0) HS2.out.kr
                  have fr1 := frozen_of (o := 1) HS2.out.kr
                  have fr2 := frozen_of (o := 2) HS2.out.kr
                  cases ri with
                  | false =>
                    have hfin := HS2.out.fin 0 (.slice none 0 0) (.slice none 0 0)
                    have hbel := below_grown HS2.out.bel hfin.2 (by have := HS2.out.lt; omega) HS2.out.bel.size
                    have t0 := bcells hfin.1 0 _ rfl
                    have t1 := bcells hfin.1 1 _ rfl
                    have t2 := bcells hfin.1 2 _ rfl
                    have HF2 := hid' hbel
                    clear hfin hbel
                    go_wp2_with fail
                    refine bodyPost_ret (v := .tuple #[.agg #[.int .i64 0, .slice none 0 0, .slice none 0 0], .int .i64 0, .int .i64 170]) ?_ rfl ?_
                    · simp [results, Tryz.results13, go_sem, t0, t1, t2]
                    · refine ⟨_, by rw [HD.out]; rfl, ?_, HF2.out⟩
                      rw [HD.out]
                      exact cdAt0 _
                  | true =>
                    have d0 := bcells HS2.out.kc 0 _ rfl
                    have d1 := bcells HS2.out.kc 1 _ rfl
                    have d2 := bcells HS2.out.kc 2 _ rfl
                    have hfin := HS2.out.fin regs (.slice pw nw kw) (.slice pi ni ki)
                    have hbel := below_grown HS2.out.bel hfin.2 (by have := HS2.out.lt; omega) HS2.out.bel.size
                    have t0 := bcells hfin.1 0 _ rfl
                    have t1 := bcells hfin.1 1 _ rfl
                    have t2 := bcells hfin.1 2 _ rfl
                    have hw2 := World.ownsRow.kept HS2.out.ws hfin.2 (.inr (own_lt HS2.out.ws (by have := HS2.out.lt; omega)))
                    have hi2 := World.ownsRow.kept HS2.out.is hfin.2 (.inr (own_lt HS2.out.is (by have := HS2.out.lt; omega)))
                    have HF2 := hid' (And.intro hbel (And.intro (WtRow.waits hw2 HFW.out) (IxRow.ins hi2 HF.out)))
                    clear hfin hbel hw2 hi2
                    go_wp2_with fail
                    refine bodyPost_ret (v := .tuple #[.agg #[.int .i64 regs, .slice pw nw kw, .slice pi ni ki], .int .i64 0, .int .i64 0]) ?_ rfl ?_
                    · simp [results, Tryz.results13, go_sem, t0, t1, t2]
                    · refine ⟨_, by rw [HD.out]; rfl, ?_, HF2.out.1⟩
                      rw [HD.out]
                      exact ⟨_, _, rfl, HF2.out.2.1, HF2.out.2.2, HNV.out⟩
end Go.Proofs.YtiejoapnljkjdaaGreatDoor

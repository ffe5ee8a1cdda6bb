/- Proved: oracle's Encode, Sign, refuse, code as contracts. -/
import Derived.Test.YtmddaomchhigbaaGreatDoorOrcRef
import Derived.Test.YtmddaomchhigbaaGreatDoorOrcAs
import Derived.Test.YtmddaomchhigbaaGreatDoorRefTakeWalk
namespace Go.Proofs.YtmddaomchhigbaaGreatDoor
open Go.RowKit
open Led Orc
set_option linter.unusedVariables false
set_option linter.unusedSimpArgs false
set_option maxRecDepth 100000
theorem Orc.encOf_yes {t : Orc.Tip} (h : Orc.right t = true) : Orc.encOf t = (Orc.enc t, 0) := if_pos h
theorem Orc.encOf_no {t : Orc.Tip} (h : Orc.right t = false) : Orc.encOf t = ([], 210) := if_neg (by rw [h]; simp)
theorem said_len {t : Orc.Tip} (h : Orc.Fits t) : (nums (Orc.said t)).length ≤ 2000100 := by rw [nums_length, Orc.said_is]; exact hb_len h 3 (by omega)
theorem enc_nums (t : Orc.Tip) : nums (Orc.said t) ++ nums t.tag.data.toList = nums (Orc.enc t) := by unfold Orc.enc nums; rw [List.map_append]
set_option maxHeartbeats 4000000 in
theorem encode_any (t : Orc.Tip) (w : World) (h : Orc.Fits t) :
    Calls Tryz.prog 10 #[.agg #[.string t.feed, .int .i64 t.day, .int .i64 t.n, .int .i64 t.seq, .string t.tag]] w (TipEnc t w) := by
  have HR := hid' (fun w' => right_any t w' (by have := h.feed; omega))
  have HF := hid' h
  have HSL := hid' (said_len h)
  have HTL := hid' h.tag
  have hts : (t.tag.size : Int) ≤ 10000000 := by have := h.tag; omega
  clear h
  cases hc : Orc.core t with
  | false =>
    have HE := hid' (Orc.encOf_no (show Orc.right t = false by unfold Orc.right; rw [hc]; rfl))
    rw [hc] at HR
    clear hc
    go_enter Tryz.func10, Tryz.ntmps10
    have hbc := (TipBox.new w t).cells
    obtain ⟨c0, c1, c2, c3, c4, _⟩ := hbc
    go_wp2_with fail
    refine (HR.out _).mono ?_
    rintro e w1 ⟨rfl, b1⟩
    go_wp2_with fail
    go_ret2
    exact ⟨.slice none 0 0, by rw [HE.out]; rfl, by rw [HE.out]; exact Owns.nil _ _, Below.more ((Below.refl _ _).alloc (Nat.le_refl _) _) b1⟩
  | true =>
    rw [hc] at HR
    by_cases h32 : t.tag.size = 32
    · have g7 : ((t.tag.size : Int) != 32) = false := by rw [bne_eq_false_iff_eq]; omega
      have HE := hid' (Orc.encOf_yes (show Orc.right t = true by unfold Orc.right; rw [hc, decide_eq_true h32]; rfl))
      clear hc h32
      go_enter Tryz.func10, Tryz.ntmps10
      obtain ⟨c0, c1, c2, c3, c4, _⟩ := (TipBox.new w t).cells
      go_wp2_with fail
      refine (HR.out _).mono ?_
      rintro e w1 ⟨rfl, b1⟩
      have HBX := hid' ((TipBox.new w t).below b1)
      have HW1 := hid' (Below.more ((Below.refl _ w).alloc (Nat.le_refl _) _) b1)
      clear b1 c0 c1 c2 c3 c4
      obtain ⟨c0, c1, c2, c3, c4, _⟩ := HBX.out.cells
      have HKB := hid' (fun (wx : World) (hbx : Below w1.heap.size w1 wx) => (HBX.out.below hbx).cells)
      have hbx := (Below.refl w1.heap.size w1).drew
      go_upto_region 3 with (fail)
      go_region_held3 (fun w' => w'.cell? ⟨w.heap.size, 0, none⟩ = some (.string t.feed) ∧ w'.cell? ⟨w.heap.size, 1, none⟩ = some (.int .i64 t.day) ∧ w'.cell? ⟨w.heap.size, 2, none⟩ = some (.int .i64 t.n) ∧ w'.cell? ⟨w.heap.size, 3, none⟩ = some (.int .i64 t.seq) ∧ w'.cell? ⟨w.heap.size, 4, none⟩ = some (.string t.tag) ∧ Below w1.heap.size w1 w') (exact ⟨(HKB.out _ hbx).1, (HKB.out _ hbx).2.1, (HKB.out _ hbx).2.2.1, (HKB.out _ hbx).2.2.2.1, (HKB.out _ hbx).2.2.2.2.1, hbx⟩)
        (first | (go_at_call 31; refine (said_any t _ HF.out).mono ?_; rintro e w2 ⟨v1, rfl, o1, b1⟩; have o1 := o1.mono hbx.size; have hbx := Below.more hbx b1) | (refine step_text rfl _ _ (by rfl) w1.heap.size v1 _ (by rfl) o1 t.tag (by rfl) (by have := HSL.out; have := HTL.out; omega) hbx.size ?_; intro v' w4 h5 h6; have hbx := Below.owned hbx h6 o1 hbx.size (Nat.le_refl _)))
      all_goals
        rw [enc_nums] at h5
        have HO := hid' (h5.mono HW1.out.size)
        have HB := hid' (Below.more HW1.out hbx)
        clear h5 h6 o1
        go_wp2_with fail
        go_ret2
        exact ⟨_, by rw [HE.out]; rfl, by rw [HE.out]; exact HO.out, HB.out⟩
    · have g7 : ((t.tag.size : Int) != 32) = true := by rw [bne_iff_ne]; omega
      have HE := hid' (Orc.encOf_no (show Orc.right t = false by unfold Orc.right; rw [decide_eq_false h32, Bool.and_false]))
      clear hc h32
      go_enter Tryz.func10, Tryz.ntmps10
      obtain ⟨c0, c1, c2, c3, c4, _⟩ := (TipBox.new w t).cells
      go_wp2_with fail
      refine (HR.out _).mono ?_
      rintro e w1 ⟨rfl, b1⟩
      have HBX := hid' ((TipBox.new w t).below b1)
      have HW1 := hid' (Below.more ((Below.refl _ w).alloc (Nat.le_refl _) _) b1)
      clear b1 c0 c1 c2 c3 c4
      obtain ⟨c0, c1, c2, c3, c4, _⟩ := HBX.out.cells
      go_wp2_with fail
      go_ret2
      exact ⟨.slice none 0 0, by rw [HE.out]; rfl, by rw [HE.out]; exact Owns.nil _ _, HW1.out⟩
/-- Its tag by a key. -/
def Orc.sign (t : Orc.Tip) (key : ByteArray) : ByteArray := if Orc.core t = true then strOfNums (Sha.tag (Sha.nums key) (nums (Orc.said t))) else ⟨#[]⟩
theorem Orc.sign_yes {t : Orc.Tip} (h : Orc.core t = true) (key : ByteArray) : Orc.sign t key = strOfNums (Sha.tag (Sha.nums key) (nums (Orc.said t))) := if_pos h
theorem Orc.sign_no {t : Orc.Tip} (h : Orc.core t = false) (key : ByteArray) : Orc.sign t key = ⟨#[]⟩ := if_neg (by rw [h]; simp)
theorem sha_nums (l : List UInt8) : Sha.nums ⟨l.toArray⟩ = nums l := rfl
set_option maxHeartbeats 4000000 in
theorem sign_any (fr : Nat × Nat × Nat) (t : Orc.Tip) (key : ByteArray) (w : World) (h : Orc.Fits t) (hkl : key.size ≤ 10000000) (hk : Hid (Keys fr w)) :
    Calls Tryz.prog 14 #[.agg #[.string t.feed, .int .i64 t.day, .int .i64 t.n, .int .i64 t.seq, .string t.tag], .string key] w (Gives (.string (Orc.sign t key)) w) := by
  have HR := hid' (fun w' => right_any t w' (by have := h.feed; omega))
  have HF := hid' h
  have HSL := hid' (said_len h)
  have HKL := hid' hkl
  clear h hkl
  cases hc : Orc.core t with
  | false =>
    rw [Orc.sign_no hc key]
    rw [hc] at HR
    clear hc
    go_enter Tryz.func14, Tryz.ntmps14
    obtain ⟨c0, c1, c2, c3, c4, _⟩ := (TipBox.new w t).cells
    go_wp2_with fail
    refine (HR.out _).mono ?_
    rintro e w1 ⟨rfl, b1⟩
    go_wp2_with fail
    go_ret
    exact ⟨rfl, Below.more ((Below.refl _ _).alloc (Nat.le_refl _) _) b1⟩
  | true =>
    have HE := hid' (Orc.sign_yes hc key)
    rw [hc] at HR
    clear hc
    go_enter Tryz.func14, Tryz.ntmps14
    obtain ⟨c0, c1, c2, c3, c4, _⟩ := (TipBox.new w t).cells
    go_wp2_with fail
    refine (HR.out _).mono ?_
    rintro e w1 ⟨rfl, b1⟩
    have HBX := hid' ((TipBox.new w t).below b1)
    have HW1 := hid' (Below.more ((Below.refl _ w).alloc (Nat.le_refl _) _) b1)
    clear b1 c0 c1 c2 c3 c4
    obtain ⟨c0, c1, c2, c3, c4, _⟩ := HBX.out.cells
    go_wp2_with fail
    refine (said_any t _ HF.out).mono ?_
    rintro e w2 ⟨v1, rfl, o1, b1⟩
    have hcv := own_conv o1
    have HW2 := hid' (Below.more HW1.out b1)
    obtain ⟨s, hs⟩ : ∃ s : ByteArray, Hid (s = ⟨(Orc.said t).toArray⟩) := ⟨_, hid' rfl⟩
    rw [← hs.out] at hcv
    have HS := hid' (show Sha.nums s = nums (Orc.said t) by rw [hs.out]; rfl)
    have HP := hid' (parts_one w2 s)
    have hss : s.size ≤ 2000100 := by rw [← Sha.nums_length, HS.out]; exact HSL.out
    have HW3 := hid' (show Below w.heap.size w (w2.alloc (.cells #[.string s] 9)) from Below.more HW2.out ((Below.refl _ _).alloc (Nat.le_refl _) _))
    have HK3 := hid' (keys_below hk HW3.out)
    have HCS := hid' (show (cat [s]).size ≤ 10000000000000 by rw [cat_size, cat_one, Sha.nums_length]; omega)
    clear b1 c0 c1 c2 c3 c4 o1 hss
    go_wp2_with fail
    refine (tag_any fr _ key _ [s] HP.out (by have := HKL.out; omega) (by simp) HCS.out HK3.out).mono ?_
    rintro e w4 ⟨rfl, b4⟩
    rw [cat_one, HS.out, ← HE.out]
    have HW4 := hid' (Below.more HW3.out b4)
    clear b4
    go_wp2_with fail
    go_ret
    exact ⟨rfl, HW4.out⟩
/-- A refusal in memory. -/
def RefusalAt (W : World) (b : Nat) (c : Int) (s : ByteArray) : Prop := W.heap[b]? = some (.cells #[.int .i64 c, .string s] 105 (0, 0))
theorem RefusalAt.below {W W' : World} {b : Nat} {c : Int} {s : ByteArray} (h : RefusalAt W b c s) (B : Below W.heap.size W W') : RefusalAt W' b c s := block_kept B h
/-- What errors.As finds. -/
def ErrVar (w : World) : Prop := w.cell? ⟨0, 0, none⟩ = some (.iface 148 (.agg #[.pointer (some ⟨5, 67, none⟩)]))
theorem ErrVar.below {w w' : World} (h : ErrVar w) (B : Below w.heap.size w w') : ErrVar w' := keep_all B _ _ h
theorem refuse_any (c : Int) (s : ByteArray) (w : World) :
    Calls Tryz.prog 51 #[.int .i64 c, .string s] w fun e w' => e = .returned (.iface 101 (.pointer (some ⟨w.heap.size, 0, none⟩))) ∧ w' = w.alloc (.cells #[.int .i64 c, .string s] 105) := by
  go_enter Tryz.func51, Tryz.ntmps51
  go_wp2_with fail
  go_ret
  exact ⟨rfl, rfl⟩
theorem code_nil (w : World) : Calls Tryz.prog 35 #[.nilIface] w (Gives (.int .i64 0) w) := by
  go_enter Tryz.func35, Tryz.ntmps35
  go_wp2_with fail
  refine (as_nil _ _).mono ?_
  rintro e w1 ⟨rfl, rfl⟩
  go_wp2_with fail
  go_ret
  exact ⟨rfl, (Below.refl _ _).alloc (Nat.le_refl _) _⟩
def AsHit (b : Nat) (e : Addr) (w : World) (ev : Ending) (w' : World) : Prop := ev = .returned (.bool true) ∧ w'.cell? ⟨b, 0, none⟩ = some (.pointer (some e)) ∧ Below b w w'
theorem as_hit' (e : Addr) (b : Nat) (old : Value) (w : World) (hg : ErrVar w) (ht : w.heap[b]? = some (.cells #[old] 101 (0, 0))) : Calls Tryz.prog 54 #[.iface 101 (.pointer (some e)), .iface 103 (.pointer (some ⟨b, 0, none⟩))] w (AsHit b e w) := by
  obtain ⟨c, f⟩ := block_cells ht
  have hb := lt_of_block ht
  refine (as_hit e ⟨b, 0, none⟩ old w hg (c 0 _ rfl) (f 0)).mono ?_
  rintro ev w' ⟨rfl, rfl⟩
  have B : Below w.heap.size w ((((w.alloc (.cells #[.pointer (some ⟨b, 0, none⟩)] 103)).alloc (.cells #[.pointer (some ⟨5, 103, none⟩), .pointer (some ⟨w.heap.size, 0, none⟩), .int .u64 150] 124)).alloc (.cells #[.pointer (some ⟨5, 103, none⟩), .pointer (some ⟨w.heap.size, 0, none⟩), .int .u64 150] 124)).alloc (.cells #[.pointer (some e)] 101)) :=
    ((((Below.refl _ _).alloc (Nat.le_refl _) _).alloc (by simp) _).alloc (by simp; omega) _).alloc (by simp; omega) _
  have hk := block_kept B ht
  refine ⟨rfl, ?_, (B.mono (Nat.le_of_lt hb)).setCell (p := ⟨b, 0, none⟩) (Nat.le_refl _) _⟩
  have := heap_setCell_same _ b 0 _ _ (.pointer (some e)) hk
  exact (block_cells this).1 0 _ rfl
theorem code_hit (w : World) (b : Nat) (c : Int) (s : ByteArray) (hr : RefusalAt w b c s) (hg : ErrVar w) : Calls Tryz.prog 35 #[.iface 101 (.pointer (some ⟨b, 0, none⟩))] w (Gives (.int .i64 c) w) := by
  have HB := hid' (lt_of_block hr)
  have B0 : Below w.heap.size w (w.alloc (.cells #[.pointer none] 101)) := (Below.refl _ _).alloc (Nat.le_refl _) _
  have HA := hid' (as_hit' ⟨b, 0, none⟩ w.heap.size (.pointer none) (w.alloc (.cells #[.pointer none] 101)) (hg.below B0) (heap_alloc_new _ _))
  have HR := hid' (hr.below B0)
  have HB0 := hid' B0
  clear hr hg B0
  go_enter Tryz.func35, Tryz.ntmps35
  go_wp2_with fail
  refine HA.out.mono ?_
  rintro e w1 ⟨rfl, c1, b1⟩
  have hr1 : RefusalAt w1 b c s := (b1.block b HB.out).trans HR.out
  have c0 := (block_cells hr1).1 0 _ rfl
  have HW := hid' (HB0.out.trans b1)
  clear hr1 b1
  go_wp2_with fail
  go_ret
  exact ⟨rfl, HW.out⟩
end Go.Proofs.YtmddaomchhigbaaGreatDoor

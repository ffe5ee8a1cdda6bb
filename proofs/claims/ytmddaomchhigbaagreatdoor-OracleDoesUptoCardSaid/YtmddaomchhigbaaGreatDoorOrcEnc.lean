/- Proved: oracle's right, said, Encode as contracts: a tip's bytes where it is right. -/
import Derived.Test.YtmddaomchhigbaaGreatDoorOrcPlain
import Derived.Test.YtmddaomchhigbaaGreatDoorOrcNames
import Derived.Test.YtmddaomchhigbaaGreatDoorWireHeld
import Derived.Deep.RegionHeld3
namespace Go.Proofs.YtmddaomchhigbaaGreatDoor
open Go.RowKit
open Led Orc
set_option linter.unusedVariables false
set_option linter.unusedSimpArgs false
set_option maxRecDepth 100000
namespace Orc
/-- A tip whose numbers and texts fit. -/
structure Fits (t : Tip) : Prop where
  feed : t.feed.size ≤ 2000000
  tag : t.tag.size ≤ 2000000
  day : -9223372036854775808 ≤ t.day ∧ t.day ≤ 9223372036854775807
  n : -9223372036854775808 ≤ t.n ∧ t.n ≤ 9223372036854775807
  seq : -9223372036854775808 ≤ t.seq ∧ t.seq ≤ 9223372036854775807
def hv (t : Tip) : Nat → Int
  | 0 => t.day
  | 1 => t.n
  | _ => t.seq
def hb (t : Tip) : Nat → List UInt8
  | 0 => [84] ++ Wire.putText t.feed.data.toList
  | i + 1 => hb t i ++ Wire.putInt (hv t i)
theorem said_is (t : Tip) : said t = hb t 3 := by unfold said; simp [hb, hv]
theorem hv_in {t : Tip} (h : Fits t) (i : Nat) : -9223372036854775808 ≤ hv t i ∧ hv t i ≤ 9223372036854775807 := by
  match i with
  | 0 => exact h.day
  | 1 => exact h.n
  | _ + 2 => exact h.seq
end Orc
theorem text_len (s : ByteArray) (h : s.size ≤ 2000000) : (Wire.putText s.data.toList).length ≤ 2000010 := by
  have h1 : s.data.toList.length ≤ 2000000 := by rw [Array.length_toList]; exact h
  have := putInt_len s.data.toList.length (by omega) (by omega)
  unfold Wire.putText
  rw [List.length_append]; omega
theorem hb_len {t : Orc.Tip} (h : Orc.Fits t) (i : Nat) (h3 : i ≤ 3) : (Orc.hb t i).length ≤ 2000100 := by
  have : (Orc.hb t i).length ≤ 2000011 + 10 * i := by
    induction i with
    | zero => have := text_len t.feed h.feed; rw [Orc.hb, List.length_append]; simp; omega
    | succ i ih =>
      have h1 := ih (by omega)
      have h2 := Orc.hv_in h i
      have := putInt_len (Orc.hv t i) h2.1 h2.2
      rw [Orc.hb, List.length_append]; omega
  omega
/-- The box of a tip. -/
def TipBox (w : World) (b : Nat) (t : Orc.Tip) : Prop := w.heap[b]? = some (.cells #[.string t.feed, .int .i64 t.day, .int .i64 t.n, .int .i64 t.seq, .string t.tag] 23 (0, 0))
theorem TipBox.new (w : World) (t : Orc.Tip) : TipBox (w.alloc (.cells #[.string t.feed, .int .i64 t.day, .int .i64 t.n, .int .i64 t.seq, .string t.tag] 23)) w.heap.size t := heap_alloc_new w _
theorem TipBox.below {w w' : World} {b : Nat} {t : Orc.Tip} (h : TipBox w b t) (B : Below w.heap.size w w') : TipBox w' b t := block_kept B h
theorem TipBox.cells {w : World} {b : Nat} {t : Orc.Tip} (h : TipBox w b t) : w.cell? ⟨b, 0, none⟩ = some (.string t.feed) ∧ w.cell? ⟨b, 1, none⟩ = some (.int .i64 t.day) ∧ w.cell? ⟨b, 2, none⟩ = some (.int .i64 t.n) ∧ w.cell? ⟨b, 3, none⟩ = some (.int .i64 t.seq) ∧ w.cell? ⟨b, 4, none⟩ = some (.string t.tag) ∧ ∀ o, w.frozen? ⟨b, o, none⟩ = false :=
  ⟨(block_cells h).1 _ _ rfl, (block_cells h).1 _ _ rfl, (block_cells h).1 _ _ rfl, (block_cells h).1 _ _ rfl, (block_cells h).1 _ _ rfl, (block_cells h).2⟩
set_option maxHeartbeats 2000000 in
theorem right_any (t : Orc.Tip) (w : World) (hs : t.feed.size ≤ 9223372036854775807) :
    Calls Tryz.prog 30 #[.agg #[.string t.feed, .int .i64 t.day, .int .i64 t.n, .int .i64 t.seq, .string t.tag]] w (Gives (.bool (Orc.core t)) w) := by
  have HN := hid' (fun w' => isName_any t.feed w' hs)
  have HE := hid' (show Orc.core t = (isName t.feed && (decide (0 ≤ t.day) && (decide (t.day ≤ 73048) && (decide (-1000000000000000 ≤ t.n) && (decide (t.n ≤ 1000000000000000) && (decide (1 ≤ t.seq) && decide (t.seq ≤ 4611686018427387904))))))) from rfl)
  rw [HE.out]
  clear HE hs
  cases hn : isName t.feed with
  | false =>
    go_enter Tryz.func30, Tryz.ntmps30
    go_wp2_with fail
    refine (HN.out _).mono ?_
    rintro e w1 ⟨rfl, b1⟩
    rw [hn]
    have HB := hid' ((TipBox.new w t).below b1)
    have HW := hid' (Below.more ((Below.refl _ w).alloc (Nat.le_refl _) _) b1)
    obtain ⟨c0, c1, c2, c3, c4, cf⟩ := HB.out.cells
    clear b1 cf
    go_wp2_with fail
    go_ret
    exact ⟨rfl, HW.out⟩
  | true =>
    cases h0 : decide (0 ≤ t.day) with
    | false =>
      go_enter Tryz.func30, Tryz.ntmps30
      go_wp2_with fail
      refine (HN.out _).mono ?_
      rintro e w1 ⟨rfl, b1⟩
      rw [hn]
      have HB := hid' ((TipBox.new w t).below b1)
      have HW := hid' (Below.more ((Below.refl _ w).alloc (Nat.le_refl _) _) b1)
      obtain ⟨c0, c1, c2, c3, c4, cf⟩ := HB.out.cells
      clear b1 cf
      go_wp2_with fail
      go_ret
      exact ⟨rfl, HW.out⟩
    | true =>
      cases h1 : decide (t.day ≤ 73048) with
      | false =>
        go_enter Tryz.func30, Tryz.ntmps30
        go_wp2_with fail
        refine (HN.out _).mono ?_
        rintro e w1 ⟨rfl, b1⟩
        rw [hn]
        have HB := hid' ((TipBox.new w t).below b1)
        have HW := hid' (Below.more ((Below.refl _ w).alloc (Nat.le_refl _) _) b1)
        obtain ⟨c0, c1, c2, c3, c4, cf⟩ := HB.out.cells
        clear b1 cf
        go_wp2_with fail
        go_ret
        exact ⟨rfl, HW.out⟩
      | true =>
        cases h2 : decide (-1000000000000000 ≤ t.n) with
        | false =>
          go_enter Tryz.func30, Tryz.ntmps30
          go_wp2_with fail
          refine (HN.out _).mono ?_
          rintro e w1 ⟨rfl, b1⟩
          rw [hn]
          have HB := hid' ((TipBox.new w t).below b1)
          have HW := hid' (Below.more ((Below.refl _ w).alloc (Nat.le_refl _) _) b1)
          obtain ⟨c0, c1, c2, c3, c4, cf⟩ := HB.out.cells
          clear b1 cf
          go_wp2_with fail
          go_ret
          exact ⟨rfl, HW.out⟩
        | true =>
          cases h3 : decide (t.n ≤ 1000000000000000) with
          | false =>
            go_enter Tryz.func30, Tryz.ntmps30
            go_wp2_with fail
            refine (HN.out _).mono ?_
            rintro e w1 ⟨rfl, b1⟩
            rw [hn]
            have HB := hid' ((TipBox.new w t).below b1)
            have HW := hid' (Below.more ((Below.refl _ w).alloc (Nat.le_refl _) _) b1)
            obtain ⟨c0, c1, c2, c3, c4, cf⟩ := HB.out.cells
            clear b1 cf
            go_wp2_with fail
            go_ret
            exact ⟨rfl, HW.out⟩
          | true =>
            cases h4 : decide (1 ≤ t.seq) with
            | false =>
              go_enter Tryz.func30, Tryz.ntmps30
              go_wp2_with fail
              refine (HN.out _).mono ?_
              rintro e w1 ⟨rfl, b1⟩
              rw [hn]
              have HB := hid' ((TipBox.new w t).below b1)
              have HW := hid' (Below.more ((Below.refl _ w).alloc (Nat.le_refl _) _) b1)
              obtain ⟨c0, c1, c2, c3, c4, cf⟩ := HB.out.cells
              clear b1 cf
              go_wp2_with fail
              go_ret
              exact ⟨rfl, HW.out⟩
            | true =>
              cases h5 : decide (t.seq ≤ 4611686018427387904) with
              | false =>
                go_enter Tryz.func30, Tryz.ntmps30
                go_wp2_with fail
                refine (HN.out _).mono ?_
                rintro e w1 ⟨rfl, b1⟩
                rw [hn]
                have HB := hid' ((TipBox.new w t).below b1)
                have HW := hid' (Below.more ((Below.refl _ w).alloc (Nat.le_refl _) _) b1)
                obtain ⟨c0, c1, c2, c3, c4, cf⟩ := HB.out.cells
                clear b1 cf
                go_wp2_with fail
                go_ret
                exact ⟨rfl, HW.out⟩
              | true =>
                go_enter Tryz.func30, Tryz.ntmps30
                go_wp2_with fail
                refine (HN.out _).mono ?_
                rintro e w1 ⟨rfl, b1⟩
                rw [hn]
                have HB := hid' ((TipBox.new w t).below b1)
                have HW := hid' (Below.more ((Below.refl _ w).alloc (Nat.le_refl _) _) b1)
                obtain ⟨c0, c1, c2, c3, c4, cf⟩ := HB.out.cells
                clear b1 cf
                go_wp2_with fail
                go_ret
                exact ⟨rfl, HW.out⟩
set_option maxHeartbeats 2000000 in
theorem said_any (t : Orc.Tip) (w : World) (h : Orc.Fits t) :
    Calls Tryz.prog 31 #[.agg #[.string t.feed, .int .i64 t.day, .int .i64 t.n, .int .i64 t.seq, .string t.tag]] w (Fresh w (nums (Orc.said t))) := by
  have HF := hid' h
  clear h
  have HBX := hid' (TipBox.new w t)
  have HB0 := hid' (show Below w.heap.size w (w.alloc (.cells #[.string t.feed, .int .i64 t.day, .int .i64 t.n, .int .i64 t.seq, .string t.tag] 23)) from (Below.refl _ _).alloc (Nat.le_refl _) _)
  have HR := hid' (show Reads ((w.alloc (.cells #[.string t.feed, .int .i64 t.day, .int .i64 t.n, .int .i64 t.seq, .string t.tag] 23)).alloc (.cells #[.int .u8 84] 5)) (.slice (some ⟨w.heap.size + 1, 0, none⟩) 1 1) (nums [84]) from
    Or.inr ⟨w.heap.size + 1, 0, 1, rfl, by simp, Nat.le_refl _, by decide, fun i hi => by
      obtain rfl : i = 0 := by simp [nums] at hi; exact hi
      exact new_cell (by simp) rfl⟩)
  go_enter Tryz.func31, Tryz.ntmps31
  go_wp2_with fail
  refine (putText_any _ (nums [84]) t.feed _ HR.out (by rw [nums_length]; have := HF.out.feed; simp; omega)).mono ?_
  rintro e w1 ⟨v1, rfl, o1, b1⟩
  rw [putText_nums] at o1
  have HBA := hid' (show Below w.heap.size w w1 from Below.more (Below.more HB0.out ((Below.refl _ _).alloc (Nat.le_refl _) _)) b1)
  have hbx := (HBX.out.below ((Below.refl _ _).alloc (Nat.le_refl _) _)).below b1
  have HO1 := hid' (show Held w (Orc.hb t 0) v1 w1 from ⟨o1.mono (by simp; omega), HBA.out⟩)
  have HB2 := hid' hbx
  obtain ⟨c0, c1, c2, c3, c4, _⟩ := HB2.out.cells
  clear o1 b1 hbx HR HBX HB0
  go_wp2_with fail
  have HV0 : ∀ i, i < 3 → (w1.alloc (.cells #[.int .i64 t.day, .int .i64 t.n, .int .i64 t.seq] 2)).cell? ⟨w1.heap.size, i, none⟩ = some (.int .i64 (Orc.hv t i)) := by
    intro i hi
    rcases (by omega : i = 0 ∨ i = 1 ∨ i = 2) with rfl | rfl | rfl <;> exact new_cell rfl rfl
  have hbW : Below w1.heap.size w1 (w1.alloc (.cells #[.int .i64 t.day, .int .i64 t.n, .int .i64 t.seq] 2)) := (Below.refl _ _).alloc (Nat.le_refl _) _
  have HV := hid' HV0
  have HA0 := hid' (Held.below HO1.out hbW)
  clear HV0 hbW c0 c1 c2 c3 c4 HO1
  obtain ⟨g, hg⟩ : ∃ g, g = w1.heap.size := ⟨_, rfl⟩
  rw [← hg] at HV ⊢
  generalize (w1.alloc (.cells #[.int .i64 t.day, .int .i64 t.n, .int .i64 t.seq] 2)) = W2 at *
  clear hg HB2 HBA
  have HR2 := hid' (Below.refl W2.heap.size W2)
  go_loopw [3, 18] (fun v iv wr => ∃ i : Nat, iv = .int .i64 (i : Int) ∧ i ≤ 3 ∧ Hid (Held w (Orc.hb t i) v wr) ∧ Hid (Below W2.heap.size W2 wr)) (fun _ iv _ => 3 - (intOf iv).toNat)
  case atStart => exact ⟨0, rfl, by omega, HA0, HR2⟩
  case round =>
    obtain ⟨i, rfl, hi3, HA, HB⟩ := hrel
    by_cases hi : i < 3
    · have hc := keep_all HB.out _ _ (HV.out i hi)
      have g0 : decide ((i : Int) < 3) = true := by simp; omega
      have HW := hid' (show (nums (Orc.hb t i)).length ≤ 140737488355300 ∧ -9223372036854775808 ≤ Orc.hv t i ∧ Orc.hv t i ≤ 9223372036854775807 from ⟨by rw [nums_length]; exact Nat.le_trans (hb_len HF.out i (by omega)) (by omega), Orc.hv_in HF.out i⟩)
      go_wp2_with fail
      refine (putInt_any _ _ (Orc.hv t i) _ HA.out.own.reads HW.out.1 HW.out.2.1 HW.out.2.2).mono ?_
      intro e w3 hF
      obtain ⟨v', rfl, A', b'⟩ := Held.put HA.out hF
      have HA2 := hid' A'
      have HB2 := hid' (Below.more HB.out b')
      clear A' b' hF
      go_wp2_with fail
      go_roundw
      case rel => exact ⟨i + 1, by go_num, by omega, HA2, HB2⟩
      case measure => simp [intOf]; omega
    · obtain rfl : i = 3 := by omega
      rw [show ((3 : Nat) : Int) = (3 : Int) from rfl]
      clear hi
      rw [← Orc.said_is] at HA
      go_wp2_with fail
      go_ret
      exact ⟨_, rfl, HA.out.own, HA.out.bel⟩
/-- What Encode answers: the bytes, the number of the error. -/
def Orc.encOf (t : Orc.Tip) : List UInt8 × Int := if Orc.right t = true then (Orc.enc t, 0) else ([], 210)
def TipEnc (t : Orc.Tip) (w : World) (e : Ending) (w' : World) : Prop := ∃ v, e = .returned (.tuple #[v, .int .i64 (Orc.encOf t).2]) ∧ Owns w.heap.size w' v (nums (Orc.encOf t).1) ∧ Below w.heap.size w w'
end Go.Proofs.YtmddaomchhigbaaGreatDoor

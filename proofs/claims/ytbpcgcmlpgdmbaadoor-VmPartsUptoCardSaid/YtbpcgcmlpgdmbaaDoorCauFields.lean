/- Proved: causal.sort; causal.fields at a feed and at one currency; strings.Cut at a text of one byte; causal.letter and Type at a term without kids, a feed or one currency. -/
import Derived.Test.YtbpcgcmlpgdmbaaDoorCauNames
import Derived.Test.YtbpcgcmlpgdmbaaDoorGenSmall
namespace Go.Proofs.YtbpcgcmlpgdmbaaDoor
open Go.RowKit
set_option linter.unusedVariables false
set_option linter.unusedSimpArgs false
set_option maxRecDepth 100000
/-- The texts of sorts. -/
def sortL : List ByteArray := [⟨#[]⟩, ⟨#[62, 110]⟩, ⟨#[62, 98]⟩, ⟨#[62, 100]⟩, ⟨#[62, 110]⟩, ⟨#[62, 100]⟩, ⟨#[110, 62, 110]⟩, ⟨#[110, 110, 62, 110]⟩, ⟨#[110, 110, 62, 110]⟩, ⟨#[110, 110, 62, 110]⟩, ⟨#[110, 110, 62, 110]⟩, ⟨#[110, 110, 62, 98]⟩, ⟨#[110, 110, 62, 98]⟩, ⟨#[110, 110, 62, 98]⟩, ⟨#[98, 62, 98]⟩, ⟨#[98, 98, 62, 98]⟩, ⟨#[98, 98, 62, 98]⟩, ⟨#[100, 100, 62, 98]⟩, ⟨#[100, 110, 62, 100]⟩, ⟨#[100, 110, 62, 100]⟩, ⟨#[100, 100, 62, 110]⟩, ⟨#[100, 100, 62, 110]⟩, ⟨#[98, 120, 120, 62, 120]⟩, ⟨#[62, 99]⟩, ⟨#[62, 99]⟩, ⟨#[99, 62, 99]⟩, ⟨#[110, 99, 62, 99]⟩, ⟨#[99, 99, 62, 99]⟩, ⟨#[98, 99, 99, 62, 99]⟩, ⟨#[99, 62, 99]⟩, ⟨#[98, 99, 62, 99]⟩, ⟨#[99, 99, 62, 99]⟩]
def scells : Array Value := (sortL.map Value.string).toArray
theorem scells_size : scells.size = 32 := by simp [scells, sortL]
theorem scells_one : scells.all (·.oneCell') = true := by simp [scells, sortL, Value.oneCell']
theorem sort_in (i : Nat) (t : ByteArray) (h : sortL[i]? = some t) (w : World) : Calls Tryd.prog 53 #[.int .i64 (i : Int)] w (Gives (.string t) w) := by
  have hi : i < 32 := by have := (List.getElem?_eq_some_iff.1 h).1; simpa [sortL] using this
  have hc : scells[i]? = some (.string t) := by simp [scells, h]
  have g1 : decide ((i : Int) < 0) = false := decide_eq_false (by omega)
  have g2 : decide (32 ≤ (i : Int)) = false := decide_eq_false (by omega)
  have g3 : (0 : Int) ≤ (i : Int) ∧ (i : Int) < 32 := by omega
  have g4 : i < 32 := by omega
  clear h
  go_enter Tryd.func53, Tryd.ntmps53
  go_wp2_with (first | (refine wpList_build rfl 115 _ rfl (by kernel_rfl) ?_; refine halt' ?_) | fail)
  refine hid' ?_
  generalize hg : Option.getD (Program.built _ _ _) _ = cs
  obtain rfl : cs = scells := by
    rw [← hg]
    kernel_rfl
  clear hg
  go_wp2_with fail
  rw [row_stored w scells _ _ 32 scells_size rfl scells_one]
  generalize hs : World.setRow _ _ _ = ws
  have hb := hid' (show Below w.heap.size w ws by rw [← hs]; exact row_below w _ _)
  have hcell : ws.cell? ⟨w.heap.size, i, none⟩ = some (.string t) := by rw [← hs, row_cell]; exact hc
  clear hs hc
  go_wp2_with fail
  go_ret
  exact ⟨rfl, hb.out⟩
/-- strings.Cut where the separator is one byte and stands first, the text being two bytes. -/
theorem cut2_any (x c : UInt8) (w : World) : Calls Tryd.prog 65 #[.string ⟨#[c, x]⟩, .string ⟨#[c]⟩] w (Gives (.tuple #[.string ⟨#[]⟩, .string ⟨#[x]⟩, .bool true]) w) := by
  have HI := hid' (fun w => Tryd.stringslite_Index_one ⟨#[c, x]⟩ c w)
  have e : Lib.indexByte (⟨#[c, x]⟩ : ByteArray).data.toList c = 0 := by simp [Lib.indexByte]
  rw [e] at HI
  clear e
  go_enter Tryd.func65, Tryd.ntmps65
  go_wp2_with fail
  refine (HI.out _).mono ?_
  rintro e w' ⟨rfl, rfl⟩
  go_wp2_with fail
  go_region
  all_goals go_wp2_with fail
  all_goals refine bodyPost_ret (results_tmp3 rfl _ _ _) rfl ?_
  all_goals refine ⟨?_, by first | exact Below.refl _ _ | exact (Below.refl _ _).drew⟩
  all_goals
    have hx : (⟨#[c, x]⟩ : ByteArray).extract 1 2 = ⟨#[x]⟩ := ba_ext (by simp)
    change Ending.returned (.tuple #[.string ByteArray.empty, .string ((⟨#[c, x]⟩ : ByteArray).extract 1 2), .bool true]) = _
    rw [hx]
    rfl
/-- strings.Cut there. -/
theorem cut_two (x c : UInt8) (w : World) : Calls Tryd.prog 52 #[.string ⟨#[c, x]⟩, .string ⟨#[c]⟩] w (Gives (.tuple #[.string ⟨#[]⟩, .string ⟨#[x]⟩, .bool true]) w) := by
  have HI := hid' (cut2_any x c w)
  go_enter Tryd.func52, Tryd.ntmps52
  go_wp2_with fail
  refine HI.out.mono ?_
  rintro e w' ⟨rfl, hb⟩
  go_wp2_with fail
  refine bodyPost_ret (results_tmp3 rfl _ _ _) rfl ?_
  exact ⟨rfl, hb⟩
theorem causWithin_any (n low high : Int) (w : World) : Calls Tryd.prog 67 #[.int .i64 n, .int .i64 low, .int .i64 high] w (Ret (.bool (Gen.within n low high)) w) := by
  by_cases h1 : low ≤ n
  · have g1 : decide (low ≤ n) = true := decide_eq_true h1
    have e := hid' (show Gen.within n low high = decide (n ≤ high) by unfold Gen.within; rw [g1, Bool.true_and])
    clear h1
    go_enter Tryd.func67, Tryd.ntmps67
    go_wp2_with fail
    go_ret
    refine ⟨?_, rfl⟩
    rw [e.out]
    rfl
  · have g1 : decide (low ≤ n) = false := decide_eq_false h1
    have e := hid' (show Gen.within n low high = false by unfold Gen.within; rw [g1, Bool.false_and])
    clear h1
    go_enter Tryd.func67, Tryd.ntmps67
    go_wp2_with fail
    go_ret
    refine ⟨?_, rfl⟩
    rw [e.out]
    rfl
theorem causFields_feed (s : ByteArray) (w : World) (hs : s.size ≤ 9223372036854775807) : Calls Tryd.prog 54 #[core0 4 0 s] w (Gives (.bool (Led.isName s)) w) := by
  unfold core0
  have hb := heap_alloc_new w (.cells #[.int .i64 4, .int .i64 0, .string s, .slice none 0 0] 64)
  have HB := hid' hb
  clear hb
  obtain ⟨bn, hbn⟩ : ∃ bn, Hid (Led.isName s = bn) := ⟨_, hid' rfl⟩
  rw [hbn.out]
  have HN := hid' (fun w => isName_any s w hs)
  rw [hbn.out] at HN
  go_enter Tryd.func54, Tryd.ntmps54
  go_wp2_with fail
  refine (HN.out _).mono ?_
  rintro e w1 ⟨rfl, b1⟩
  have c1 : w1.cell? ⟨w.heap.size, 1, none⟩ = some (.int .i64 0) := (b1.cell (p := ⟨w.heap.size, 1, none⟩) (by simp)).trans (heap_cells4 HB.out).2.1
  have hB := hid' (Below.more ((Below.refl w.heap.size w).alloc (Nat.le_refl _) _) b1)
  clear b1
  cases bn with
  | true =>
    go_wp2_with fail
    refine (causWithin_any _ _ _ _).mono ?_
    rintro e w2 ⟨rfl, rfl⟩
    go_wp2_with fail
    go_ret
    exact ⟨rfl, hB.out⟩
  | false =>
    go_wp2_with fail
    go_ret
    exact ⟨rfl, hB.out⟩
theorem causFields_one (s : ByteArray) (w : World) (hs : s.size ≤ 9223372036854775807) : Calls Tryd.prog 54 #[core0 24 0 s] w (Gives (.bool (Led.isCur s)) w) := by
  unfold core0
  have hb := heap_alloc_new w (.cells #[.int .i64 24, .int .i64 0, .string s, .slice none 0 0] 64)
  have HB := hid' hb
  clear hb
  obtain ⟨bn, hbn⟩ : ∃ bn, Hid (Led.isCur s = bn) := ⟨_, hid' rfl⟩
  rw [hbn.out]
  have HN := hid' (fun w => isCur_any s w hs)
  rw [hbn.out] at HN
  go_enter Tryd.func54, Tryd.ntmps54
  go_wp2_with fail
  refine (HN.out _).mono ?_
  rintro e w1 ⟨rfl, b1⟩
  have c1 : w1.cell? ⟨w.heap.size, 1, none⟩ = some (.int .i64 0) := (b1.cell (p := ⟨w.heap.size, 1, none⟩) (by simp)).trans (heap_cells4 HB.out).2.1
  have hB := hid' (Below.more ((Below.refl w.heap.size w).alloc (Nat.le_refl _) _) b1)
  clear b1
  cases bn with
  | true =>
    go_wp2_with fail
    go_ret
    exact ⟨rfl, hB.out⟩
  | false =>
    go_wp2_with fail
    go_ret
    exact ⟨rfl, hB.out⟩
def ltr (ok : Bool) (x : Int) : Int := bif ok then x else 0
def tyOf (ok : Bool) (x : Int) : Int := bif ok then x else 0
theorem letter_feed (s : ByteArray) (w : World) (hs : s.size ≤ 9223372036854775807) : Calls Tryd.prog 31 #[core0 4 0 s] w (Gives (.int .u8 (ltr (Led.isName s) 110)) w) := by
  unfold core0
  have hb := heap_alloc_new w (.cells #[.int .i64 4, .int .i64 0, .string s, .slice none 0 0] 64)
  have HB := hid' hb
  clear hb
  have HS := hid' (fun w => sort_in 4 ⟨#[62, 110]⟩ rfl w)
  have HC := hid' (fun w => cut_two 110 62 w)
  have HF := hid' (fun w => causFields_feed s w hs)
  obtain ⟨bn, hbn⟩ : ∃ bn, Hid (Led.isName s = bn) := ⟨_, hid' rfl⟩
  rw [hbn.out] at HF
  rw [hbn.out]
  go_enter Tryd.func31, Tryd.ntmps31
  go_wp2_with fail
  refine (HS.out _).mono ?_
  rintro e w1 ⟨rfl, b1⟩
  go_wp2_with fail
  refine (HC.out _).mono ?_
  rintro e w2 ⟨rfl, b2⟩
  have h2 := ((Below.more b1 b2).block w.heap.size (by simp)).trans HB.out
  obtain ⟨c0, c1, c2, c3⟩ := heap_cells4 h2
  have hB := hid' (Below.more ((Below.refl w.heap.size w).alloc (Nat.le_refl _) _) (Below.more b1 b2))
  have H2 := hid' h2
  clear b1 b2 h2
  go_wp2_with fail
  refine (HF.out _).mono ?_
  rintro e w3 ⟨rfl, b3⟩
  obtain ⟨d0, d1, d2, d3⟩ := heap_cells4 ((b3.block w.heap.size (lt_of_block H2.out)).trans H2.out)
  have hB3 := hid' (Below.more hB.out b3)
  clear b3 c0 c1 c2 c3
  cases bn with
  | false =>
    go_wp2_with fail
    go_ret
    exact ⟨rfl, hB3.out⟩
  | true =>
    go_wp2_with fail
    go_loopw [36] (fun iv wr => iv = .int .i64 0 ∧ wr = w3) (fun _ _ => 0)
    case atStart => exact ⟨rfl, rfl⟩
    case round =>
      obtain ⟨rfl, rfl⟩ := hrel
      go_wp2_with fail
      go_ret
      exact ⟨rfl, hB3.out⟩
theorem letter_one (s : ByteArray) (w : World) (hs : s.size ≤ 9223372036854775807) : Calls Tryd.prog 31 #[core0 24 0 s] w (Gives (.int .u8 (ltr (Led.isCur s) 99)) w) := by
  unfold core0
  have hb := heap_alloc_new w (.cells #[.int .i64 24, .int .i64 0, .string s, .slice none 0 0] 64)
  have HB := hid' hb
  clear hb
  have HS := hid' (fun w => sort_in 24 ⟨#[62, 99]⟩ rfl w)
  have HC := hid' (fun w => cut_two 99 62 w)
  have HF := hid' (fun w => causFields_one s w hs)
  obtain ⟨bn, hbn⟩ : ∃ bn, Hid (Led.isCur s = bn) := ⟨_, hid' rfl⟩
  rw [hbn.out] at HF
  rw [hbn.out]
  go_enter Tryd.func31, Tryd.ntmps31
  go_wp2_with fail
  refine (HS.out _).mono ?_
  rintro e w1 ⟨rfl, b1⟩
  go_wp2_with fail
  refine (HC.out _).mono ?_
  rintro e w2 ⟨rfl, b2⟩
  have h2 := ((Below.more b1 b2).block w.heap.size (by simp)).trans HB.out
  obtain ⟨c0, c1, c2, c3⟩ := heap_cells4 h2
  have hB := hid' (Below.more ((Below.refl w.heap.size w).alloc (Nat.le_refl _) _) (Below.more b1 b2))
  have H2 := hid' h2
  clear b1 b2 h2
  go_wp2_with fail
  refine (HF.out _).mono ?_
  rintro e w3 ⟨rfl, b3⟩
  obtain ⟨d0, d1, d2, d3⟩ := heap_cells4 ((b3.block w.heap.size (lt_of_block H2.out)).trans H2.out)
  have hB3 := hid' (Below.more hB.out b3)
  clear b3 c0 c1 c2 c3
  cases bn with
  | false =>
    go_wp2_with fail
    go_ret
    exact ⟨rfl, hB3.out⟩
  | true =>
    go_wp2_with fail
    go_loopw [36] (fun iv wr => iv = .int .i64 0 ∧ wr = w3) (fun _ _ => 0)
    case atStart => exact ⟨rfl, rfl⟩
    case round =>
      obtain ⟨rfl, rfl⟩ := hrel
      go_wp2_with fail
      go_ret
      exact ⟨rfl, hB3.out⟩
theorem type_feed (s : ByteArray) (w : World) (hs : s.size ≤ 9223372036854775807) : Calls Tryd.prog 18 #[core0 4 0 s] w (Gives (.tuple #[.int .i64 (tyOf (Led.isName s) 0), .bool (Led.isName s)]) w) := by
  unfold core0
  have hb := heap_alloc_new w (.cells #[.int .i64 4, .int .i64 0, .string s, .slice none 0 0] 64)
  have HB := hid' hb
  clear hb
  have HL := hid' (fun w => letter_feed s w hs)
  have HI := hid' (fun w => Tryd.strings_IndexByte ⟨#[110, 98, 100, 63, 99]⟩ 110 w)
  obtain ⟨bn, hbn⟩ : ∃ bn, Hid (Led.isName s = bn) := ⟨_, hid' rfl⟩
  rw [hbn.out] at HL
  rw [hbn.out]
  go_enter Tryd.func18, Tryd.ntmps18
  go_wp2_with fail
  refine (causSmall_any 4 0 s _).mono ?_
  rintro e w1 ⟨rfl, b1⟩
  obtain ⟨c0, c1, c2, c3⟩ := heap_cells4 ((b1.block w.heap.size (by simp)).trans HB.out)
  have hB := hid' (Below.more ((Below.refl w.heap.size w).alloc (Nat.le_refl _) _) b1)
  clear b1
  go_wp2_with fail
  refine (HL.out _).mono ?_
  rintro e w2 ⟨rfl, b2⟩
  have hB2 := hid' (Below.more hB.out b2)
  clear b2
  cases bn with
  | false =>
    go_wp2_with fail
    refine bodyPost_ret (results_tmp2 rfl _ _ _) rfl ?_
    exact ⟨rfl, hB2.out⟩
  | true =>
    go_wp2_with fail
    refine (HI.out _).mono ?_
    rintro e w3 ⟨rfl, rfl⟩
    go_wp2_with fail
    refine bodyPost_ret (results_tmp2 rfl _ _ _) rfl ?_
    exact ⟨rfl, hB2.out⟩
theorem type_one (s : ByteArray) (w : World) (hs : s.size ≤ 9223372036854775807) : Calls Tryd.prog 18 #[core0 24 0 s] w (Gives (.tuple #[.int .i64 (tyOf (Led.isCur s) 4), .bool (Led.isCur s)]) w) := by
  unfold core0
  have hb := heap_alloc_new w (.cells #[.int .i64 24, .int .i64 0, .string s, .slice none 0 0] 64)
  have HB := hid' hb
  clear hb
  have HL := hid' (fun w => letter_one s w hs)
  have HI := hid' (fun w => Tryd.strings_IndexByte ⟨#[110, 98, 100, 63, 99]⟩ 99 w)
  obtain ⟨bn, hbn⟩ : ∃ bn, Hid (Led.isCur s = bn) := ⟨_, hid' rfl⟩
  rw [hbn.out] at HL
  rw [hbn.out]
  go_enter Tryd.func18, Tryd.ntmps18
  go_wp2_with fail
  refine (causSmall_any 24 0 s _).mono ?_
  rintro e w1 ⟨rfl, b1⟩
  obtain ⟨c0, c1, c2, c3⟩ := heap_cells4 ((b1.block w.heap.size (by simp)).trans HB.out)
  have hB := hid' (Below.more ((Below.refl w.heap.size w).alloc (Nat.le_refl _) _) b1)
  clear b1
  go_wp2_with fail
  refine (HL.out _).mono ?_
  rintro e w2 ⟨rfl, b2⟩
  have hB2 := hid' (Below.more hB.out b2)
  clear b2
  cases bn with
  | false =>
    go_wp2_with fail
    refine bodyPost_ret (results_tmp2 rfl _ _ _) rfl ?_
    exact ⟨rfl, hB2.out⟩
  | true =>
    go_wp2_with fail
    refine (HI.out _).mono ?_
    rintro e w3 ⟨rfl, rfl⟩
    go_wp2_with fail
    refine bodyPost_ret (results_tmp2 rfl _ _ _) rfl ?_
    exact ⟨rfl, hB2.out⟩
end Go.Proofs.YtbpcgcmlpgdmbaaDoor

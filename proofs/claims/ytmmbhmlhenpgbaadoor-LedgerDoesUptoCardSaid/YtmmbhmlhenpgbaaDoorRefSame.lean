/- Proved: the reference's SameLegs, SamePosts say yes where both lists are the same. -/
import Derived.Test.YtmmbhmlhenpgbaaDoorLedMem
import Derived.Laws.StructEq
import Derived.Deep.DeepCutAuto
namespace Go.Proofs.YtmmbhmlhenpgbaaDoor
open Go.RowKit
open Led
set_option linter.unusedVariables false
set_option linter.unusedSimpArgs false
set_option maxRecDepth 100000
theorem leg_neq (p c : ByteArray) (n : Int) (w : World) : (binOp .neq 41 (.agg #[.string p, .string c, .int .i64 n]) (.agg #[.string p, .string c, .int .i64 n])).run Tryd.prog w = .ok (.bool false) w := by
  have u1 := Tryd.underlying9
  have u2 := Tryd.underlying2
  have a1 := Tryd.isAgg9
  have a2 := Tryd.isAgg2
  have z1 := Tryd.sizeOf9
  have z2 := Tryd.sizeOf2
  have hS : Tryd.prog.underlying 41 = some (.struct (Tryd.prog.fieldsOf 41)) := by kernel_rfl
  have hp : Tryd.prog.stoodInHeld 41 = false := by kernel_rfl
  rw [run_neq_struct, show (10000 : Nat) = 9999 + 1 from rfl, run_equalIn_agg w 9999 41 _ _ hS hp]
  simp only [Program.fieldsOf, Tryd.underlying41]
  go_simp
theorem leg_guard (x y : Operand) (p c : ByteArray) (n : Int) (w : World) : (eqGuard .neq 41 x y (.agg #[.string p, .string c, .int .i64 n]) (.agg #[.string p, .string c, .int .i64 n])).run Tryd.prog w = .ok () w :=
  run_eqGuard_agg w .neq 41 x y _ _ (by kernel_rfl)
def Kept (w w' : World) : Prop := ∃ n, w' = w.drewN n
theorem Kept.cell {w w' : World} (h : Kept w w') {a : Addr} {v : Value} (hc : w.cell? a = some v) : w'.cell? a = some v := by
  obtain ⟨n, rfl⟩ := h; exact hc
theorem Kept.refl (w : World) : Kept w w := ⟨0, rfl⟩
theorem Kept.more {w w' : World} (h : Kept w w') (n : Nat) : Kept w (w'.drewN n) := by
  obtain ⟨m, rfl⟩ := h; exact ⟨m + n, by rw [World.drewN_drewN]⟩
def DrewT (v : Value) (w : World) (e : Ending) (w' : World) : Prop := e = .returned v ∧ Kept w w'
theorem LegsAt.row {w : World} {v : Value} {l : List Leg} (h : LegsAt w v l) : ∃ p cap, v = .slice p l.length cap ∧ l.length ≤ 9223372036854775807 ∧ ∀ i x, l[i]? = some x → ∃ b off, p = some ⟨b, off, none⟩ ∧ b < w.heap.size ∧
    w.cell? ⟨b, off + i * 3, none⟩ = some (.string x.party) ∧ w.cell? ⟨b, off + i * 3 + 1, none⟩ = some (.string x.cur) ∧ w.cell? ⟨b, off + i * 3 + 2, none⟩ = some (.int .i64 x.amount) := by
  rcases h with ⟨⟨p0, rfl⟩, rfl⟩ | ⟨b, off, cap, rfl, h1, h2, h3, h4⟩
  · exact ⟨p0, 0, rfl, by simp, fun i x h => by simp at h⟩
  · refine ⟨_, cap, rfl, by unfold maxLen at h2; omega, fun i x h => ⟨b, off, rfl, h3, ?_⟩⟩
    obtain ⟨x1, x2, x3, _⟩ := h4 i x h
    exact ⟨x1, x2, x3⟩
theorem sameLegs_yes (va vb : Value) (l : List Leg) (w : World) (ha : LegsAt w va l) (hb : LegsAt w vb l) : Calls Tryd.prog 19 #[va, vb] w (DrewT (.bool true) w) := by
  obtain ⟨pa, ca, rfl, hl, HA⟩ := LegsAt.row ha
  obtain ⟨pb, cb, rfl, _, HB⟩ := LegsAt.row hb
  have HA' := hid' HA
  have HB' := hid' HB
  have HK := hid' (Kept.refl w)
  clear HA HB ha hb
  have hl' : (l.length : Int) ≤ 9223372036854775807 := by omega
  go_enter Tryd.func19, Tryd.ntmps19
  go_wp2_with fail
  go_loopw [5] (fun iv wr => ∃ i : Nat, iv = .int .i64 (i : Int) ∧ i ≤ l.length ∧ Hid (Kept w wr)) (fun iv _ => l.length - (intOf iv).toNat)
  case atStart => exact ⟨0, rfl, Nat.zero_le _, HK⟩
  case round =>
    obtain ⟨i, rfl, hi, HW⟩ := hrel
    by_cases hin : i < l.length
    · obtain ⟨x, hx⟩ : ∃ x, l[i]? = some x := ⟨_, List.getElem?_eq_getElem hin⟩
      obtain ⟨b1, o1, rfl, _, x1, x2, x3⟩ := HA'.out i x hx
      obtain ⟨b2, o2, rfl, _, y1, y2, y3⟩ := HB'.out i x hx
      have x1' := HW.out.cell x1
      have x2' := HW.out.cell x2
      have x3' := HW.out.cell x3
      have y1' := HW.out.cell y1
      have y2' := HW.out.cell y2
      have y3' := HW.out.cell y3
      have j1 : (0 : Int) ≤ (i : Int) := by omega
      have j2 : (i : Int) < (l.length : Int) := by omega
      have hne := leg_neq x.party x.cur x.amount
      have hgd := fun u v => leg_guard u v x.party x.cur x.amount
      clear hx x1 x2 x3 y1 y2 y3
      go_upto_region 6 with (fail)
      go_quiet (fail)
      go_wp2_with fail
      go_roundw
      case rel => exact ⟨i + 1, by go_num, by omega, hid' (Kept.more HW.out _)⟩
      case measure => simp [intOf]; omega
    · obtain rfl : i = l.length := by omega
      have g9 : decide (l.length < l.length) = false := by simp
      clear hin
      go_wp2_with fail
      go_ret
      exact ⟨rfl, HW.out⟩
/-- The cells of a list of postings from an address on. -/
def PostCells (w : World) (b off : Nat) (l : List Post) : Prop := ∀ (i : Nat) (x : Post), l[i]? = some x →
  w.cell? ⟨b, off + i * 3, none⟩ = some (.int .i64 x.day) ∧ w.cell? ⟨b, off + i * 3 + 1, none⟩ = some (.int .i64 x.id) ∧ (∃ lv, w.cell? ⟨b, off + i * 3 + 2, none⟩ = some lv ∧ LegsAt w lv x.legs) ∧
  -9223372036854775808 ≤ x.day ∧ x.day ≤ 9223372036854775807 ∧ -9223372036854775808 ≤ x.id ∧ x.id ≤ 9223372036854775807
/-- A slice that reads as a list of postings. -/
def PostsAt (w : World) (v : Value) (l : List Post) : Prop :=
  ((∃ p0, v = .slice p0 0 0) ∧ l = []) ∨ ∃ b off cap, v = .slice (some ⟨b, off, none⟩) l.length cap ∧ l.length ≤ cap ∧ cap ≤ maxLen ∧ b < w.heap.size ∧ PostCells w b off l
theorem LegsAt.kept {w w' : World} {v : Value} {l : List Leg} (h : LegsAt w v l) (hk : Kept w w') : LegsAt w' v l := by
  obtain ⟨n, rfl⟩ := hk
  exact h.below (Below.drewn (Below.refl _ _) n)
theorem PostCells.below {w w' : World} {b off : Nat} {l : List Post} (h : PostCells w b off l) (hb : b < w.heap.size) (B : Below w.heap.size w w') : PostCells w' b off l := by
  intro i x hx
  obtain ⟨h1, h2, ⟨lv, h3, h5⟩, h4⟩ := h i x hx
  exact ⟨(B.cell (p := ⟨b, off + i * 3, none⟩) hb).trans h1, (B.cell (p := ⟨b, off + i * 3 + 1, none⟩) hb).trans h2, ⟨lv, (B.cell (p := ⟨b, off + i * 3 + 2, none⟩) hb).trans h3, h5.below B⟩, h4⟩
theorem PostsAt.below {w w' : World} {v : Value} {l : List Post} (h : PostsAt w v l) (B : Below w.heap.size w w') : PostsAt w' v l := by
  rcases h with ⟨⟨p0, rfl⟩, rfl⟩ | ⟨b, off, cap, rfl, h1, h2, h3, h4⟩
  · exact Or.inl ⟨⟨_, rfl⟩, rfl⟩
  · exact Or.inr ⟨b, off, cap, rfl, h1, h2, Nat.lt_of_lt_of_le h3 B.size, h4.below h3 B⟩
theorem PostsAt.row {w : World} {v : Value} {l : List Post} (h : PostsAt w v l) : ∃ p cap, v = .slice p l.length cap ∧ l.length ≤ 9223372036854775807 ∧ ∀ i x, l[i]? = some x → ∃ b off lv, p = some ⟨b, off, none⟩ ∧ b < w.heap.size ∧
    w.cell? ⟨b, off + i * 3, none⟩ = some (.int .i64 x.day) ∧ w.cell? ⟨b, off + i * 3 + 1, none⟩ = some (.int .i64 x.id) ∧ w.cell? ⟨b, off + i * 3 + 2, none⟩ = some lv ∧ LegsAt w lv x.legs := by
  rcases h with ⟨⟨p0, rfl⟩, rfl⟩ | ⟨b, off, cap, rfl, h1, h2, h3, h4⟩
  · exact ⟨p0, 0, rfl, by simp, fun i x h => by simp at h⟩
  · refine ⟨_, cap, rfl, by unfold maxLen at h2; omega, fun i x h => ?_⟩
    obtain ⟨x1, x2, ⟨lv, x3, x5⟩, x4⟩ := h4 i x h
    exact ⟨b, off, lv, rfl, h3, x1, x2, x3, x5⟩
theorem PostsAt.at {w w' : World} {p : Option Addr} {n c : Nat} {l : List Post} {i : Nat} {x : Post} (h : PostsAt w (.slice p n c) l) (hx : l[i]? = some x) (B : Below w.heap.size w w') : ∃ b off lv, p = some ⟨b, off, none⟩ ∧ b < w'.heap.size ∧
    w'.cell? ⟨b, off + i * 3, none⟩ = some (.int .i64 x.day) ∧ w'.cell? ⟨b, off + i * 3 + 1, none⟩ = some (.int .i64 x.id) ∧ w'.cell? ⟨b, off + i * 3 + 2, none⟩ = some lv ∧ LegsAt w' lv x.legs ∧
    -9223372036854775808 ≤ x.day ∧ x.day ≤ 9223372036854775807 ∧ -9223372036854775808 ≤ x.id ∧ x.id ≤ 9223372036854775807 := by
  rcases PostsAt.below h B with ⟨_, rfl⟩ | ⟨b, off, cap, hv, h1, h2, h3, h4⟩
  · simp at hx
  · simp at hv
    obtain ⟨x1, x2, ⟨lv, x3, x5⟩, x6⟩ := h4 i x hx
    exact ⟨b, off, lv, hv.1, h3, x1, x2, x3, x5, x6⟩
theorem samePosts_yes (va vb : Value) (l : List Post) (w : World) (ha : PostsAt w va l) (hb : PostsAt w vb l) : Calls Tryd.prog 15 #[va, vb] w (DrewT (.bool true) w) := by
  obtain ⟨pa, ca, rfl, hl, HA⟩ := PostsAt.row ha
  obtain ⟨pb, cb, rfl, _, HB⟩ := PostsAt.row hb
  have HA' := hid' HA
  have HB' := hid' HB
  have HK := hid' (Kept.refl w)
  clear HA HB ha hb
  have hl' : (l.length : Int) ≤ 9223372036854775807 := by omega
  go_enter Tryd.func15, Tryd.ntmps15
  go_wp2_with fail
  go_loopw [5] (fun iv wr => ∃ i : Nat, iv = .int .i64 (i : Int) ∧ i ≤ l.length ∧ Hid (Kept w wr)) (fun iv _ => l.length - (intOf iv).toNat)
  case atStart => exact ⟨0, rfl, Nat.zero_le _, HK⟩
  case round =>
    obtain ⟨i, rfl, hi, HW⟩ := hrel
    by_cases hin : i < l.length
    · obtain ⟨x, hx⟩ : ∃ x, l[i]? = some x := ⟨_, List.getElem?_eq_getElem hin⟩
      obtain ⟨b1, o1, lv1, rfl, _, x1, x2, x3, x4⟩ := HA'.out i x hx
      obtain ⟨b2, o2, lv2, rfl, _, y1, y2, y3, y4⟩ := HB'.out i x hx
      have x1' := HW.out.cell x1
      have x2' := HW.out.cell x2
      have x3' := HW.out.cell x3
      have y1' := HW.out.cell y1
      have y2' := HW.out.cell y2
      have y3' := HW.out.cell y3
      have j1 : (0 : Int) ≤ (i : Int) := by omega
      have j2 : (i : Int) < (l.length : Int) := by omega
      have HS := hid' (fun wx (h : Kept wr wx) => sameLegs_yes lv1 lv2 x.legs wx (LegsAt.kept (LegsAt.kept x4 HW.out) h) (LegsAt.kept (LegsAt.kept y4 HW.out) h))
      clear hx x1 x2 x3 y1 y2 y3 x4 y4
      go_upto_region 6 with (fail)
      go_quiet ((go_at_call 19; exact Calls.quiet_of (HS.out _ ⟨_, rfl⟩)))
      go_wp2_with fail
      go_quiet (fail)
      go_wp2_with fail
      go_roundw
      case rel => exact ⟨i + 1, by go_num, by omega, hid' (Kept.more HW.out _)⟩
      case measure => simp [intOf]; omega
    · obtain rfl : i = l.length := by omega
      have g9 : decide (l.length < l.length) = false := by simp
      clear hin
      go_wp2_with fail
      go_ret
      exact ⟨rfl, HW.out⟩
end Go.Proofs.YtmmbhmlhenpgbaaDoor

/- Proved: Show as a contract: it answers the plain law's text. No conditions. -/
import Derived.Test.YtljmokbdmfiajaaDoorNumNext
import Derived.Test.YtljmokbdmfiajaaDoorShelf
namespace Go.Proofs.YtljmokbdmfiajaaDoor
open Go.RowKit
set_option linter.unusedVariables false

namespace Num
/-- What so many rounds leave: the text, the rest. -/
def go1 (x : Nat) : Nat → ByteArray × Nat
  | 0 => (⟨#[]⟩, x)
  | i + 1 => (pre (go1 x i).2 (go1 x i).1, (go1 x i).2 / 10)
theorem go1_size (x i : Nat) : (go1 x i).1.size = i := by
  induction i with
  | zero => rfl
  | succ i ih => rw [go1, pre_size, ih]
theorem go1_rest (x i : Nat) : (go1 x i).2 ≤ x := by
  induction i with
  | zero => exact Nat.le_refl _
  | succ i ih => exact Nat.le_trans (Nat.div_le_self _ _) ih
/-- A number in digits, ahead of a text. -/
def decOnto (n : Nat) (s : ByteArray) : ByteArray := if h : n < 10 then pre n s else decOnto (n / 10) (pre n s)
termination_by n
def tailOf (s : ByteArray) : ByteArray := ⟨(Lib.trimRightB s.data.toList 48).toArray⟩
theorem tailOf_le (s : ByteArray) : (tailOf s).size ≤ s.size := by
  show (Lib.trimRightB s.data.toList 48).toArray.size ≤ s.data.size
  rw [List.size_toArray, Lib.trimRightB, List.length_reverse]
  exact Nat.le_trans (List.dropWhile_sublist _).length_le (by simp)
/-- A size in digits. -/
def text (x : Nat) : ByteArray :=
  let t := tailOf (go1 x 6).1
  let s := decOnto (go1 x 6).2 ⟨#[]⟩
  if t = ⟨#[]⟩ then s else s ++ (⟨#[46]⟩ ++ t)
def show' (a : Int) : ByteArray := if clamp a < 0 then ⟨#[45]⟩ ++ text (clamp a).natAbs else text (clamp a).natAbs
def meas (b : Nat) (w : World) : Nat := match w.cell? ⟨b, 0, none⟩, w.cell? ⟨b, 1, none⟩ with
  | some (.string s), some (.int _ n) => n.toNat + (if s.size = 0 then 1 else 0)
  | _, _ => 0
theorem decOnto_eq (n : Nat) (s : ByteArray) : decOnto n s = if n / 10 = 0 then pre n s else decOnto (n / 10) (pre n s) := by
  rw [decOnto]
  by_cases h : n < 10
  · rw [dif_pos h, if_pos (by omega)]
  · rw [dif_neg h, if_neg (by omega)]
/-- What holds at the head of the loop that writes y. -/
structure DecAt (y : Nat) (s : ByteArray) (n : Nat) : Prop where
  bound : s.size + n ≤ y + 1
  law : (s = ⟨#[]⟩ ∧ n = y) ∨ (s ≠ ⟨#[]⟩ ∧ ((n = 0 ∧ s = decOnto y ⟨#[]⟩) ∨ (0 < n ∧ decOnto n s = decOnto y ⟨#[]⟩)))
theorem DecAt.start (y : Nat) : DecAt y ⟨#[]⟩ y := ⟨by show 0 + y ≤ y + 1; omega, Or.inl ⟨rfl, rfl⟩⟩
theorem DecAt.done {y : Nat} {s : ByteArray} (C : DecAt y s 0) (h : ¬ s = ⟨#[]⟩) : s = decOnto y ⟨#[]⟩ := by
  rcases C.law with ⟨e, _⟩ | ⟨_, ⟨_, e⟩ | ⟨e, _⟩⟩
  · exact absurd e h
  · exact e
  · omega
theorem DecAt.step {y : Nat} {s : ByteArray} {n : Nat} (C : DecAt y s n) (h : s.size = 0 ∨ 0 < n) : DecAt y (pre n s) (n / 10) := by
  have hp := pre_size n s
  have hne : pre n s ≠ ⟨#[]⟩ := by
    intro e
    rw [e] at hp
    exact absurd (show 0 = s.size + 1 from hp) (by omega)
  have key : decOnto n s = decOnto y ⟨#[]⟩ := by
    rcases C.law with ⟨rfl, rfl⟩ | ⟨h1, ⟨h2, _⟩ | ⟨_, h3⟩⟩
    · rfl
    · exfalso
      rcases h with h | h
      · exact h1 (by cases s; simpa [ByteArray.size] using h)
      · omega
    · exact h3
  rw [decOnto_eq] at key
  refine ⟨by rw [hp]; have := C.bound; omega, Or.inr ⟨hne, ?_⟩⟩
  by_cases h10 : n / 10 = 0
  · rw [if_pos h10] at key
    exact Or.inl ⟨h10, key⟩
  · rw [if_neg h10] at key
    exact Or.inr ⟨by omega, key⟩
end Num
open Num
theorem nonempty_list {s : ByteArray} (h : ¬ s = ⟨#[]⟩) : s.toList.isEmpty = false := by
  rw [ByteArray.toList_eq, List.isEmpty_eq_false_iff]
  intro e
  apply h
  cases s
  simpa using e
theorem meas_at {b : Nat} {w : World} {s : ByteArray} {n : Nat} (h : DigitsAt b w s n) : meas b w = n + (if s.size = 0 then 1 else 0) := by
  have h0 : w.cell? ⟨b, 0, none⟩ = some (.string s) := cell_of_row w b 0 _ _ _ h
  have h1 : w.cell? ⟨b, 1, none⟩ = some (.int .u64 (n : Int)) := cell_of_row w b 1 _ _ _ h
  rw [meas, h0, h1]
  rfl

set_option maxHeartbeats 2000000 in
theorem show_any (a : Int) (w : World) : Calls Tryd.prog 28 #[.int .i64 a] w fun e w' => e = .returned (.string (show' a)) ∧ Below w.heap.size w w' := by
  have a1 := clamp_le a
  have a2 := clamp_ge a
  have HS := hid' (show show' a = if clamp a < 0 then ⟨#[45]⟩ ++ text (clamp a).natAbs else text (clamp a).natAbs from rfl)
  generalize show' a = sh at *
  go_enter Tryd.func28, Tryd.ntmps28
  go_wp2_with fail
  refine (split_any a w).mono ?_
  rintro e w1 ⟨rfl, rfl⟩
  have hx : (clamp a).natAbs ≤ 1000000000000000 := by omega
  generalize (clamp a).natAbs = x at *
  clear a1 a2
  go_wp2_with fail
  have D0 : DigitsAt w1.heap.size (w1.alloc (.cells #[.string ⟨#[]⟩, .int .u64 (x : Int)] 46)) (go1 x 0).1 (go1 x 0).2 := heap_alloc_new _ _
  have B0 : Below w1.heap.size w1 (w1.alloc (.cells #[.string ⟨#[]⟩, .int .u64 (x : Int)] 46)) := (Below.refl _ _).alloc (Nat.le_refl _) _
  generalize w1.alloc _ = w2 at *
  go_loopw [19] (fun v wr => ∃ i : Nat, i ≤ 6 ∧ v = .int .i64 i ∧ DigitsAt w1.heap.size wr (go1 x i).1 (go1 x i).2 ∧ Below w1.heap.size w1 wr) (fun v _ => 6 - (intOf v).toNat)
  case atStart => exact ⟨0, by omega, rfl, D0, B0⟩
  case round =>
    clear D0 B0
    obtain ⟨i, hi, rfl, D, B⟩ := hrel
    by_cases hlt : i < 6
    · have i6 : (i : Int) < 6 := by omega
      go_wp2_with fail
      refine (next_any wr w1.heap.size _ _ (by have := go1_rest x i; omega) (by rw [go1_size]; omega) D).mono ?_
      rintro e w3 ⟨rfl, D3, g3⟩
      have B3 : Below w1.heap.size w1 w3 := B.grown g3 B.size (fun k hk => by cases hk; exact Nat.le_refl _)
      go_wp2_with fail
      go_roundw
      case rel => exact ⟨i + 1, by omega, by go_num, D3, B3⟩
      case measure => simp [intOf]; omega
    · obtain rfl : i = 6 := by omega
      have hr := go1_rest x 6
      have HT := hid' (show text x = if tailOf (go1 x 6).1 = ⟨#[]⟩ then decOnto (go1 x 6).2 ⟨#[]⟩ else decOnto (go1 x 6).2 ⟨#[]⟩ ++ (⟨#[46]⟩ ++ tailOf (go1 x 6).1) from rfl)
      have hz := go1_size x 6
      have c0 : wr.cell? ⟨w1.heap.size, 0, none⟩ = some (.string (go1 x 6).1) := cell_of_row wr _ 0 _ _ _ D
      have f0 : wr.frozen? ⟨w1.heap.size, 0, none⟩ = false := frozen_of_row wr _ 0 _ _ D
      rw [show ((6 : Nat) : Int) = 6 from rfl]
      generalize (go1 x 6).1 = s at *
      generalize (go1 x 6).2 = y at *
      go_wp2_with fail
      refine (Tryd.strings_TrimRight_one s 48 (by decide) wr (by omega)).mono ?_
      rintro e w4 ⟨rfl, rfl⟩
      rw [show (⟨(Lib.trimRightB s.data.toList 48).toArray⟩ : ByteArray) = tailOf s from rfl]
      have htl : (tailOf s).size ≤ 6 := by have := tailOf_le s; omega
      generalize tailOf s = t at *
      have D1 : DigitsAt w1.heap.size (w4.setCell ⟨w1.heap.size, 0, none⟩ (.string ⟨#[]⟩)) ⟨#[]⟩ y := heap_setCell_same _ _ 0 _ _ _ D
      have B1 : Below w1.heap.size w1 (w4.setCell ⟨w1.heap.size, 0, none⟩ (.string ⟨#[]⟩)) := B.setCell (Nat.le_refl _) _
      clear D B hz
      have hy : y ≤ 1000000000000000 := by omega
      go_wp2_with fail
      generalize World.setCell _ _ _ = w5 at *
      go_loopw [36] (fun v wr => ∃ s n, DigitsAt w1.heap.size wr s n ∧ Below w1.heap.size w1 wr ∧ DecAt y s n) (fun v wr => meas w1.heap.size wr)
      case atStart => exact ⟨⟨#[]⟩, y, D1, B1, DecAt.start y⟩
      case round =>
        clear D1 B1 c0 f0
        obtain ⟨s2, n, D, B, C⟩ := hrel
        have hmeas := meas_at D
        have c0 : wr.cell? ⟨w1.heap.size, 0, none⟩ = some (.string s2) := cell_of_row wr _ 0 _ _ _ D
        have c1 : wr.cell? ⟨w1.heap.size, 1, none⟩ = some (.int .u64 (n : Int)) := cell_of_row wr _ 1 _ _ _ D
        by_cases hgo : s2.size = 0 ∨ 0 < n
        · have C2 := C.step hgo
          have hb := C.bound
          rcases Nat.eq_zero_or_pos s2.size with h0 | h0
          · obtain rfl : s2 = ⟨#[]⟩ := by cases s2; simpa [ByteArray.size] using h0
            go_wp2_with fail
            refine (next_any wr w1.heap.size _ n (by omega) (by omega) D).mono ?_
            rintro e w6 ⟨rfl, D6, g6⟩
            have B6 : Below w1.heap.size w1 w6 := B.grown g6 B.size (fun k hk => by cases hk; exact Nat.le_refl _)
            have hm6 := meas_at D6
            rw [pre_size, if_neg (by omega)] at hm6
            go_wp2_with fail
            go_roundw
            case rel => exact ⟨_, _, D6, B6, C2⟩
            case measure => rw [hmeas, hm6]; split <;> omega
          · have hne : ¬ s2 = ⟨#[]⟩ := by rintro rfl; simp [ByteArray.size] at h0
            have hn : (0 : Int) < (n : Int) := by omega
            have hnl : s2.toList.isEmpty = false := nonempty_list hne
            go_wp2_with fail
            refine (next_any wr w1.heap.size _ n (by omega) (by omega) D).mono ?_
            rintro e w6 ⟨rfl, D6, g6⟩
            have B6 : Below w1.heap.size w1 w6 := B.grown g6 B.size (fun k hk => by cases hk; exact Nat.le_refl _)
            have hm6 := meas_at D6
            rw [pre_size, if_neg (by omega)] at hm6
            go_wp2_with fail
            go_roundw
            case rel => exact ⟨_, _, D6, B6, C2⟩
            case measure => rw [hmeas, hm6]; split <;> omega
        · have hne : ¬ s2 = ⟨#[]⟩ := by rintro rfl; exact hgo (Or.inl rfl)
          obtain rfl : n = 0 := by omega
          have hnl : s2.toList.isEmpty = false := nonempty_list hne
          have hd := C.done hne
          have hb := C.bound
          have HT2 := HT.out
          rw [← hd] at HT2
          have l1 : ((⟨#[46]⟩ : ByteArray) ++ t).size = 1 + t.size := by rw [ByteArray.size_append]; rfl
          have l2 : (s2 ++ ((⟨#[46]⟩ : ByteArray) ++ t)).size = s2.size + (1 + t.size) := by rw [ByteArray.size_append, l1]
          have k1 : ¬ 9223372036854775807 < (⟨#[46]⟩ : ByteArray).size + t.size := by show ¬ 9223372036854775807 < 1 + t.size; omega
          have k2 : ¬ 9223372036854775807 < s2.size + ((⟨#[46]⟩ : ByteArray) ++ t).size := by rw [l1]; omega
          have k3 : ¬ 9223372036854775807 < (⟨#[45]⟩ : ByteArray).size + s2.size := by show ¬ 9223372036854775807 < 1 + s2.size; omega
          have k4 : ¬ 9223372036854775807 < (⟨#[45]⟩ : ByteArray).size + (s2 ++ ((⟨#[46]⟩ : ByteArray) ++ t)).size := by rw [l2]; show ¬ 9223372036854775807 < 1 + (s2.size + (1 + t.size)); omega
          have HS2 := HS.out
          clear HT HS l1 l2 hd C
          by_cases ht : t = ⟨#[]⟩
          · subst ht
            rw [if_pos rfl] at HT2
            rw [HT2] at HS2
            by_cases hneg : clamp a < 0
            · rw [if_pos hneg] at HS2
              have HS3 := hid' HS2
              clear HS2 HT2
              go_wp2_with fail
              go_ret
              exact ⟨by rw [HS3.out]; rfl, B⟩
            · rw [if_neg hneg] at HS2
              have HS3 := hid' HS2
              clear HS2 HT2
              go_wp2_with fail
              go_ret
              exact ⟨by rw [HS3.out]; rfl, B⟩
          · have hnt : t.toList.isEmpty = false := nonempty_list ht
            rw [if_neg ht] at HT2
            rw [HT2] at HS2
            by_cases hneg : clamp a < 0
            · rw [if_pos hneg] at HS2
              have HS3 := hid' HS2
              clear HS2 HT2
              go_wp2_with fail
              go_ret
              exact ⟨by rw [HS3.out]; rfl, B⟩
            · rw [if_neg hneg] at HS2
              have HS3 := hid' HS2
              clear HS2 HT2
              go_wp2_with fail
              go_ret
              exact ⟨by rw [HS3.out]; rfl, B⟩

theorem shown_text : show' 1500000 = ⟨#[49, 46, 53]⟩ := by
  decide +kernel
def True1 (w : World) (e : Ending) (w' : World) : Prop := e = .returned (.bool true) ∧ Below w.heap.size w w'
theorem shown_any (w : World) : Calls Tryd.prog 11 #[] w (True1 w) := by
  have HA := hid' (show add 500000 500000 = 1000000 by decide)
  have HS := hid' shown_text
  go_enter Tryd.func11, Tryd.ntmps11
  go_wp2_with fail
  refine (add_any 500000 500000 w).mono ?_
  rintro e w1 ⟨rfl, rfl⟩
  rw [HA.out]
  go_wp2_with fail
  refine (show_any 1500000 w1).mono ?_
  rintro e w2 ⟨rfl, b2⟩
  rw [HS.out]
  go_wp2_with fail
  go_ret
  exact ⟨rfl, b2⟩
end Go.Proofs.YtljmokbdmfiajaaDoor

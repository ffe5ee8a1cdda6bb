/- Proved: the reference's has, register as contracts. -/
import Derived.Test.YtiejoapnljkjdaaGreatDoorBase
import Derived.Test.YtiejoapnljkjdaaGreatDoorGenUses
import Derived.IntWalk
namespace Go.Proofs.YtiejoapnljkjdaaGreatDoor
open Go.RowKit
open Gen
set_option linter.unusedVariables false
set_option linter.unusedSimpArgs false
set_option maxRecDepth 100000
theorem register_any (n : Int) (used : Bool) (regs : Int) (w : World) : Calls Tryz.prog 47 #[.int .i64 n, .bool used, .int .i64 regs] w (Ret (.bool (Gen.fld used n regs)) w) := by
  cases used with
  | true =>
    by_cases h1 : 0 ≤ n
    · by_cases h2 : n < regs
      · have e := hid' (show Gen.fld true n regs = true by unfold Gen.fld; simp [h1, h2])
        rw [e.out]
        have g1 : decide (0 ≤ n) = true := decide_eq_true h1
        have g2 : decide (n < regs) = true := decide_eq_true h2
        clear h1 h2
        go_enter Tryz.func47, Tryz.ntmps47
        go_wp2_with fail
        go_ret
        exact ⟨rfl, rfl⟩
      · have e := hid' (show Gen.fld true n regs = false by unfold Gen.fld; simp; omega)
        rw [e.out]
        have g1 : decide (0 ≤ n) = true := decide_eq_true h1
        have g2 : decide (n < regs) = false := decide_eq_false h2
        clear h1 h2
        go_enter Tryz.func47, Tryz.ntmps47
        go_wp2_with fail
        go_ret
        exact ⟨rfl, rfl⟩
    · have e := hid' (show Gen.fld true n regs = false by unfold Gen.fld; simp; omega)
      rw [e.out]
      have g1 : decide (0 ≤ n) = false := decide_eq_false h1
      clear h1
      go_enter Tryz.func47, Tryz.ntmps47
      go_wp2_with fail
      go_ret
      exact ⟨rfl, rfl⟩
  | false =>
    by_cases h1 : n = 0
    · subst h1
      have e := hid' (show Gen.fld false 0 regs = true from rfl)
      rw [e.out]
      go_enter Tryz.func47, Tryz.ntmps47
      go_wp2_with fail
      go_ret
      exact ⟨rfl, rfl⟩
    · have e := hid' (show Gen.fld false n regs = false by unfold Gen.fld; simp [h1])
      rw [e.out]
      have g1 : (n == 0) = false := by rw [beq_eq_false_iff_ne]; exact h1
      clear h1
      go_enter Tryz.func47, Tryz.ntmps47
      go_wp2_with fail
      go_ret
      exact ⟨rfl, rfl⟩
set_option maxHeartbeats 1000000 in
theorem has_any (s : ByteArray) (c : Nat) (w : World) (hs : s.size ≤ 1000) : Calls Tryz.prog 48 #[.string s, .int .u8 (c : Int)] w (Ret (.bool (Gen.hasB s c)) w) := by
  have hs' : (s.size : Int) ≤ 1000 := by omega
  have HN0 := hid' (show ∀ j, j < 0 → ∀ x, s.data.toList[j]? = some x → x.toNat ≠ c from fun j hj => by omega)
  clear hs
  go_enter Tryz.func48, Tryz.ntmps48
  go_wp2_with fail
  go_loopw [5] (fun iv wr => ∃ i : Nat, iv = .int .i64 (i : Int) ∧ i ≤ s.size ∧ Hid (∀ j, j < i → ∀ x, s.data.toList[j]? = some x → x.toNat ≠ c) ∧ wr = w) (fun iv _ => s.size - (intOf iv).toNat)
  case atStart => exact ⟨0, rfl, Nat.zero_le _, HN0, rfl⟩
  case round =>
    obtain ⟨i, rfl, hi, HN, rfl⟩ := hrel
    have hls : s.data.toList.length = s.size := Array.length_toList
    by_cases hin : i < s.size
    · have j1 : (0 : Int) ≤ (i : Int) := by omega
      have j2 : (i : Int) < (s.size : Int) := by omega
      have wi : IntKind.i64.wrap ((i : Int) + 1) = (i : Int) + 1 := IntWalk.i64_in _ (by omega)
      have g9 : decide (i < s.size) = true := decide_eq_true hin
      have hx : s.data.toList[i]? = some s[i] := by rw [Array.getElem?_toList]; exact Array.getElem?_eq_getElem hin
      by_cases hc : s[i].toNat = c
      · have g1 : ((s[i].toNat : Int) == (c : Int)) = true := by rw [hc]; simp
        have e := hid' (show Gen.hasB s c = true by
          unfold Gen.hasB
          rw [List.any_eq_true]
          exact ⟨s[i], List.mem_of_getElem? hx, decide_eq_true hc⟩)
        rw [e.out]
        clear hx hc hls
        go_wp2_with fail
        go_ret
        exact ⟨rfl, rfl⟩
      · have g1 : ((s[i].toNat : Int) == (c : Int)) = false := by rw [beq_eq_false_iff_ne]; omega
        have HN2 := hid' (show ∀ j, j < i + 1 → ∀ x, s.data.toList[j]? = some x → x.toNat ≠ c from fun j hj x hx2 => by
          rcases Nat.lt_or_ge j i with h1 | h1
          · exact HN.out j h1 x hx2
          · obtain rfl : j = i := by omega
            rw [hx] at hx2; cases hx2; exact hc)
        clear hx hc hls
        go_wp2_with fail
        go_roundw
        case rel => exact ⟨i + 1, by go_num, by omega, HN2, by first | rfl | trivial⟩
        case measure => simp [intOf]; omega
    · obtain rfl : i = s.size := by omega
      have e := hid' (show Gen.hasB s c = false by
        unfold Gen.hasB
        rw [List.any_eq_false]
        intro x hx
        obtain ⟨j, hj⟩ := List.getElem?_of_mem hx
        have := HN.out j (by have := (List.getElem?_eq_some_iff.1 hj).1; omega) x hj
        simpa using this)
      rw [e.out]
      have g9 : decide (s.size < s.size) = false := by simp
      clear hin hls
      go_wp2_with fail
      go_ret
      refine ⟨?_, rfl⟩
      rw [e.out]
      rfl
end Go.Proofs.YtiejoapnljkjdaaGreatDoor

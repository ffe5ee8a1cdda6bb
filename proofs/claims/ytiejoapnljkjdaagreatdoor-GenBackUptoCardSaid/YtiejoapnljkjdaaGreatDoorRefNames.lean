/- Proved: the reference's IsName (small, digit, inner, span), IsCur as contracts: the plain names and currencies. No conditions. -/
import Derived.Test.YtiejoapnljkjdaaGreatDoorBase
import Derived.Test.YtiejoapnljkjdaaGreatDoorLedgerPlain
import Derived.Outline
namespace Go.Proofs.YtiejoapnljkjdaaGreatDoor
open Go.RowKit
open Led
set_option linter.unusedVariables false
set_option linter.unusedSimpArgs false
set_option maxRecDepth 100000
def digB (c : UInt8) : Bool := 48 ≤ c.toNat && c.toNat ≤ 57
theorem nameB_is (x : UInt8) : nameB x = (lowB x || (digB x || (x.toNat == 95))) := by unfold nameB lowB digB; rw [Bool.or_assoc]
theorem small_any (x : UInt8) (w : World) : Calls Tryz.prog 112 #[.int .u8 (x.toNat : Int)] w (Ret (.bool (lowB x)) w) := by
  have hx := x.toNat_lt
  by_cases h1 : 97 ≤ (x.toNat : Int)
  · by_cases h2 : (x.toNat : Int) ≤ 122
    · rw [show lowB x = true by unfold lowB; simp; omega]
      go_enter Tryz.func112, Tryz.ntmps112
      go_wp2_with fail
      go_ret
      exact ⟨rfl, rfl⟩
    · rw [show lowB x = false by unfold lowB; simp; omega]
      go_enter Tryz.func112, Tryz.ntmps112
      go_wp2_with fail
      go_ret
      exact ⟨rfl, rfl⟩
  · rw [show lowB x = false by unfold lowB; simp; omega]
    go_enter Tryz.func112, Tryz.ntmps112
    go_wp2_with fail
    go_ret
    exact ⟨rfl, rfl⟩
theorem digit_any (x : UInt8) (w : World) : Calls Tryz.prog 144 #[.int .u8 (x.toNat : Int)] w (Ret (.bool (digB x)) w) := by
  have hx := x.toNat_lt
  by_cases h1 : 48 ≤ (x.toNat : Int)
  · by_cases h2 : (x.toNat : Int) ≤ 57
    · rw [show digB x = true by unfold digB; simp; omega]
      go_enter Tryz.func144, Tryz.ntmps144
      go_wp2_with fail
      go_ret
      exact ⟨rfl, rfl⟩
    · rw [show digB x = false by unfold digB; simp; omega]
      go_enter Tryz.func144, Tryz.ntmps144
      go_wp2_with fail
      go_ret
      exact ⟨rfl, rfl⟩
  · rw [show digB x = false by unfold digB; simp; omega]
    go_enter Tryz.func144, Tryz.ntmps144
    go_wp2_with fail
    go_ret
    exact ⟨rfl, rfl⟩
theorem inner_any (x : UInt8) (w : World) : Calls Tryz.prog 113 #[.int .u8 (x.toNat : Int)] w (Ret (.bool (nameB x)) w) := by
  have HE := hid' (nameB_is x)
  cases h1 : lowB x with
  | true =>
    rw [h1] at HE
    rw [HE.out]
    go_enter Tryz.func113, Tryz.ntmps113
    go_wp2_with (refine (small_any _ _).mono ?_; rintro e w' ⟨rfl, rfl⟩)
    go_ret
    exact ⟨rfl, rfl⟩
  | false =>
    cases h2 : digB x with
    | true =>
      rw [h1, h2] at HE
      rw [HE.out]
      go_enter Tryz.func113, Tryz.ntmps113
      go_wp2_with (first | (go_at_call 112; refine (small_any _ _).mono ?_; rintro e w' ⟨rfl, rfl⟩) | (go_at_call 144; refine (digit_any _ _).mono ?_; rintro e w' ⟨rfl, rfl⟩))
      go_ret
      exact ⟨rfl, rfl⟩
    | false =>
      rw [h1, h2] at HE
      rw [HE.out]
      by_cases h3 : x.toNat = 95
      · have g3 : ((x.toNat : Int) == 95) = true := by rw [beq_iff_eq]; omega
        have g4 : (x.toNat == 95) = true := by rw [beq_iff_eq]; omega
        rw [g4]
        clear h3 g4
        go_enter Tryz.func113, Tryz.ntmps113
        go_wp2_with (first | (go_at_call 112; refine (small_any _ _).mono ?_; rintro e w' ⟨rfl, rfl⟩) | (go_at_call 144; refine (digit_any _ _).mono ?_; rintro e w' ⟨rfl, rfl⟩))
        go_ret
        exact ⟨rfl, rfl⟩
      · have g3 : ((x.toNat : Int) == 95) = false := by rw [beq_eq_false_iff_ne]; omega
        have g4 : (x.toNat == 95) = false := by rw [beq_eq_false_iff_ne]; omega
        rw [g4]
        go_enter Tryz.func113, Tryz.ntmps113
        go_wp2_with (first | (go_at_call 112; refine (small_any _ _).mono ?_; rintro e w' ⟨rfl, rfl⟩) | (go_at_call 144; refine (digit_any _ _).mono ?_; rintro e w' ⟨rfl, rfl⟩))
        go_ret
        exact ⟨rfl, rfl⟩
theorem isName_nil' : isName ⟨#[]⟩ = false := rfl
/-- What of a span is asked: is it the whole text? -/
def SpanPost (s : ByteArray) (w : World) (e : Ending) (w' : World) : Prop := ∃ r : Nat, e = .returned (.int .i64 (r : Int)) ∧ w' = w ∧ (decide (r = s.size) = (s.data.toList.head?.any lowB && s.data.toList.all nameB))
structure SpanAt (s : ByteArray) (n : Nat) : Prop where
  pos : 1 ≤ n
  le : n ≤ s.size
  all : (s.data.toList.take n).all nameB = true
theorem span_take (s : ByteArray) (n : Nat) (h : n < s.size) : s.data.toList.take (n + 1) = s.data.toList.take n ++ [s[n]] := by
  rw [List.take_succ_eq_append_getElem (by rw [len_ba]; exact h)]; rfl
theorem SpanAt.step {s : ByteArray} {n : Nat} (A : SpanAt s n) (h : n < s.size) (hb : nameB s[n] = true) : SpanAt s (n + 1) :=
  ⟨by omega, h, by rw [span_take s n h, List.all_append, A.all]; simp [hb]⟩
theorem low_name {c : UInt8} (h : lowB c = true) : nameB c = true := by rw [nameB_is, h]; rfl
theorem SpanAt.whole {s : ByteArray} (A : SpanAt s s.size) : s.data.toList.all nameB = true := by
  have := A.all
  rwa [← len_ba s, List.take_length] at this
theorem span_stop {s : ByteArray} {n : Nat} (h : n < s.size) (hb : nameB s[n] = false) : s.data.toList.all nameB = false := by
  rw [List.all_eq_false]
  exact ⟨s[n], by have := list_at s n h; exact List.mem_of_getElem? this, by rw [hb]; simp⟩
theorem span_any (s : ByteArray) (w : World) (h0 : 0 < s.size) (hs : s.size ≤ 9223372036854775807) : Calls Tryz.prog 83 #[.string s, .int .i64 0] w (SpanPost s w) := by
  have hhead := hid' (head_ba s h0)
  have hcl : (0 : Int) < (s.size : Int) := by omega
  have hne : ¬ s = ByteArray.empty := by rintro rfl; exact absurd h0 (by decide)
  cases hlo : lowB s[0] with
  | false =>
    have HP := hid' (show SpanPost s w (.returned (.int .i64 0)) w from ⟨0, rfl, rfl, by rw [hhead.out]; simp [hlo]; omega⟩)
    have HS := hid' (small_any s[0] w)
    rw [hlo] at HS
    clear hlo
    go_enter Tryz.func83, Tryz.ntmps83
    go_wp2_with (go_at_call 112; refine (HS.out).mono ?_; rintro e w' ⟨rfl, rfl⟩)
    go_ret
    exact HP.out
  | true =>
    have HS := hid' (small_any s[0] w)
    rw [hlo] at HS
    have HLO := hid' hlo
    clear hlo
    go_enter Tryz.func83, Tryz.ntmps83
    go_wp2_with (go_at_call 112; refine (HS.out).mono ?_; rintro e w' ⟨rfl, rfl⟩)
    go_loopw [6] (fun nv wr => ∃ n : Nat, nv = .int .i64 (n : Int) ∧ n ≤ s.size ∧ Hid (SpanAt s n) ∧ w' = wr) (fun nv _ => s.size - (intOf nv).toNat)
    case atStart => exact ⟨1, rfl, by omega, hid' ⟨by omega, by omega, by rw [span_take s 0 h0]; simp [low_name HLO.out]⟩, rfl⟩
    case round =>
      obtain ⟨n, rfl, hn, HA, rfl⟩ := hrel
      by_cases hl : n < s.size
      · have g0 : decide ((n : Int) < (s.size : Int)) = true := by simp; omega
        cases hb : nameB s[n] with
        | true =>
          have HA2 := hid' (HA.out.step hl hb)
          have HI := hid' (inner_any s[n] w')
          rw [hb] at HI
          clear hb
          go_wp2_with (go_at_call 113; refine (HI.out).mono ?_; rintro e w' ⟨rfl, rfl⟩)
          go_roundw
          case rel => exact ⟨n + 1, by go_num, by omega, HA2, by first | rfl | trivial⟩
          case measure => simp [intOf]; omega
        | false =>
          have HP := hid' (show SpanPost s w' (.returned (.int .i64 (n : Int))) w' from ⟨n, rfl, rfl, by rw [span_stop hl hb, Bool.and_false]; simp; omega⟩)
          have HI := hid' (inner_any s[n] w')
          rw [hb] at HI
          clear hb
          go_wp2_with (go_at_call 113; refine (HI.out).mono ?_; rintro e w' ⟨rfl, rfl⟩)
          go_ret
          exact HP.out
      · obtain rfl : n = s.size := by omega
        have g0 : decide (s.size < s.size) = false := by simp
        have HP := hid' (show SpanPost s w' (.returned (.int .i64 (s.size : Int))) w' from ⟨s.size, rfl, rfl, by rw [HA.out.whole, hhead.out]; simp [HLO.out]⟩)
        clear hl
        go_wp2_with fail
        go_ret
        exact HP.out
theorem isName_span (s : ByteArray) (h : 0 < s.size) : isName s = (decide (s.size ≤ 24) && (s.data.toList.head?.any lowB && s.data.toList.all nameB)) := by
  have hl := len_ba s
  unfold isName
  cases hc : s.data.toList with
  | nil => rw [hc] at hl; simp at hl; omega
  | cons c t =>
    rw [hc] at hl
    simp only [List.length_cons] at hl
    simp [hl]
theorem refIsName_any (s : ByteArray) (w : World) (hs : s.size ≤ 9223372036854775807) : Calls Tryz.prog 45 #[.string s] w (Ret (.bool (isName s)) w) := by
  by_cases h0 : 0 < s.size
  · have HE := hid' (isName_span s h0)
    rw [HE.out]
    have i0 : (0 : Int) < (s.size : Int) := by omega
    by_cases h24 : s.size ≤ 24
    · rw [decide_eq_true h24, Bool.true_and]
      have HSP := hid' (span_any s w h0 hs)
      obtain ⟨q, hqq⟩ : ∃ q, Hid (q = (s.data.toList.head?.any lowB && s.data.toList.all nameB)) := ⟨_, rfl⟩
      rw [← hqq.out]
      have g24 : decide ((s.size : Int) ≤ 24) = true := by simp; omega
      have HQ := hid' (fun r : Nat => show decide (r = s.size) = q → ((r : Int) == (s.size : Int)) = q from fun h => by
        rw [← h]
        by_cases e : r = s.size
        · rw [decide_eq_true e, beq_iff_eq, e]
        · rw [decide_eq_false e, beq_eq_false_iff_ne]; omega)
      go_enter Tryz.func45, Tryz.ntmps45
      go_wp2_with fail
      refine HSP.out.mono ?_
      rintro e w1 ⟨r, rfl, rfl, hr⟩
      rw [← hqq.out] at hr
      have hq := HQ.out r hr
      clear hr
      go_wp2_with fail
      go_ret
      exact ⟨rfl, rfl⟩
    · rw [decide_eq_false h24, Bool.false_and]
      have g24 : decide ((s.size : Int) ≤ 24) = false := by simp; omega
      go_enter Tryz.func45, Tryz.ntmps45
      go_wp2_with fail
      go_ret
      exact ⟨rfl, rfl⟩
  · obtain rfl := nil_of_size (show s.size = 0 by omega)
    rw [isName_nil']
    go_enter Tryz.func45, Tryz.ntmps45
    go_wp2_with fail
    go_ret
    exact ⟨rfl, rfl⟩
structure CurSpan (s : ByteArray) (n : Nat) : Prop where
  le : n ≤ 3
  all : (s.data.toList.take n).all curB = true
theorem refIsCur_any (s : ByteArray) (w : World) (hs : s.size ≤ 9223372036854775807) : Calls Tryz.prog 84 #[.string s] w (Ret (.bool (isCur s)) w) := by
  have E : isCur s = (decide (s.size = 3) && s.data.toList.all curB) := rfl
  rw [E]
  clear E
  by_cases h3 : s.size = 3
  · rw [decide_eq_true h3, Bool.true_and]
    have H3 := hid' h3
    have h3' : ((s.size : Int) != 3) = false := by rw [h3]; rfl
    clear hs h3
    go_enter Tryz.func84, Tryz.ntmps84
    go_wp2_with fail
    go_loopw [3] (fun nv wr => ∃ n : Nat, nv = .int .i64 (n : Int) ∧ n ≤ 3 ∧ Hid (CurSpan s n) ∧ w = wr) (fun nv _ => 3 - (intOf nv).toNat)
    case atStart => exact ⟨0, rfl, by omega, hid' ⟨by omega, rfl⟩, rfl⟩
    case round =>
      obtain ⟨n, rfl, hn, HA, rfl⟩ := hrel
      by_cases hl : n < 3
      · have hls : n < s.size := by have := H3.out; omega
        have g0 : decide ((n : Int) < 3) = true := by simp; omega
        have g1 : (n : Int) < (s.size : Int) := by omega
        have hx := s[n].toNat_lt
        have htk := span_take s n hls
        by_cases c1 : (s[n].toNat : Int) < 65
        · have HE := hid' (show s.data.toList.all curB = false by
            rw [List.all_eq_false]; exact ⟨s[n], List.mem_of_getElem? (list_at s n hls), by unfold curB; simp; omega⟩)
          rw [HE.out]
          clear htk
          go_wp2_with fail
          go_ret
          exact ⟨rfl, rfl⟩
        · by_cases c2 : 90 < (s[n].toNat : Int)
          · have HE := hid' (show s.data.toList.all curB = false by
              rw [List.all_eq_false]; exact ⟨s[n], List.mem_of_getElem? (list_at s n hls), by unfold curB; simp; omega⟩)
            rw [HE.out]
            clear htk
            go_wp2_with fail
            go_ret
            exact ⟨rfl, rfl⟩
          · have HA2 := hid' (show CurSpan s (n + 1) from ⟨by omega, by rw [htk, List.all_append, HA.out.all]; unfold curB; simp; omega⟩)
            clear htk
            go_wp2_with fail
            go_roundw
            case rel => exact ⟨n + 1, by go_num, by omega, HA2, by first | rfl | trivial⟩
            case measure => simp [intOf]; omega
      · obtain rfl : n = 3 := by omega
        have HE := hid' (show s.data.toList.all curB = true by
          have := HA.out.all
          rwa [← H3.out, ← len_ba s, List.take_length] at this)
        clear hl
        go_wp2_with fail
        go_ret
        exact ⟨by rw [HE.out]; rfl, rfl⟩
  · rw [decide_eq_false h3, Bool.false_and]
    have h3' : ((s.size : Int) != 3) = true := by rw [bne_iff_ne]; omega
    clear h3
    go_enter Tryz.func84, Tryz.ntmps84
    go_wp2_with fail
    go_ret
    exact ⟨rfl, rfl⟩
end Go.Proofs.YtiejoapnljkjdaaGreatDoor

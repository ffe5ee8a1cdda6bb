/- Proved: oracle's isName and the reference's IsName as contracts: the plain names. No conditions. -/
import Derived.Test.YtmddaomchhigbaaGreatDoorBase
import Derived.Test.YtmddaomchhigbaaGreatDoorLedgerPlain
import Derived.Test.YtmddaomchhigbaaGreatDoorShelf
import Derived.Shelf.Strings.SlTrimAscii
import Derived.Outline
import Derived.BigQuiet
import Derived.BigRegion
import Derived.Deep.QuietTactic
import Derived.Deep.RegionWith
import Derived.StillTailTactics
namespace Go.Proofs.YtmddaomchhigbaaGreatDoor
open Go.RowKit
set_option linter.unusedVariables false
set_option linter.unusedSimpArgs false
namespace Led
def nameSet : List UInt8 := [97, 98, 99, 100, 101, 102, 103, 104, 105, 106, 107, 108, 109, 110, 111, 112, 113, 114, 115, 116, 117, 118, 119, 120, 121, 122, 48, 49, 50, 51, 52, 53, 54, 55, 56, 57, 95]
def curSet : List UInt8 := [65, 66, 67, 68, 69, 70, 71, 72, 73, 74, 75, 76, 77, 78, 79, 80, 81, 82, 83, 84, 85, 86, 87, 88, 89, 90]
theorem of_fin (p q : UInt8 → Bool) (h : ∀ n : Fin 256, p (UInt8.ofNat n.val) = q (UInt8.ofNat n.val)) : ∀ c, p c = q c := by
  intro c
  have := h ⟨c.toNat, c.toNat_lt⟩
  simpa using this
theorem nameSet_contains : ∀ c : UInt8, nameSet.contains c = nameB c := of_fin _ _ (by decide +kernel)
theorem curSet_contains : ∀ c : UInt8, curSet.contains c = curB c := of_fin _ _ (by decide +kernel)
theorem trim_nil (set : List UInt8) (p : UInt8 → Bool) (hp : ∀ c, set.contains c = p c) (l : List UInt8) : (Lib.trimS l set = []) ↔ l.all p = true := by
  have e : (fun x => set.contains x) = p := funext hp
  unfold Lib.trimS Lib.trimLeftS Lib.trimRightS
  rw [e, dropWhile_nil]
  constructor
  · intro h
    have h2 : (l.reverse.dropWhile p).all p = true := by simpa using h
    have h3 : l.reverse.dropWhile p = [] := by
      cases hc : l.reverse.dropWhile p with
      | nil => rfl
      | cons a t =>
        have h4 := List.head?_dropWhile_not p l.reverse
        rw [hc] at h4 h2
        simp at h4 h2
        rw [h2.1] at h4
        cases h4
    rw [dropWhile_nil] at h3
    simpa using h3
  · intro h
    have h3 : l.reverse.dropWhile p = [] := by rw [dropWhile_nil]; simpa using h
    rw [h3]
    rfl
theorem isName_eq (s : ByteArray) (h : 0 < s.size) : isName s = (decide (s.size ≤ 24) && (lowB s[0] && s.data.toList.all nameB)) := by
  have e := head_ba s h
  have hl := len_ba s
  unfold isName
  cases hc : s.data.toList with
  | nil => rw [hc] at hl; simp at hl; omega
  | cons c t =>
    rw [hc] at e hl
    have : c = s[0] := Option.some.inj e
    simp only [List.length_cons] at hl
    simp only [this, hl]
theorem isName_nil : isName ⟨#[]⟩ = false := rfl
end Led
open Led

/-- strings.Trim at the names' signs: nothing is left just where all are such. -/
theorem trimName_any (s : ByteArray) (w : World) (hs : s.size ≤ 9223372036854775807) :
    Calls Tryz.prog 57 #[.string s, .string ⟨#[97, 98, 99, 100, 101, 102, 103, 104, 105, 106, 107, 108, 109, 110, 111, 112, 113, 114, 115, 116, 117, 118, 119, 120, 121, 122, 48, 49, 50, 51, 52, 53, 54, 55, 56, 57, 95]⟩] w fun e w' => e = .returned (.string ⟨(Lib.trimS s.data.toList nameSet).toArray⟩) ∧ Below w.heap.size w w' :=
  Any.strings_Trim_laid Tryz.lays160 (by kernel_rfl) s ⟨#[97, 98, 99, 100, 101, 102, 103, 104, 105, 106, 107, 108, 109, 110, 111, 112, 113, 114, 115, 116, 117, 118, 119, 120, 121, 122, 48, 49, 50, 51, 52, 53, 54, 55, 56, 57, 95]⟩ w hs (by decide) (ascii_of_all (by decide))
/-- What of a trimmed text is asked: is it empty? -/
theorem trim_cases (set : List UInt8) (p : UInt8 → Bool) (hp : ∀ c, set.contains c = p c) (l : List UInt8) :
    (l.all p = true ∧ (⟨(Lib.trimS l set).toArray⟩ : ByteArray) = ⟨#[]⟩) ∨ (l.all p = false ∧ ∃ t : ByteArray, (⟨(Lib.trimS l set).toArray⟩ : ByteArray) = t ∧ t.toList.isEmpty = false) := by
  have T := trim_nil set p hp l
  cases h : l.all p with
  | true => rw [T.2 h]; exact Or.inl ⟨rfl, rfl⟩
  | false =>
    refine Or.inr ⟨rfl, _, rfl, nonempty_list ?_⟩
    intro e
    have h1 : (Lib.trimS l set).toArray = #[] := congrArg ByteArray.data e
    have h2 : Lib.trimS l set = [] := by simpa using h1
    rw [T.1 h2] at h
    cases h

set_option maxHeartbeats 1000000 in
theorem isName_any (s : ByteArray) (w : World) (hs : s.size ≤ 9223372036854775807) : Calls Tryz.prog 39 #[.string s] w (Gives (.bool (isName s)) w) := by
  by_cases h0 : 0 < s.size
  · have hnl : s.toList.isEmpty = false := nonempty_list (by rintro rfl; simp [ByteArray.size] at h0)
    have E := hid' (isName_eq s h0)
    rw [E.out]
    clear E
    by_cases h24 : s.size ≤ 24
    · rw [decide_eq_true h24]
      by_cases hlo : 97 ≤ (s[0].toNat : Int)
      · by_cases hhi : (s[0].toNat : Int) ≤ 122
        · have hl : lowB s[0] = true := by unfold lowB; simp; omega
          rw [hl]
          have HT := hid' (fun w => trimName_any s w hs)
          rcases trim_cases nameSet nameB nameSet_contains s.data.toList with ⟨h1, h2⟩ | ⟨h1, t, h2, h3⟩
          · rw [h1]
            rw [h2] at HT
            clear h1 h2 hl
            go_enter Tryz.func39, Tryz.ntmps39
            go_wp2_with fail
            refine (HT.out _).mono ?_
            rintro e w1 ⟨rfl, b1⟩
            go_wp2_with fail
            go_ret
            exact ⟨rfl, b1⟩
          · rw [h1]
            rw [h2] at HT
            clear h1 h2 hl
            go_enter Tryz.func39, Tryz.ntmps39
            go_wp2_with fail
            refine (HT.out _).mono ?_
            rintro e w1 ⟨rfl, b1⟩
            go_wp2_with fail
            go_ret
            exact ⟨rfl, b1⟩
        · have hl : lowB s[0] = false := by unfold lowB; simp; omega
          rw [hl]
          clear hl
          go_enter Tryz.func39, Tryz.ntmps39
          go_wp2_with fail
          go_ret
          exact ⟨rfl, Below.refl _ _⟩
      · have hl : lowB s[0] = false := by unfold lowB; simp; omega
        rw [hl]
        clear hl
        go_enter Tryz.func39, Tryz.ntmps39
        go_wp2_with fail
        go_ret
        exact ⟨rfl, Below.refl _ _⟩
    · rw [decide_eq_false h24]
      go_enter Tryz.func39, Tryz.ntmps39
      go_wp2_with fail
      go_ret
      exact ⟨rfl, Below.refl _ _⟩
  · obtain rfl := nil_of_size (show s.size = 0 by omega)
    rw [isName_nil]
    go_enter Tryz.func39, Tryz.ntmps39
    go_wp2_with fail
    go_ret
    exact ⟨rfl, Below.refl _ _⟩
set_option maxRecDepth 100000
def digB (c : UInt8) : Bool := 48 ≤ c.toNat && c.toNat ≤ 57
theorem nameB_is (x : UInt8) : nameB x = (lowB x || (digB x || (x.toNat == 95))) := by unfold nameB lowB digB; rw [Bool.or_assoc]
theorem small_any (x : UInt8) (w : World) : Calls Tryz.prog 61 #[.int .u8 (x.toNat : Int)] w (Ret (.bool (lowB x)) w) := by
  have hx := x.toNat_lt
  by_cases h1 : 97 ≤ (x.toNat : Int)
  · by_cases h2 : (x.toNat : Int) ≤ 122
    · rw [show lowB x = true by unfold lowB; simp; omega]
      go_enter Tryz.func61, Tryz.ntmps61
      go_wp2_with fail
      go_ret
      exact ⟨rfl, rfl⟩
    · rw [show lowB x = false by unfold lowB; simp; omega]
      go_enter Tryz.func61, Tryz.ntmps61
      go_wp2_with fail
      go_ret
      exact ⟨rfl, rfl⟩
  · rw [show lowB x = false by unfold lowB; simp; omega]
    go_enter Tryz.func61, Tryz.ntmps61
    go_wp2_with fail
    go_ret
    exact ⟨rfl, rfl⟩
theorem digit_any (x : UInt8) (w : World) : Calls Tryz.prog 87 #[.int .u8 (x.toNat : Int)] w (Ret (.bool (digB x)) w) := by
  have hx := x.toNat_lt
  by_cases h1 : 48 ≤ (x.toNat : Int)
  · by_cases h2 : (x.toNat : Int) ≤ 57
    · rw [show digB x = true by unfold digB; simp; omega]
      go_enter Tryz.func87, Tryz.ntmps87
      go_wp2_with fail
      go_ret
      exact ⟨rfl, rfl⟩
    · rw [show digB x = false by unfold digB; simp; omega]
      go_enter Tryz.func87, Tryz.ntmps87
      go_wp2_with fail
      go_ret
      exact ⟨rfl, rfl⟩
  · rw [show digB x = false by unfold digB; simp; omega]
    go_enter Tryz.func87, Tryz.ntmps87
    go_wp2_with fail
    go_ret
    exact ⟨rfl, rfl⟩
theorem inner_any (x : UInt8) (w : World) : Calls Tryz.prog 62 #[.int .u8 (x.toNat : Int)] w (Ret (.bool (nameB x)) w) := by
  have HE := hid' (nameB_is x)
  cases h1 : lowB x with
  | true =>
    rw [h1] at HE
    rw [HE.out]
    go_enter Tryz.func62, Tryz.ntmps62
    go_wp2_with (refine (small_any _ _).mono ?_; rintro e w' ⟨rfl, rfl⟩)
    go_ret
    exact ⟨rfl, rfl⟩
  | false =>
    cases h2 : digB x with
    | true =>
      rw [h1, h2] at HE
      rw [HE.out]
      go_enter Tryz.func62, Tryz.ntmps62
      go_wp2_with (first | (go_at_call 61; refine (small_any _ _).mono ?_; rintro e w' ⟨rfl, rfl⟩) | (go_at_call 87; refine (digit_any _ _).mono ?_; rintro e w' ⟨rfl, rfl⟩))
      go_ret
      exact ⟨rfl, rfl⟩
    | false =>
      rw [h1, h2] at HE
      rw [HE.out]
      by_cases h3 : x.toNat = 95
      · have g3 : ((x.toNat : Int) == 95) = true := by rw [beq_iff_eq]; omega
        have g4 : (x.toNat == 95) = true := by rw [beq_iff_eq]; omega
        rw [g4]
        clear h3 g4
        go_enter Tryz.func62, Tryz.ntmps62
        go_wp2_with (first | (go_at_call 61; refine (small_any _ _).mono ?_; rintro e w' ⟨rfl, rfl⟩) | (go_at_call 87; refine (digit_any _ _).mono ?_; rintro e w' ⟨rfl, rfl⟩))
        go_ret
        exact ⟨rfl, rfl⟩
      · have g3 : ((x.toNat : Int) == 95) = false := by rw [beq_eq_false_iff_ne]; omega
        have g4 : (x.toNat == 95) = false := by rw [beq_eq_false_iff_ne]; omega
        rw [g4]
        go_enter Tryz.func62, Tryz.ntmps62
        go_wp2_with (first | (go_at_call 61; refine (small_any _ _).mono ?_; rintro e w' ⟨rfl, rfl⟩) | (go_at_call 87; refine (digit_any _ _).mono ?_; rintro e w' ⟨rfl, rfl⟩))
        go_ret
        exact ⟨rfl, rfl⟩
theorem isName_nil' : isName ⟨#[]⟩ = false := rfl
/-- What of a span is asked: is it the whole text? -/
def SpanPost (s : ByteArray) (w : World) (e : Ending) (w' : World) : Prop := ∃ r : Nat, e = .returned (.int .i64 (r : Int)) ∧ w' = w ∧ (decide (r = s.size) = (s.data.toList.head?.any lowB && s.data.toList.all nameB))
structure SpanAt (s : ByteArray) (n : Nat) : Prop where
  pos : 1 ≤ n
  le : n ≤ s.size
  all : (s.data.toList.take n).all nameB = true
theorem span_take (s : ByteArray) (n : Nat) (h : n < s.size) : s.data.toList.take (n + 1) = s.data.toList.take n ++ [s[n]] := by
  rw [List.take_succ_eq_append_getElem (by rw [len_ba]; exact h)]; rfl
theorem SpanAt.step {s : ByteArray} {n : Nat} (A : SpanAt s n) (h : n < s.size) (hb : nameB s[n] = true) : SpanAt s (n + 1) :=
  ⟨by omega, h, by rw [span_take s n h, List.all_append, A.all]; simp [hb]⟩
theorem low_name {c : UInt8} (h : lowB c = true) : nameB c = true := by rw [nameB_is, h]; rfl
theorem SpanAt.whole {s : ByteArray} (A : SpanAt s s.size) : s.data.toList.all nameB = true := by
  have := A.all
  rwa [← len_ba s, List.take_length] at this
theorem span_stop {s : ByteArray} {n : Nat} (h : n < s.size) (hb : nameB s[n] = false) : s.data.toList.all nameB = false := by
  rw [List.all_eq_false]
  exact ⟨s[n], by have := list_at s n h; exact List.mem_of_getElem? this, by rw [hb]; simp⟩
theorem span_any (s : ByteArray) (w : World) (h0 : 0 < s.size) (hs : s.size ≤ 9223372036854775807) : Calls Tryz.prog 45 #[.string s, .int .i64 0] w (SpanPost s w) := by
  have hhead := hid' (head_ba s h0)
  have hcl : (0 : Int) < (s.size : Int) := by omega
  have hne : ¬ s = ByteArray.empty := by rintro rfl; exact absurd h0 (by decide)
  cases hlo : lowB s[0] with
  | false =>
    have HP := hid' (show SpanPost s w (.returned (.int .i64 0)) w from ⟨0, rfl, rfl, by rw [hhead.out]; simp [hlo]; omega⟩)
    have HS := hid' (small_any s[0] w)
    rw [hlo] at HS
    clear hlo
    go_enter Tryz.func45, Tryz.ntmps45
    go_wp2_with (go_at_call 61; refine (HS.out).mono ?_; rintro e w' ⟨rfl, rfl⟩)
    go_ret
    exact HP.out
  | true =>
    have HS := hid' (small_any s[0] w)
    rw [hlo] at HS
    have HLO := hid' hlo
    clear hlo
    go_enter Tryz.func45, Tryz.ntmps45
    go_wp2_with (go_at_call 61; refine (HS.out).mono ?_; rintro e w' ⟨rfl, rfl⟩)
    go_loopw [6] (fun nv wr => ∃ n : Nat, nv = .int .i64 (n : Int) ∧ n ≤ s.size ∧ Hid (SpanAt s n) ∧ w' = wr) (fun nv _ => s.size - (intOf nv).toNat)
    case atStart => exact ⟨1, rfl, by omega, hid' ⟨by omega, by omega, by rw [span_take s 0 h0]; simp [low_name HLO.out]⟩, rfl⟩
    case round =>
      obtain ⟨n, rfl, hn, HA, rfl⟩ := hrel
      by_cases hl : n < s.size
      · have g0 : decide ((n : Int) < (s.size : Int)) = true := by simp; omega
        cases hb : nameB s[n] with
        | true =>
          have HA2 := hid' (HA.out.step hl hb)
          have HI := hid' (inner_any s[n] w')
          rw [hb] at HI
          clear hb
          go_wp2_with (go_at_call 62; refine (HI.out).mono ?_; rintro e w' ⟨rfl, rfl⟩)
          go_roundw
          case rel => exact ⟨n + 1, by go_num, by omega, HA2, by first | rfl | trivial⟩
          case measure => simp [intOf]; omega
        | false =>
          have HP := hid' (show SpanPost s w' (.returned (.int .i64 (n : Int))) w' from ⟨n, rfl, rfl, by rw [span_stop hl hb, Bool.and_false]; simp; omega⟩)
          have HI := hid' (inner_any s[n] w')
          rw [hb] at HI
          clear hb
          go_wp2_with (go_at_call 62; refine (HI.out).mono ?_; rintro e w' ⟨rfl, rfl⟩)
          go_ret
          exact HP.out
      · obtain rfl : n = s.size := by omega
        have g0 : decide (s.size < s.size) = false := by simp
        have HP := hid' (show SpanPost s w' (.returned (.int .i64 (s.size : Int))) w' from ⟨s.size, rfl, rfl, by rw [HA.out.whole, hhead.out]; simp [HLO.out]⟩)
        clear hl
        go_wp2_with fail
        go_ret
        exact HP.out
theorem isName_span (s : ByteArray) (h : 0 < s.size) : isName s = (decide (s.size ≤ 24) && (s.data.toList.head?.any lowB && s.data.toList.all nameB)) := by
  have hl := len_ba s
  unfold isName
  cases hc : s.data.toList with
  | nil => rw [hc] at hl; simp at hl; omega
  | cons c t =>
    rw [hc] at hl
    simp only [List.length_cons] at hl
    simp [hl]
theorem refIsName_any (s : ByteArray) (w : World) (hs : s.size ≤ 9223372036854775807) : Calls Tryz.prog 28 #[.string s] w (Ret (.bool (isName s)) w) := by
  by_cases h0 : 0 < s.size
  · have HE := hid' (isName_span s h0)
    rw [HE.out]
    have i0 : (0 : Int) < (s.size : Int) := by omega
    by_cases h24 : s.size ≤ 24
    · rw [decide_eq_true h24, Bool.true_and]
      have HSP := hid' (span_any s w h0 hs)
      obtain ⟨q, hqq⟩ : ∃ q, Hid (q = (s.data.toList.head?.any lowB && s.data.toList.all nameB)) := ⟨_, rfl⟩
      rw [← hqq.out]
      have g24 : decide ((s.size : Int) ≤ 24) = true := by simp; omega
      have HQ := hid' (fun r : Nat => show decide (r = s.size) = q → ((r : Int) == (s.size : Int)) = q from fun h => by
        rw [← h]
        by_cases e : r = s.size
        · rw [decide_eq_true e, beq_iff_eq, e]
        · rw [decide_eq_false e, beq_eq_false_iff_ne]; omega)
      go_enter Tryz.func28, Tryz.ntmps28
      go_wp2_with fail
      refine HSP.out.mono ?_
      rintro e w1 ⟨r, rfl, rfl, hr⟩
      rw [← hqq.out] at hr
      have hq := HQ.out r hr
      clear hr
      go_wp2_with fail
      go_ret
      exact ⟨rfl, rfl⟩
    · rw [decide_eq_false h24, Bool.false_and]
      have g24 : decide ((s.size : Int) ≤ 24) = false := by simp; omega
      go_enter Tryz.func28, Tryz.ntmps28
      go_wp2_with fail
      go_ret
      exact ⟨rfl, rfl⟩
  · obtain rfl := nil_of_size (show s.size = 0 by omega)
    rw [isName_nil']
    go_enter Tryz.func28, Tryz.ntmps28
    go_wp2_with fail
    go_ret
    exact ⟨rfl, rfl⟩
structure CurSpan (s : ByteArray) (n : Nat) : Prop where
  le : n ≤ 3
  all : (s.data.toList.take n).all curB = true
end Go.Proofs.YtmddaomchhigbaaGreatDoor

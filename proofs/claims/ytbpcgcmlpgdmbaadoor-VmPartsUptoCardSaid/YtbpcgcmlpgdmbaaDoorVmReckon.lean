/- Proved: vm's truth, reckon, jumps, isDay, isName as contracts. -/
import Derived.Test.YtbpcgcmlpgdmbaaDoorVmRun
import Derived.Test.YtbpcgcmlpgdmbaaDoorGenIs
namespace Go.Proofs.YtbpcgcmlpgdmbaaDoor
open Go.RowKit
set_option linter.unusedVariables false
set_option linter.unusedSimpArgs false
set_option maxRecDepth 100000
theorem vtruth_any (b : Bool) (w : World) : Calls Tryd.prog 43 #[.bool b] w (Ret (.int .i64 (Vm.truth b)) w) := by
  cases b with
  | true =>
    go_enter Tryd.func43, Tryd.ntmps43
    go_wp2_with fail
    go_ret
    exact ⟨rfl, rfl⟩
  | false =>
    go_enter Tryd.func43, Tryd.ntmps43
    go_wp2_with fail
    go_ret
    exact ⟨rfl, rfl⟩
theorem visDay_any (n : Int) (w : World) : Calls Tryd.prog 11 #[.int .i64 n] w (Ret (.bool (decide (0 ≤ n) && decide (n ≤ 73048))) w) := by
  by_cases h1 : 0 ≤ n
  · have g1 : decide (0 ≤ n) = true := decide_eq_true h1
    have e := hid' (show (decide (0 ≤ n) && decide (n ≤ 73048)) = decide (n ≤ 73048) by rw [g1, Bool.true_and])
    rw [e.out]
    clear h1
    go_enter Tryd.func11, Tryd.ntmps11
    go_wp2_with fail
    go_ret
    exact ⟨rfl, rfl⟩
  · have g1 : decide (0 ≤ n) = false := decide_eq_false h1
    have e := hid' (show (decide (0 ≤ n) && decide (n ≤ 73048)) = false by rw [g1, Bool.false_and])
    rw [e.out]
    clear h1
    go_enter Tryd.func11, Tryd.ntmps11
    go_wp2_with fail
    go_ret
    exact ⟨rfl, rfl⟩
theorem visName_any (s : ByteArray) (w : World) (hs : s.size ≤ 9223372036854775807) : Calls Tryd.prog 9 #[.string s] w (Gives (.bool (Led.isName s)) w) := by
  have HT := hid' (type_feed s w hs)
  go_enter Tryd.func9, Tryd.ntmps9
  go_wp2_with fail
  refine HT.out.mono ?_
  rintro e w1 ⟨rfl, b1⟩
  go_wp2_with fail
  go_ret
  exact ⟨rfl, b1⟩
theorem gives_ret {v : Value} {w w' : World} {e : Ending} (h : Ret v w e w') : Gives v w e w' := ⟨h.1, by rw [h.2]; exact Below.refl _ _⟩
theorem gives_drew {v : Value} {w w' : World} {e : Ending} (h : Drew v w e w') : Gives v w e w' := by
  obtain ⟨h1, n, h2⟩ := h
  exact ⟨h1, by rw [h2]; exact Below.drewn (Below.refl _ _) n⟩
theorem reckon_4 (b c : Int) (w : World) : Calls Tryd.prog 29 #[.int .i64 4, .int .i64 b, .int .i64 c] w (Gives (.int .i64 (Num.neg b)) w) := by
  have HC := hid' (fun W => neg_any b W)
  generalize Num.neg b = R at *
  go_enter Tryd.func29, Tryd.ntmps29
  go_wp2_with (first | (go_at_call 28; refine (HC.out _).mono ?_; intro e w' hg; have hg := gives_ret hg; obtain ⟨rfl, hb1⟩ := hg))
  go_ret
  exact ⟨rfl, hb1⟩
theorem reckon_12 (b c : Int) (w : World) : Calls Tryd.prog 29 #[.int .i64 12, .int .i64 b, .int .i64 c] w (Gives (.int .i64 (Vm.truth (decide (b = 0)))) w) := by
  have HC := hid' (fun W => vtruth_any (decide (b = 0)) W)
  by_cases hb : b = 0
  · have e := hid' (show decide (b = 0) = true from decide_eq_true hb)
    rw [e.out] at HC ⊢
    have e2 : (b == 0) = true := by rw [hb]; exact beq_self_eq_true _
    clear hb
    generalize Vm.truth true = R at *
    go_enter Tryd.func29, Tryd.ntmps29
    go_wp2_with (first | (go_at_call 43; refine (HC.out _).mono ?_; intro e w' hg; have hg := gives_ret hg; obtain ⟨rfl, hb1⟩ := hg))
    go_ret
    exact ⟨rfl, hb1⟩
  · have e := hid' (show decide (b = 0) = false from decide_eq_false hb)
    rw [e.out] at HC ⊢
    have e2 : (b == 0) = false := by rw [beq_eq_false_iff_ne]; exact hb
    clear hb
    generalize Vm.truth false = R at *
    go_enter Tryd.func29, Tryd.ntmps29
    go_wp2_with (first | (go_at_call 43; refine (HC.out _).mono ?_; intro e w' hg; have hg := gives_ret hg; obtain ⟨rfl, hb1⟩ := hg))
    go_ret
    exact ⟨rfl, hb1⟩
theorem reckon_5 (b c : Int) (w : World) : Calls Tryd.prog 29 #[.int .i64 5, .int .i64 b, .int .i64 c] w (Gives (.int .i64 (Num.add b c)) w) := by
  have HC := hid' (fun W => add_any b c W)
  generalize Num.add b c = R at *
  go_enter Tryd.func29, Tryd.ntmps29
  go_wp2_with (first | (go_at_call 44; refine (HC.out _).mono ?_; intro e w' hg; have hg := gives_ret hg; obtain ⟨rfl, hb1⟩ := hg))
  go_ret
  exact ⟨rfl, hb1⟩
theorem reckon_6 (b c : Int) (w : World) : Calls Tryd.prog 29 #[.int .i64 6, .int .i64 b, .int .i64 c] w (Gives (.int .i64 (Num.sub b c)) w) := by
  have HC := hid' (fun W => sub_any b c W)
  generalize Num.sub b c = R at *
  go_enter Tryd.func29, Tryd.ntmps29
  go_wp2_with (first | (go_at_call 45; refine (HC.out _).mono ?_; intro e w' hg; have hg := gives_ret hg; obtain ⟨rfl, hb1⟩ := hg))
  go_ret
  exact ⟨rfl, hb1⟩
theorem reckon_7 (b c : Int) (w : World) : Calls Tryd.prog 29 #[.int .i64 7, .int .i64 b, .int .i64 c] w (Gives (.int .i64 (Num.mul b c)) w) := by
  have HC := hid' (fun W => mul_any b c W)
  generalize Num.mul b c = R at *
  go_enter Tryd.func29, Tryd.ntmps29
  go_wp2_with (first | (go_at_call 27; refine (HC.out _).mono ?_; intro e w' hg; have hg := gives_drew hg; obtain ⟨rfl, hb1⟩ := hg))
  go_ret
  exact ⟨rfl, hb1⟩
theorem reckon_8 (b c : Int) (w : World) : Calls Tryd.prog 29 #[.int .i64 8, .int .i64 b, .int .i64 c] w (Gives (.int .i64 (Num.div b c)) w) := by
  have HC := hid' (fun W => div_any b c W)
  generalize Num.div b c = R at *
  go_enter Tryd.func29, Tryd.ntmps29
  go_wp2_with (first | (go_at_call 46; refine (HC.out _).mono ?_; intro e w' hg; have hg := gives_drew hg; obtain ⟨rfl, hb1⟩ := hg))
  go_ret
  exact ⟨rfl, hb1⟩
theorem reckon_9 (b c : Int) (w : World) : Calls Tryd.prog 29 #[.int .i64 9, .int .i64 b, .int .i64 c] w (Gives (.int .i64 (Vm.truth (decide (b < c)))) w) := by
  have HC := hid' (fun W => vtruth_any (decide (b < c)) W)
  go_enter Tryd.func29, Tryd.ntmps29
  go_wp2_with (first | (go_at_call 43; refine (HC.out _).mono ?_; intro e w' hg; have hg := gives_ret hg; obtain ⟨rfl, hb1⟩ := hg))
  go_ret
  exact ⟨rfl, hb1⟩
theorem reckon_13 (b c : Int) (w : World) : Calls Tryd.prog 29 #[.int .i64 13, .int .i64 b, .int .i64 c] w (Gives (.int .i64 (Vm.truth (decide (b < c)))) w) := by
  have HC := hid' (fun W => vtruth_any (decide (b < c)) W)
  go_enter Tryd.func29, Tryd.ntmps29
  go_wp2_with (first | (go_at_call 43; refine (HC.out _).mono ?_; intro e w' hg; have hg := gives_ret hg; obtain ⟨rfl, hb1⟩ := hg))
  go_ret
  exact ⟨rfl, hb1⟩
theorem reckon_10 (b c : Int) (w : World) : Calls Tryd.prog 29 #[.int .i64 10, .int .i64 b, .int .i64 c] w (Gives (.int .i64 (Vm.truth (decide (b ≤ c)))) w) := by
  have HC := hid' (fun W => vtruth_any (decide (b ≤ c)) W)
  go_enter Tryd.func29, Tryd.ntmps29
  go_wp2_with (first | (go_at_call 43; refine (HC.out _).mono ?_; intro e w' hg; have hg := gives_ret hg; obtain ⟨rfl, hb1⟩ := hg))
  go_ret
  exact ⟨rfl, hb1⟩
theorem reckon_11 (b c : Int) (w : World) : Calls Tryd.prog 29 #[.int .i64 11, .int .i64 b, .int .i64 c] w (Gives (.int .i64 (Vm.truth (decide (b = c)))) w) := by
  have HC := hid' (fun W => vtruth_any (decide (b = c)) W)
  by_cases hb : b = c
  · have e := hid' (show decide (b = c) = true from decide_eq_true hb)
    rw [e.out] at HC ⊢
    have e2 : (b == c) = true := by rw [hb]; exact beq_self_eq_true _
    clear hb
    generalize Vm.truth true = R at *
    go_enter Tryd.func29, Tryd.ntmps29
    go_wp2_with (first | (go_at_call 43; refine (HC.out _).mono ?_; intro e w' hg; have hg := gives_ret hg; obtain ⟨rfl, hb1⟩ := hg))
    go_ret
    exact ⟨rfl, hb1⟩
  · have e := hid' (show decide (b = c) = false from decide_eq_false hb)
    rw [e.out] at HC ⊢
    have e2 : (b == c) = false := by rw [beq_eq_false_iff_ne]; exact hb
    clear hb
    generalize Vm.truth false = R at *
    go_enter Tryd.func29, Tryd.ntmps29
    go_wp2_with (first | (go_at_call 43; refine (HC.out _).mono ?_; intro e w' hg; have hg := gives_ret hg; obtain ⟨rfl, hb1⟩ := hg))
    go_ret
    exact ⟨rfl, hb1⟩
theorem reckon_14 (b c : Int) (w : World) : Calls Tryd.prog 29 #[.int .i64 14, .int .i64 b, .int .i64 c] w (Gives (.int .i64 (Dt.plus b (Num.whole c))) w) := by
  have HC := hid' (fun W => dplus_any b (Num.whole c) W)
  have HW := hid' (whole_any c w)
  generalize Num.whole c = q at *
  generalize Dt.plus b q = R at *
  go_enter Tryd.func29, Tryd.ntmps29
  go_wp2_with (first | (go_at_call 24; refine (HC.out _).mono ?_; intro e w' hg; have hg := gives_ret hg; obtain ⟨rfl, hb1⟩ := hg) | (go_at_call 47; refine HW.out.mono ?_; rintro e w' ⟨rfl, rfl⟩))
  go_ret
  exact ⟨rfl, hb1⟩
theorem reckon_15 (b c : Int) (w : World) : Calls Tryd.prog 29 #[.int .i64 15, .int .i64 b, .int .i64 c] w (Gives (.int .i64 (Dt.months b (Num.whole c))) w) := by
  have HC := hid' (fun W => months_any b (Num.whole c) W)
  have HW := hid' (whole_any c w)
  generalize Num.whole c = q at *
  generalize Dt.months b q = R at *
  go_enter Tryd.func29, Tryd.ntmps29
  go_wp2_with (first | (go_at_call 48; refine (HC.out _).mono ?_; intro e w' hg; obtain ⟨rfl, hb1⟩ := hg) | (go_at_call 47; refine HW.out.mono ?_; rintro e w' ⟨rfl, rfl⟩))
  go_ret
  exact ⟨rfl, hb1⟩
theorem reckon_16 (b c : Int) (w : World) : Calls Tryd.prog 29 #[.int .i64 16, .int .i64 b, .int .i64 c] w (Gives (.int .i64 (Dt.years b c)) w) := by
  have HC := hid' (fun W => years_any b c W)
  generalize Dt.years b c = R at *
  go_enter Tryd.func29, Tryd.ntmps29
  go_wp2_with (first | (go_at_call 49; refine (HC.out _).mono ?_; intro e w' hg; obtain ⟨rfl, hb1⟩ := hg))
  go_ret
  exact ⟨rfl, hb1⟩
theorem reckon_17 (b c : Int) (w : World) : Calls Tryd.prog 29 #[.int .i64 17, .int .i64 b, .int .i64 c] w (Gives (.int .i64 (Dt.years30 b c)) w) := by
  have HC := hid' (fun W => years30_any b c W)
  generalize Dt.years30 b c = R at *
  go_enter Tryd.func29, Tryd.ntmps29
  go_wp2_with (first | (go_at_call 50; refine (HC.out _).mono ?_; intro e w' hg; obtain ⟨rfl, hb1⟩ := hg))
  go_ret
  exact ⟨rfl, hb1⟩
theorem reckon_other (op b c : Int) (h : op ≠ 4 ∧ op ≠ 12 ∧ op ≠ 5 ∧ op ≠ 6 ∧ op ≠ 7 ∧ op ≠ 8 ∧ op ≠ 9 ∧ op ≠ 13 ∧ op ≠ 10 ∧ op ≠ 11 ∧ op ≠ 14 ∧ op ≠ 15 ∧ op ≠ 16 ∧ op ≠ 17) (w : World) : Calls Tryd.prog 29 #[.int .i64 op, .int .i64 b, .int .i64 c] w (Gives (.int .i64 b) w) := by
  obtain ⟨h1, h2, h3, h4, h5, h6, h7, h8, h9, h10, h11, h12, h13, h14⟩ := h
  have g1 : (op == 4) = false := by rw [beq_eq_false_iff_ne]; exact h1
  have g2 : (op == 12) = false := by rw [beq_eq_false_iff_ne]; exact h2
  have g3 : (op == 5) = false := by rw [beq_eq_false_iff_ne]; exact h3
  have g4 : (op == 6) = false := by rw [beq_eq_false_iff_ne]; exact h4
  have g5 : (op == 7) = false := by rw [beq_eq_false_iff_ne]; exact h5
  have g6 : (op == 8) = false := by rw [beq_eq_false_iff_ne]; exact h6
  have g7 : (op == 9) = false := by rw [beq_eq_false_iff_ne]; exact h7
  have g8 : (op == 13) = false := by rw [beq_eq_false_iff_ne]; exact h8
  have g9 : (op == 10) = false := by rw [beq_eq_false_iff_ne]; exact h9
  have g10 : (op == 11) = false := by rw [beq_eq_false_iff_ne]; exact h10
  have g11 : (op == 14) = false := by rw [beq_eq_false_iff_ne]; exact h11
  have g12 : (op == 15) = false := by rw [beq_eq_false_iff_ne]; exact h12
  have g13 : (op == 16) = false := by rw [beq_eq_false_iff_ne]; exact h13
  have g14 : (op == 17) = false := by rw [beq_eq_false_iff_ne]; exact h14
  clear h1 h2 h3 h4 h5 h6 h7 h8 h9 h10 h11 h12 h13 h14
  go_enter Tryd.func29, Tryd.ntmps29
  go_wp2_with fail
  go_ret
  exact ⟨rfl, Below.refl _ _⟩
theorem reckon_any (op b c : Int) (w : World) : Calls Tryd.prog 29 #[.int .i64 op, .int .i64 b, .int .i64 c] w (Gives (.int .i64 (Vm.rk op b c)) w) := by
  unfold Vm.rk
  by_cases h4 : op = 4
  · rw [if_pos h4]; subst h4; exact reckon_4 b c w
  rw [if_neg h4]
  by_cases h12 : op = 12
  · rw [if_pos h12]; subst h12; exact reckon_12 b c w
  rw [if_neg h12]
  by_cases h5 : op = 5
  · rw [if_pos h5]; subst h5; exact reckon_5 b c w
  rw [if_neg h5]
  by_cases h6 : op = 6
  · rw [if_pos h6]; subst h6; exact reckon_6 b c w
  rw [if_neg h6]
  by_cases h7 : op = 7
  · rw [if_pos h7]; subst h7; exact reckon_7 b c w
  rw [if_neg h7]
  by_cases h8 : op = 8
  · rw [if_pos h8]; subst h8; exact reckon_8 b c w
  rw [if_neg h8]
  by_cases h9 : op = 9 ∨ op = 13
  · rw [if_pos h9]
    rcases h9 with rfl | rfl
    · exact reckon_9 b c w
    · exact reckon_13 b c w
  rw [if_neg h9]
  by_cases h10 : op = 10
  · rw [if_pos h10]; subst h10; exact reckon_10 b c w
  rw [if_neg h10]
  by_cases h11 : op = 11
  · rw [if_pos h11]; subst h11; exact reckon_11 b c w
  rw [if_neg h11]
  by_cases h14 : op = 14
  · rw [if_pos h14]; subst h14; exact reckon_14 b c w
  rw [if_neg h14]
  by_cases h15 : op = 15
  · rw [if_pos h15]; subst h15; exact reckon_15 b c w
  rw [if_neg h15]
  by_cases h16 : op = 16
  · rw [if_pos h16]; subst h16; exact reckon_16 b c w
  rw [if_neg h16]
  by_cases h17 : op = 17
  · rw [if_pos h17]; subst h17; exact reckon_17 b c w
  rw [if_neg h17]
  exact reckon_other op b c (by omega) w
end Go.Proofs.YtbpcgcmlpgdmbaaDoor

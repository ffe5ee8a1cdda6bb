/- Proved: lemmas and contracts of the functions that the law reaches, part 5 of 31: Base, VmDate, NumPlain, GenUses, GenHas, RefNames. Conditions: as each states. -/
import Derived.Test.YtanlmbbalamgkaaGreatDoorChecked
import Derived.WalkKit
import Derived.ProofKit
import Derived.OwnWalk
import Derived.BigQuiet
import Derived.Deep.QuietTactic
import Derived.Outline
import Derived.IntWalk
import Derived.Test.YtanlmbbalamgkaaGreatDoorGfm2
namespace Go.Proofs.YtanlmbbalamgkaaGreatDoor
set_option linter.unusedVariables false
set_option linter.unusedSimpArgs false
section
open Go.RowKit
def Hid (p : Prop) : Prop := p
theorem Hid.out {p : Prop} (h : Hid p) : p := h
theorem hid' {p : Prop} (h : p) : Hid p := h
theorem halt' {p : Prop} (h : Hid p) : p := h
def Ret (v : Value) (w : World) (e : Ending) (w' : World) : Prop := e = .returned v ∧ w' = w
def Drew (v : Value) (w : World) (e : Ending) (w' : World) : Prop := e = .returned v ∧ ∃ n, w' = w.drewN n
def Gives (v : Value) (w : World) (e : Ending) (w' : World) : Prop := e = .returned v ∧ Below w.heap.size w w'
def True1 (w : World) (e : Ending) (w' : World) : Prop := e = .returned (.bool true) ∧ Below w.heap.size w w'
theorem Below.drewn {B : Nat} {w w' : World} (h : Below B w w') (n : Nat) : Below B w (w'.drewN n) := by
 induction n with
 | zero => exact h
 | succ n ih => exact ih.drew
theorem drewN_heap (w : World) (n : Nat) : (w.drewN n).heap = w.heap := by
 induction n with
 | zero => rfl
 | succ n ih => exact ih
theorem new_cell {W : World} {xs : Array Value} {t : TypeId} {b o : Nat} {v : Value} (hb : b = W.heap.size) (h : xs[o]? = some v) : (W.alloc (.cells xs t)).cell? ⟨b, o, none⟩ = some v := by
 subst hb; rw [World.cell?_alloc_new]; exact h
theorem zqk {W : World} {a : Addr} {v : Value} (h : W.cell? a = some v) : W.drew.cell? a = some v := h
theorem Below.more {w w1 w2 : World} (h : Below w.heap.size w w1) (h' : Below w1.heap.size w1 w2) : Below w.heap.size w w2 := h.trans (h'.mono h.size)
theorem zzv {s : ByteArray} (h : ¬ s = ⟨#[]⟩) : s.toList.isEmpty = false := by
 rw [ByteArray.toList_eq, List.isEmpty_eq_false_iff]
 intro e
 apply h
 cases s
 simpa using e
theorem head_ba (W : ByteArray) (h : 0 < W.size) : W.data.toList.head? = some W[0] := by
 rw [List.head?_eq_getElem?, Array.getElem?_toList]
 exact Array.getElem?_eq_getElem h
theorem len_ba (s : ByteArray) : s.data.toList.length = s.size := Array.length_toList
theorem ba_ext {a b : ByteArray} (h : a.data.toList = b.data.toList) : a = b := by
 cases a; cases b; simp at h; subst h; rfl
theorem list_at (T : ByteArray) (j : Nat) (h : j < T.size) : T.data.toList[j]? = some T[j] := by
 rw [Array.getElem?_toList]
 exact Array.getElem?_eq_getElem h
theorem nil_of_size {s : ByteArray} (h : s.size = 0) : s = ⟨#[]⟩ := by
 cases s with
 | mk a => congr 1; exact Array.eq_empty_of_size_eq_zero h
theorem dropWhile_nil {α : Type} (p : α → Bool) (l : List α) : l.dropWhile p = [] ↔ l.all p = true := by
 induction l with
 | nil => simp
 | cons a l ih =>
   rw [List.dropWhile_cons]
   by_cases h : p a = true
   · rw [if_pos h, ih]; simp [h]
   · rw [if_neg h]; simp [h]
end
section
open Go.RowKit
set_option maxRecDepth 100000
namespace Dt
def leap (y : Int) : Bool := decide (y % 4 = 0) && (!decide (y % 100 = 0) || decide (y % 400 = 0))
def days (y : Int) : Int := if leap y then 366 else 365
def ahead (y : Int) : Int := 365 * (y - 1 - 1899) + (y - 1) / 4 - (y - 1) / 100 + (y - 1) / 400 - 460
def clamp (d : Int) : Int := max 0 (min 73048 d)
def plus (d n : Int) : Int := clamp (clamp d + max (-73048) (min 73048 n))
theorem clamp_ge (d : Int) : 0 ≤ clamp d := by unfold clamp; omega
theorem clamp_le (d : Int) : clamp d ≤ 73048 := by unfold clamp; omega
end Dt
theorem dclamp_any (d : Int) (w : World) : Calls Tryz.prog 113 #[.int .i64 d] w (Ret (.int .i64 (Dt.clamp d)) w) := by
 rcases (by omega : 73048 < d ∨ d = 73048 ∨ (0 < d ∧ d < 73048) ∨ d = 0 ∨ d < 0) with h | h | ⟨h, h'⟩ | h | h
 · rw [show Dt.clamp d = 73048 by unfold Dt.clamp; omega]
   have h1 : ¬ d < 73048 := by omega
   go_enter Tryz.func113, Tryz.ntmps113
   go_wp2_with fail
   go_ret
   exact ⟨rfl, rfl⟩
 · subst h
   go_enter Tryz.func113, Tryz.ntmps113
   go_wp2_with fail
   go_ret
   exact ⟨rfl, rfl⟩
 · rw [show Dt.clamp d = d by unfold Dt.clamp; omega]
   have h1 : d ≤ 73048 := by omega
   go_enter Tryz.func113, Tryz.ntmps113
   go_wp2_with fail
   go_ret
   exact ⟨rfl, rfl⟩
 · subst h
   go_enter Tryz.func113, Tryz.ntmps113
   go_wp2_with fail
   go_ret
   exact ⟨rfl, rfl⟩
 · rw [show Dt.clamp d = 0 by unfold Dt.clamp; omega]
   have h1 : d < 73048 := by omega
   go_enter Tryz.func113, Tryz.ntmps113
   go_wp2_with fail
   go_ret
   exact ⟨rfl, rfl⟩
theorem dplus_any (d n : Int) (w : World) : Calls Tryz.prog 59 #[.int .i64 d, .int .i64 n] w (Ret (.int .i64 (Dt.plus d n)) w) := by
 have a1 := Dt.clamp_ge d
 have a2 := Dt.clamp_le d
 have HP := hid' (show Dt.plus d n = Dt.clamp (Dt.clamp d + max (-73048) (min 73048 n)) from rfl)
 generalize Dt.plus d n = P at *
 have HC := hid' (dclamp_any d w)
 generalize Dt.clamp d = c at *
 rcases (by omega : 73048 < n ∨ n = 73048 ∨ (-73048 < n ∧ n < 73048) ∨ n = -73048 ∨ n < -73048) with h | h | ⟨h, h'⟩ | h | h
 · have e := hid' (show max (-73048) (min 73048 n) = 73048 by omega)
   rw [e.out] at HP
   have h1 : ¬ n < 73048 := by omega
   go_enter Tryz.func59, Tryz.ntmps59
   go_wp2_with (first | (refine HC.out.mono ?_; rintro e w' ⟨rfl, rfl⟩) | (refine (dclamp_any _ _).mono ?_; rintro e w' ⟨rfl, rfl⟩))
   go_ret
   exact ⟨by rw [HP.out]; rfl, rfl⟩
 · subst h
   go_enter Tryz.func59, Tryz.ntmps59
   go_wp2_with (first | (refine HC.out.mono ?_; rintro e w' ⟨rfl, rfl⟩) | (refine (dclamp_any _ _).mono ?_; rintro e w' ⟨rfl, rfl⟩))
   go_ret
   exact ⟨by rw [HP.out]; rfl, rfl⟩
 · have e := hid' (show max (-73048) (min 73048 n) = n by omega)
   rw [e.out] at HP
   go_enter Tryz.func59, Tryz.ntmps59
   go_wp2_with (first | (refine HC.out.mono ?_; rintro e w' ⟨rfl, rfl⟩) | (refine (dclamp_any _ _).mono ?_; rintro e w' ⟨rfl, rfl⟩))
   go_ret
   exact ⟨by rw [HP.out]; rfl, rfl⟩
 · subst h
   go_enter Tryz.func59, Tryz.ntmps59
   go_wp2_with (first | (refine HC.out.mono ?_; rintro e w' ⟨rfl, rfl⟩) | (refine (dclamp_any _ _).mono ?_; rintro e w' ⟨rfl, rfl⟩))
   go_ret
   exact ⟨by rw [HP.out]; rfl, rfl⟩
 · have e := hid' (show max (-73048) (min 73048 n) = -73048 by omega)
   rw [e.out] at HP
   have h1 : n < 73048 := by omega
   go_enter Tryz.func59, Tryz.ntmps59
   go_wp2_with (first | (refine HC.out.mono ?_; rintro e w' ⟨rfl, rfl⟩) | (refine (dclamp_any _ _).mono ?_; rintro e w' ⟨rfl, rfl⟩))
   go_ret
   exact ⟨by rw [HP.out]; rfl, rfl⟩
theorem leap_any (y : Int) (hy : 0 ≤ y ∧ y ≤ 100000) (w : World) : Calls Tryz.prog 178 #[.int .i64 y] w (Ret (.bool (Dt.leap y)) w) := by
 have e4 : y.tmod 4 = y % 4 := Int.tmod_eq_emod_of_nonneg hy.1
 have e5 : y.tmod 100 = y % 100 := Int.tmod_eq_emod_of_nonneg hy.1
 have e6 : y.tmod 400 = y % 400 := Int.tmod_eq_emod_of_nonneg hy.1
 have HL := hid' (show Dt.leap y = (decide (y % 4 = 0) && (!decide (y % 100 = 0) || decide (y % 400 = 0))) from rfl)
 generalize Dt.leap y = L at *
 by_cases h4 : y % 4 = 0
 · by_cases h1 : y % 100 = 0
   · by_cases h2 : y % 400 = 0
     · rw [decide_eq_true h4, decide_eq_true h1, decide_eq_true h2] at HL
       go_enter Tryz.func178, Tryz.ntmps178
       go_wp2_with fail
       go_ret
       exact ⟨by rw [HL.out]; rfl, rfl⟩
     · rw [decide_eq_true h4, decide_eq_true h1, decide_eq_false h2] at HL
       have g2 : (y % 400 == 0) = false := by rw [beq_eq_false_iff_ne]; exact h2
       go_enter Tryz.func178, Tryz.ntmps178
       go_wp2_with fail
       go_ret
       exact ⟨by rw [HL.out]; rfl, rfl⟩
   · have g1 : (y % 100 == 0) = false := by rw [beq_eq_false_iff_ne]; exact h1
     rw [decide_eq_true h4, decide_eq_false h1] at HL
     go_enter Tryz.func178, Tryz.ntmps178
     go_wp2_with fail
     go_ret
     exact ⟨by rw [HL.out]; rfl, rfl⟩
 · have g4 : (y % 4 == 0) = false := by rw [beq_eq_false_iff_ne]; exact h4
   rw [decide_eq_false h4] at HL
   go_enter Tryz.func178, Tryz.ntmps178
   go_wp2_with fail
   go_ret
   exact ⟨by rw [HL.out]; rfl, rfl⟩
theorem days_any (y : Int) (hy : 0 ≤ y ∧ y ≤ 100000) (w : World) : Calls Tryz.prog 177 #[.int .i64 y] w (Ret (.int .i64 (Dt.days y)) w) := by
 have HC := hid' (leap_any y hy w)
 have HD := hid' (show Dt.days y = if Dt.leap y then 366 else 365 from rfl)
 cases hl : Dt.leap y with
 | true =>
   rw [hl] at HC HD
   rw [HD.out]
   clear hl
   go_enter Tryz.func177, Tryz.ntmps177
   go_wp2_with (refine HC.out.mono ?_; rintro e w' ⟨rfl, rfl⟩)
   go_ret
   exact ⟨rfl, rfl⟩
 | false =>
   rw [hl] at HC HD
   rw [HD.out]
   clear hl
   go_enter Tryz.func177, Tryz.ntmps177
   go_wp2_with (refine HC.out.mono ?_; rintro e w' ⟨rfl, rfl⟩)
   go_ret
   exact ⟨rfl, rfl⟩
theorem ahead_any (y : Int) (hy : 1 ≤ y ∧ y ≤ 100000) (w : World) : Calls Tryz.prog 176 #[.int .i64 y] w (Ret (.int .i64 (Dt.ahead y)) w) := by
 have e4 : (y - 1).tdiv 4 = (y - 1) / 4 := Int.tdiv_eq_ediv_of_nonneg (by omega)
 have e5 : (y - 1).tdiv 100 = (y - 1) / 100 := Int.tdiv_eq_ediv_of_nonneg (by omega)
 have e6 : (y - 1).tdiv 400 = (y - 1) / 400 := Int.tdiv_eq_ediv_of_nonneg (by omega)
 have HL := hid' (show Dt.ahead y = 365 * (y - 1 - 1899) + (y - 1) / 4 - (y - 1) / 100 + (y - 1) / 400 - 460 from rfl)
 generalize Dt.ahead y = L at *
 go_enter Tryz.func176, Tryz.ntmps176
 go_wp2_with fail
 go_ret
 exact ⟨by rw [HL.out]; rfl, rfl⟩
end
section
open Go.RowKit
namespace Num
def clamp (a : Int) : Int := if 1000000000000000 < a then 1000000000000000 else if a < -1000000000000000 then -1000000000000000 else a
theorem clamp_hi {a : Int} (h : 1000000000000000 < a) : clamp a = 1000000000000000 := by rw [clamp, if_pos h]
theorem clamp_lo {a : Int} (h : a < -1000000000000000) : clamp a = -1000000000000000 := by rw [clamp, if_neg (by omega), if_pos h]
theorem clamp_in {a : Int} (h : -1000000000000000 ≤ a) (h' : a ≤ 1000000000000000) : clamp a = a := by rw [clamp, if_neg (by omega), if_neg (by omega)]
theorem clamp_le (a : Int) : clamp a ≤ 1000000000000000 := by unfold clamp; split <;> (try split) <;> omega
theorem clamp_ge (a : Int) : -1000000000000000 ≤ clamp a := by unfold clamp; split <;> (try split) <;> omega
def add (a b : Int) : Int := clamp (clamp a + clamp b)
def sub (a b : Int) : Int := clamp (clamp a - clamp b)
def neg (a : Int) : Int := -clamp a
def whole (a : Int) : Int := (clamp a).tdiv 1000000
end Num
open Num
theorem clamp_any (a : Int) (w : World) : Calls Tryz.prog 36 #[.int .i64 a] w (Ret (.int .i64 (clamp a)) w) := by
 rcases (by omega : 1000000000000000 < a ∨ a < -1000000000000000 ∨ (-1000000000000000 ≤ a ∧ a ≤ 1000000000000000)) with h | h | ⟨h, h'⟩
 · rw [clamp_hi h]
   have h1 : ¬ a < 1000000000000000 := by omega
   go_enter Tryz.func36, Tryz.ntmps36
   go_wp2_with fail
   all_goals first | (exfalso; omega) | skip
   all_goals go_ret
   all_goals exact ⟨rfl, rfl⟩
 · rw [clamp_lo h]
   have h1 : a < 1000000000000000 := by omega
   have h2 : a ≤ -1000000000000000 := by omega
   go_enter Tryz.func36, Tryz.ntmps36
   go_wp2_with fail
   all_goals first | (exfalso; omega) | skip
   all_goals go_ret
   all_goals exact ⟨rfl, rfl⟩
 · rw [clamp_in h h']
   by_cases e1 : a = 1000000000000000
   · subst e1
     go_enter Tryz.func36, Tryz.ntmps36
     go_wp2_with fail
     all_goals go_ret
     all_goals exact ⟨rfl, rfl⟩
   · by_cases e2 : a = -1000000000000000
     · subst e2
       go_enter Tryz.func36, Tryz.ntmps36
       go_wp2_with fail
       all_goals go_ret
       all_goals exact ⟨rfl, rfl⟩
     · have h1 : a < 1000000000000000 := by omega
       have h2 : -1000000000000000 < a := by omega
       go_enter Tryz.func36, Tryz.ntmps36
       go_wp2_with fail
       all_goals go_ret
       all_goals exact ⟨rfl, rfl⟩
theorem add_any (a b : Int) (w : World) : Calls Tryz.prog 120 #[.int .i64 a, .int .i64 b] w (Ret (.int .i64 (add a b)) w) := by
 have a1 := clamp_le a
 have a2 := clamp_ge a
 have b1 := clamp_le b
 have b2 := clamp_ge b
 go_enter Tryz.func120, Tryz.ntmps120
 go_wp2_with fail
 refine (clamp_any a w).mono ?_
 rintro e w1 ⟨rfl, rfl⟩
 go_wp2_with fail
 refine (clamp_any b w1).mono ?_
 rintro e w2 ⟨rfl, rfl⟩
 go_wp2_with fail
 refine (clamp_any _ w2).mono ?_
 rintro e w3 ⟨rfl, rfl⟩
 go_wp2_with fail
 go_ret
 exact ⟨rfl, rfl⟩
theorem sub_any (a b : Int) (w : World) : Calls Tryz.prog 121 #[.int .i64 a, .int .i64 b] w (Ret (.int .i64 (sub a b)) w) := by
 have a1 := clamp_le a
 have a2 := clamp_ge a
 have b1 := clamp_le b
 have b2 := clamp_ge b
 go_enter Tryz.func121, Tryz.ntmps121
 go_wp2_with fail
 refine (clamp_any a w).mono ?_
 rintro e w1 ⟨rfl, rfl⟩
 go_wp2_with fail
 refine (clamp_any b w1).mono ?_
 rintro e w2 ⟨rfl, rfl⟩
 go_wp2_with fail
 refine (clamp_any _ w2).mono ?_
 rintro e w3 ⟨rfl, rfl⟩
 go_wp2_with fail
 go_ret
 exact ⟨rfl, rfl⟩
theorem neg_any (a : Int) (w : World) : Calls Tryz.prog 63 #[.int .i64 a] w (Ret (.int .i64 (neg a)) w) := by
 have a1 := clamp_le a
 have a2 := clamp_ge a
 go_enter Tryz.func63, Tryz.ntmps63
 go_wp2_with fail
 refine (clamp_any a w).mono ?_
 rintro e w1 ⟨rfl, rfl⟩
 go_wp2_with fail
 go_ret
 exact ⟨rfl, rfl⟩
theorem whole_any (a : Int) (w : World) : Calls Tryz.prog 123 #[.int .i64 a] w (Ret (.int .i64 (whole a)) w) := by
 have a1 := clamp_le a
 have a2 := clamp_ge a
 go_enter Tryz.func123, Tryz.ntmps123
 go_wp2_with fail
 refine (clamp_any a w).mono ?_
 rintro e w1 ⟨rfl, rfl⟩
 go_wp2_with fail
 go_ret
 exact ⟨rfl, rfl⟩
theorem split_any (a : Int) (w : World) : Calls Tryz.prog 117 #[.int .i64 a] w (Ret (.tuple #[.int .u64 ((clamp a).natAbs : Int), .bool (decide (clamp a < 0))]) w) := by
 have a1 := clamp_le a
 have a2 := clamp_ge a
 go_enter Tryz.func117, Tryz.ntmps117
 go_wp2_with fail
 refine (clamp_any a w).mono ?_
 rintro e w1 ⟨rfl, rfl⟩
 generalize clamp a = c at *
 by_cases h : c < 0
 · have e1 : IntKind.u64.wrap (-c) = -c := by rw [IntKind.wrap_u64]; omega
   have e2 : ((c.natAbs : Nat) : Int) = -c := by omega
   go_wp2_with fail
   go_ret2
   refine ⟨?_, rfl⟩
   rw [e2, decide_eq_true h]
   rfl
 · have e1 : IntKind.u64.wrap c = c := by rw [IntKind.wrap_u64]; omega
   have e2 : ((c.natAbs : Nat) : Int) = c := by omega
   go_wp2_with fail
   go_ret2
   refine ⟨?_, rfl⟩
   rw [e2, decide_eq_false (by omega)]
   rfl
end
section
open Go.RowKit
set_option maxRecDepth 100000
namespace Gen
def usesT (op : Int) : ByteArray :=
 if op = 1 then ⟨#[65, 78]⟩ else
 if op = 2 then ⟨#[65, 83, 78, 84]⟩ else
 if op = 3 then ⟨#[65, 78]⟩ else
 if op = 4 then ⟨#[65, 66]⟩ else
 if op = 5 then ⟨#[65, 66, 67]⟩ else
 if op = 6 then ⟨#[65, 66, 67]⟩ else
 if op = 7 then ⟨#[65, 66, 67]⟩ else
 if op = 8 then ⟨#[65, 66, 67]⟩ else
 if op = 9 then ⟨#[65, 66, 67]⟩ else
 if op = 10 then ⟨#[65, 66, 67]⟩ else
 if op = 11 then ⟨#[65, 66, 67]⟩ else
 if op = 12 then ⟨#[65, 66]⟩ else
 if op = 13 then ⟨#[65, 66, 67]⟩ else
 if op = 14 then ⟨#[65, 66, 67]⟩ else
 if op = 15 then ⟨#[65, 66, 67]⟩ else
 if op = 16 then ⟨#[65, 66, 67]⟩ else
 if op = 17 then ⟨#[65, 66, 67]⟩ else
 if op = 18 then ⟨#[65, 66]⟩ else
 if op = 19 then ⟨#[66, 84]⟩ else
 if op = 20 then ⟨#[84]⟩ else
 if op = 21 then ⟨#[78, 84]⟩ else
 if op = 22 then ⟨#[78, 84]⟩ else
 if op = 23 then ⟨#[66]⟩ else
 if op = 24 then ⟨#[]⟩ else
 if op = 25 then ⟨#[65]⟩ else
 if op = 26 then ⟨#[66]⟩ else
 if op = 27 then ⟨#[83]⟩ else
 if op = 28 then ⟨#[78]⟩ else
 if op = 29 then ⟨#[78]⟩ else
 if op = 30 then ⟨#[]⟩ else
 ⟨#[]⟩
def isOp (op : Int) : Bool := decide (1 ≤ op) && decide (op ≤ 30)
def hasB (s : ByteArray) (c : Nat) : Bool := s.data.toList.any fun x => decide (x.toNat = c)
theorem op_cases (op : Int) : op = 1 ∨ op = 2 ∨ op = 3 ∨ op = 4 ∨ op = 5 ∨ op = 6 ∨ op = 7 ∨ op = 8 ∨ op = 9 ∨ op = 10 ∨ op = 11 ∨ op = 12 ∨ op = 13 ∨ op = 14 ∨ op = 15 ∨ op = 16 ∨ op = 17 ∨ op = 18 ∨ op = 19 ∨ op = 20 ∨ op = 21 ∨ op = 22 ∨ op = 23 ∨ op = 24 ∨ op = 25 ∨ op = 26 ∨ op = 27 ∨ op = 28 ∨ op = 29 ∨ op = 30 ∨ (op < 1 ∨ 30 < op) := by omega
theorem usesT_no {op : Int} (h : op < 1 ∨ 30 < op) : usesT op = ⟨#[]⟩ := by
 unfold usesT
 iterate 10
   rw [if_neg (by omega)]
   rw [if_neg (by omega)]
   rw [if_neg (by omega)]
theorem uses_has (op : Int) : hasB (usesT op) 65 = useA op ∧ hasB (usesT op) 66 = useB op ∧ hasB (usesT op) 67 = useC op ∧ hasB (usesT op) 84 = useT op := by
 rcases op_cases op with rfl | rfl | rfl | rfl | rfl | rfl | rfl | rfl | rfl | rfl | rfl | rfl | rfl | rfl | rfl | rfl | rfl | rfl | rfl | rfl | rfl | rfl | rfl | rfl | rfl | rfl | rfl | rfl | rfl | rfl | h
 all_goals first
   | decide
   | (rw [usesT_no h]
      have zA : useA op = false := by unfold useA; simp only [Bool.or_eq_false_iff, Bool.and_eq_false_iff, decide_eq_false_iff_not]; omega
      have zB : useB op = false := by unfold useB; simp only [Bool.or_eq_false_iff, Bool.and_eq_false_iff, decide_eq_false_iff_not]; omega
      have zC : useC op = false := by unfold useC; simp only [Bool.or_eq_false_iff, Bool.and_eq_false_iff, decide_eq_false_iff_not]; omega
      have zT : useT op = false := by unfold useT; simp only [Bool.or_eq_false_iff, Bool.and_eq_false_iff, decide_eq_false_iff_not]; omega
      rw [zA, zB, zC, zT]
      exact ⟨rfl, rfl, rfl, rfl⟩)
end Gen
open Gen
theorem uses_any (op : Int) (w : World) : Calls Tryz.prog 68 #[.int .i64 op] w (Ret (.tuple #[.string (Gen.usesT op), .bool (Gen.isOp op)]) w) := by
 rcases op_cases op with rfl | rfl | rfl | rfl | rfl | rfl | rfl | rfl | rfl | rfl | rfl | rfl | rfl | rfl | rfl | rfl | rfl | rfl | rfl | rfl | rfl | rfl | rfl | rfl | rfl | rfl | rfl | rfl | rfl | rfl | h
 all_goals first
   | (go_enter Tryz.func68, Tryz.ntmps68
      go_wp2_with fail
      go_ret2
      exact ⟨rfl, rfl⟩)
   | skip
 have e1 := hid' (usesT_no h)
 have e2 := hid' (show Gen.isOp op = false by unfold Gen.isOp; simp; omega)
 rw [e1.out, e2.out]
 have q1 : (op == 1) = false := by rw [beq_eq_false_iff_ne]; omega
 have q2 : (op == 2) = false := by rw [beq_eq_false_iff_ne]; omega
 have q3 : (op == 3) = false := by rw [beq_eq_false_iff_ne]; omega
 have q4 : (op == 4) = false := by rw [beq_eq_false_iff_ne]; omega
 have q5 : (op == 5) = false := by rw [beq_eq_false_iff_ne]; omega
 have q6 : (op == 6) = false := by rw [beq_eq_false_iff_ne]; omega
 have q7 : (op == 7) = false := by rw [beq_eq_false_iff_ne]; omega
 have q8 : (op == 8) = false := by rw [beq_eq_false_iff_ne]; omega
 have q9 : (op == 9) = false := by rw [beq_eq_false_iff_ne]; omega
 have q10 : (op == 10) = false := by rw [beq_eq_false_iff_ne]; omega
 have q11 : (op == 11) = false := by rw [beq_eq_false_iff_ne]; omega
 have q12 : (op == 12) = false := by rw [beq_eq_false_iff_ne]; omega
 have q13 : (op == 13) = false := by rw [beq_eq_false_iff_ne]; omega
 have q14 : (op == 14) = false := by rw [beq_eq_false_iff_ne]; omega
 have q15 : (op == 15) = false := by rw [beq_eq_false_iff_ne]; omega
 have q16 : (op == 16) = false := by rw [beq_eq_false_iff_ne]; omega
 have q17 : (op == 17) = false := by rw [beq_eq_false_iff_ne]; omega
 have q18 : (op == 18) = false := by rw [beq_eq_false_iff_ne]; omega
 have q19 : (op == 19) = false := by rw [beq_eq_false_iff_ne]; omega
 have q20 : (op == 20) = false := by rw [beq_eq_false_iff_ne]; omega
 have q21 : (op == 21) = false := by rw [beq_eq_false_iff_ne]; omega
 have q22 : (op == 22) = false := by rw [beq_eq_false_iff_ne]; omega
 have q23 : (op == 23) = false := by rw [beq_eq_false_iff_ne]; omega
 have q24 : (op == 24) = false := by rw [beq_eq_false_iff_ne]; omega
 have q25 : (op == 25) = false := by rw [beq_eq_false_iff_ne]; omega
 have q26 : (op == 26) = false := by rw [beq_eq_false_iff_ne]; omega
 have q27 : (op == 27) = false := by rw [beq_eq_false_iff_ne]; omega
 have q28 : (op == 28) = false := by rw [beq_eq_false_iff_ne]; omega
 have q29 : (op == 29) = false := by rw [beq_eq_false_iff_ne]; omega
 have q30 : (op == 30) = false := by rw [beq_eq_false_iff_ne]; omega
 clear h
 go_enter Tryz.func68, Tryz.ntmps68
 go_wp2_with fail
 go_ret2
 exact ⟨rfl, rfl⟩
end
section
open Go.RowKit
open Gen
set_option maxRecDepth 100000
theorem register_any (n : Int) (used : Bool) (regs : Int) (w : World) : Calls Tryz.prog 69 #[.int .i64 n, .bool used, .int .i64 regs] w (Ret (.bool (Gen.fld used n regs)) w) := by
 cases used with
 | true =>
   by_cases h1 : 0 ≤ n
   · by_cases h2 : n < regs
     · have e := hid' (show Gen.fld true n regs = true by unfold Gen.fld; simp [h1, h2])
       rw [e.out]
       have g1 : decide (0 ≤ n) = true := decide_eq_true h1
       have g2 : decide (n < regs) = true := decide_eq_true h2
       clear h1 h2
       go_enter Tryz.func69, Tryz.ntmps69
       go_wp2_with fail
       go_ret
       exact ⟨rfl, rfl⟩
     · have e := hid' (show Gen.fld true n regs = false by unfold Gen.fld; simp; omega)
       rw [e.out]
       have g1 : decide (0 ≤ n) = true := decide_eq_true h1
       have g2 : decide (n < regs) = false := decide_eq_false h2
       clear h1 h2
       go_enter Tryz.func69, Tryz.ntmps69
       go_wp2_with fail
       go_ret
       exact ⟨rfl, rfl⟩
   · have e := hid' (show Gen.fld true n regs = false by unfold Gen.fld; simp; omega)
     rw [e.out]
     have g1 : decide (0 ≤ n) = false := decide_eq_false h1
     clear h1
     go_enter Tryz.func69, Tryz.ntmps69
     go_wp2_with fail
     go_ret
     exact ⟨rfl, rfl⟩
 | false =>
   by_cases h1 : n = 0
   · subst h1
     have e := hid' (show Gen.fld false 0 regs = true from rfl)
     rw [e.out]
     go_enter Tryz.func69, Tryz.ntmps69
     go_wp2_with fail
     go_ret
     exact ⟨rfl, rfl⟩
   · have e := hid' (show Gen.fld false n regs = false by unfold Gen.fld; simp [h1])
     rw [e.out]
     have g1 : (n == 0) = false := by rw [beq_eq_false_iff_ne]; exact h1
     clear h1
     go_enter Tryz.func69, Tryz.ntmps69
     go_wp2_with fail
     go_ret
     exact ⟨rfl, rfl⟩
set_option maxHeartbeats 1000000 in
theorem has_any (s : ByteArray) (c : Nat) (w : World) (hs : s.size ≤ 1000) : Calls Tryz.prog 70 #[.string s, .int .u8 (c : Int)] w (Ret (.bool (Gen.hasB s c)) w) := by
 have hs' : (s.size : Int) ≤ 1000 := by omega
 have HN0 := hid' (show ∀ j, j < 0 → ∀ x, s.data.toList[j]? = some x → x.toNat ≠ c from fun j hj => by omega)
 clear hs
 go_enter Tryz.func70, Tryz.ntmps70
 go_wp2_with fail
 go_loopw [5] (fun iv wr => ∃ i : Nat, iv = .int .i64 (i : Int) ∧ i ≤ s.size ∧ Hid (∀ j, j < i → ∀ x, s.data.toList[j]? = some x → x.toNat ≠ c) ∧ wr = w) (fun iv _ => s.size - (intOf iv).toNat)
 case atStart => exact ⟨0, rfl, Nat.zero_le _, HN0, rfl⟩
 case round =>
   obtain ⟨i, rfl, hi, HN, rfl⟩ := hrel
   have hls : s.data.toList.length = s.size := Array.length_toList
   by_cases hin : i < s.size
   · have j1 : (0 : Int) ≤ (i : Int) := by omega
     have j2 : (i : Int) < (s.size : Int) := by omega
     have wi : IntKind.i64.wrap ((i : Int) + 1) = (i : Int) + 1 := IntWalk.i64_in _ (by omega)
     have g9 : decide (i < s.size) = true := decide_eq_true hin
     have hx : s.data.toList[i]? = some s[i] := by rw [Array.getElem?_toList]; exact Array.getElem?_eq_getElem hin
     by_cases hc : s[i].toNat = c
     · have g1 : ((s[i].toNat : Int) == (c : Int)) = true := by rw [hc]; simp
       have e := hid' (show Gen.hasB s c = true by
         unfold Gen.hasB
         rw [List.any_eq_true]
         exact ⟨s[i], List.mem_of_getElem? hx, decide_eq_true hc⟩)
       rw [e.out]
       clear hx hc hls
       go_wp2_with fail
       go_ret
       exact ⟨rfl, rfl⟩
     · have g1 : ((s[i].toNat : Int) == (c : Int)) = false := by rw [beq_eq_false_iff_ne]; omega
       have HN2 := hid' (show ∀ j, j < i + 1 → ∀ x, s.data.toList[j]? = some x → x.toNat ≠ c from fun j hj x hx2 => by
         rcases Nat.lt_or_ge j i with h1 | h1
         · exact HN.out j h1 x hx2
         · obtain rfl : j = i := by omega
           rw [hx] at hx2; cases hx2; exact hc)
       clear hx hc hls
       go_wp2_with fail
       go_roundw
       case rel => exact ⟨i + 1, by go_num, by omega, HN2, by first | rfl | trivial⟩
       case measure => simp [intOf]; omega
   · obtain rfl : i = s.size := by omega
     have e := hid' (show Gen.hasB s c = false by
       unfold Gen.hasB
       rw [List.any_eq_false]
       intro x hx
       obtain ⟨j, hj⟩ := List.getElem?_of_mem hx
       have := HN.out j (by have := (List.getElem?_eq_some_iff.1 hj).1; omega) x hj
       simpa using this)
     rw [e.out]
     have g9 : decide (s.size < s.size) = false := by simp
     clear hin hls
     go_wp2_with fail
     go_ret
     refine ⟨?_, rfl⟩
     rw [e.out]
     rfl
end
section
open Go.RowKit
open Led
set_option maxRecDepth 100000
def digB (c : UInt8) : Bool := 48 ≤ c.toNat && c.toNat ≤ 57
theorem nameB_is (x : UInt8) : nameB x = (lowB x || (digB x || (x.toNat == 95))) := by unfold nameB lowB digB; rw [Bool.or_assoc]
theorem small_any (x : UInt8) (w : World) : Calls Tryz.prog 158 #[.int .u8 (x.toNat : Int)] w (Ret (.bool (lowB x)) w) := by
 have hx := x.toNat_lt
 by_cases h1 : 97 ≤ (x.toNat : Int)
 · by_cases h2 : (x.toNat : Int) ≤ 122
   · rw [show lowB x = true by unfold lowB; simp; omega]
     go_enter Tryz.func158, Tryz.ntmps158
     go_wp2_with fail
     go_ret
     exact ⟨rfl, rfl⟩
   · rw [show lowB x = false by unfold lowB; simp; omega]
     go_enter Tryz.func158, Tryz.ntmps158
     go_wp2_with fail
     go_ret
     exact ⟨rfl, rfl⟩
 · rw [show lowB x = false by unfold lowB; simp; omega]
   go_enter Tryz.func158, Tryz.ntmps158
   go_wp2_with fail
   go_ret
   exact ⟨rfl, rfl⟩
theorem digit_any (x : UInt8) (w : World) : Calls Tryz.prog 179 #[.int .u8 (x.toNat : Int)] w (Ret (.bool (digB x)) w) := by
 have hx := x.toNat_lt
 by_cases h1 : 48 ≤ (x.toNat : Int)
 · by_cases h2 : (x.toNat : Int) ≤ 57
   · rw [show digB x = true by unfold digB; simp; omega]
     go_enter Tryz.func179, Tryz.ntmps179
     go_wp2_with fail
     go_ret
     exact ⟨rfl, rfl⟩
   · rw [show digB x = false by unfold digB; simp; omega]
     go_enter Tryz.func179, Tryz.ntmps179
     go_wp2_with fail
     go_ret
     exact ⟨rfl, rfl⟩
 · rw [show digB x = false by unfold digB; simp; omega]
   go_enter Tryz.func179, Tryz.ntmps179
   go_wp2_with fail
   go_ret
   exact ⟨rfl, rfl⟩
theorem inner_any (x : UInt8) (w : World) : Calls Tryz.prog 159 #[.int .u8 (x.toNat : Int)] w (Ret (.bool (nameB x)) w) := by
 have HE := hid' (nameB_is x)
 cases h1 : lowB x with
 | true =>
   rw [h1] at HE
   rw [HE.out]
   go_enter Tryz.func159, Tryz.ntmps159
   go_wp2_with (refine (small_any _ _).mono ?_; rintro e w' ⟨rfl, rfl⟩)
   go_ret
   exact ⟨rfl, rfl⟩
 | false =>
   cases h2 : digB x with
   | true =>
     rw [h1, h2] at HE
     rw [HE.out]
     go_enter Tryz.func159, Tryz.ntmps159
     go_wp2_with (first | (go_at_call 158; refine (small_any _ _).mono ?_; rintro e w' ⟨rfl, rfl⟩) | (go_at_call 179; refine (digit_any _ _).mono ?_; rintro e w' ⟨rfl, rfl⟩))
     go_ret
     exact ⟨rfl, rfl⟩
   | false =>
     rw [h1, h2] at HE
     rw [HE.out]
     by_cases h3 : x.toNat = 95
     · have g3 : ((x.toNat : Int) == 95) = true := by rw [beq_iff_eq]; omega
       have g4 : (x.toNat == 95) = true := by rw [beq_iff_eq]; omega
       rw [g4]
       clear h3 g4
       go_enter Tryz.func159, Tryz.ntmps159
       go_wp2_with (first | (go_at_call 158; refine (small_any _ _).mono ?_; rintro e w' ⟨rfl, rfl⟩) | (go_at_call 179; refine (digit_any _ _).mono ?_; rintro e w' ⟨rfl, rfl⟩))
       go_ret
       exact ⟨rfl, rfl⟩
     · have g3 : ((x.toNat : Int) == 95) = false := by rw [beq_eq_false_iff_ne]; omega
       have g4 : (x.toNat == 95) = false := by rw [beq_eq_false_iff_ne]; omega
       rw [g4]
       go_enter Tryz.func159, Tryz.ntmps159
       go_wp2_with (first | (go_at_call 158; refine (small_any _ _).mono ?_; rintro e w' ⟨rfl, rfl⟩) | (go_at_call 179; refine (digit_any _ _).mono ?_; rintro e w' ⟨rfl, rfl⟩))
       go_ret
       exact ⟨rfl, rfl⟩
theorem isName_nil' : isName ⟨#[]⟩ = false := rfl
def SpanPost (s : ByteArray) (w : World) (e : Ending) (w' : World) : Prop := ∃ r : Nat, e = .returned (.int .i64 (r : Int)) ∧ w' = w ∧ (decide (r = s.size) = (s.data.toList.head?.any lowB && s.data.toList.all nameB))
structure SpanAt (s : ByteArray) (n : Nat) : Prop where
 pos : 1 ≤ n
 le : n ≤ s.size
 all : (s.data.toList.take n).all nameB = true
theorem span_take (s : ByteArray) (n : Nat) (h : n < s.size) : s.data.toList.take (n + 1) = s.data.toList.take n ++ [s[n]] := by
 rw [List.take_succ_eq_append_getElem (by rw [len_ba]; exact h)]; rfl
theorem SpanAt.step {s : ByteArray} {n : Nat} (A : SpanAt s n) (h : n < s.size) (hb : nameB s[n] = true) : SpanAt s (n + 1) :=
 ⟨by omega, h, by rw [span_take s n h, List.all_append, A.all]; simp [hb]⟩
theorem low_name {c : UInt8} (h : lowB c = true) : nameB c = true := by rw [nameB_is, h]; rfl
theorem SpanAt.whole {s : ByteArray} (A : SpanAt s s.size) : s.data.toList.all nameB = true := by
 have := A.all
 rwa [← len_ba s, List.take_length] at this
theorem span_stop {s : ByteArray} {n : Nat} (h : n < s.size) (hb : nameB s[n] = false) : s.data.toList.all nameB = false := by
 rw [List.all_eq_false]
 exact ⟨s[n], by have := list_at s n h; exact List.mem_of_getElem? this, by rw [hb]; simp⟩
theorem span_any (s : ByteArray) (w : World) (h0 : 0 < s.size) (hs : s.size ≤ 9223372036854775807) : Calls Tryz.prog 127 #[.string s, .int .i64 0] w (SpanPost s w) := by
 have hhead := hid' (head_ba s h0)
 have hcl : (0 : Int) < (s.size : Int) := by omega
 have hne : ¬ s = ByteArray.empty := by rintro rfl; exact absurd h0 (by decide)
 cases hlo : lowB s[0] with
 | false =>
   have HP := hid' (show SpanPost s w (.returned (.int .i64 0)) w from ⟨0, rfl, rfl, by rw [hhead.out]; simp [hlo]; omega⟩)
   have HS := hid' (small_any s[0] w)
   rw [hlo] at HS
   clear hlo
   go_enter Tryz.func127, Tryz.ntmps127
   go_wp2_with (go_at_call 158; refine (HS.out).mono ?_; rintro e w' ⟨rfl, rfl⟩)
   go_ret
   exact HP.out
 | true =>
   have HS := hid' (small_any s[0] w)
   rw [hlo] at HS
   have HLO := hid' hlo
   clear hlo
   go_enter Tryz.func127, Tryz.ntmps127
   go_wp2_with (go_at_call 158; refine (HS.out).mono ?_; rintro e w' ⟨rfl, rfl⟩)
   go_loopw [6] (fun nv wr => ∃ n : Nat, nv = .int .i64 (n : Int) ∧ n ≤ s.size ∧ Hid (SpanAt s n) ∧ w' = wr) (fun nv _ => s.size - (intOf nv).toNat)
   case atStart => exact ⟨1, rfl, by omega, hid' ⟨by omega, by omega, by rw [span_take s 0 h0]; simp [low_name HLO.out]⟩, rfl⟩
   case round =>
     obtain ⟨n, rfl, hn, HA, rfl⟩ := hrel
     by_cases hl : n < s.size
     · have g0 : decide ((n : Int) < (s.size : Int)) = true := by simp; omega
       cases hb : nameB s[n] with
       | true =>
         have HA2 := hid' (HA.out.step hl hb)
         have HI := hid' (inner_any s[n] w')
         rw [hb] at HI
         clear hb
         go_wp2_with (go_at_call 159; refine (HI.out).mono ?_; rintro e w' ⟨rfl, rfl⟩)
         go_roundw
         case rel => exact ⟨n + 1, by go_num, by omega, HA2, by first | rfl | trivial⟩
         case measure => simp [intOf]; omega
       | false =>
         have HP := hid' (show SpanPost s w' (.returned (.int .i64 (n : Int))) w' from ⟨n, rfl, rfl, by rw [span_stop hl hb, Bool.and_false]; simp; omega⟩)
         have HI := hid' (inner_any s[n] w')
         rw [hb] at HI
         clear hb
         go_wp2_with (go_at_call 159; refine (HI.out).mono ?_; rintro e w' ⟨rfl, rfl⟩)
         go_ret
         exact HP.out
     · obtain rfl : n = s.size := by omega
       have g0 : decide (s.size < s.size) = false := by simp
       have HP := hid' (show SpanPost s w' (.returned (.int .i64 (s.size : Int))) w' from ⟨s.size, rfl, rfl, by rw [HA.out.whole, hhead.out]; simp [HLO.out]⟩)
       clear hl
       go_wp2_with fail
       go_ret
       exact HP.out
theorem isName_span (s : ByteArray) (h : 0 < s.size) : isName s = (decide (s.size ≤ 24) && (s.data.toList.head?.any lowB && s.data.toList.all nameB)) := by
 have hl := len_ba s
 unfold isName
 cases hc : s.data.toList with
 | nil => rw [hc] at hl; simp at hl; omega
 | cons c t =>
   rw [hc] at hl
   simp only [List.length_cons] at hl
   simp [hl]
theorem refIsName_any (s : ByteArray) (w : World) (hs : s.size ≤ 9223372036854775807) : Calls Tryz.prog 67 #[.string s] w (Ret (.bool (isName s)) w) := by
 by_cases h0 : 0 < s.size
 · have HE := hid' (isName_span s h0)
   rw [HE.out]
   have i0 : (0 : Int) < (s.size : Int) := by omega
   by_cases h24 : s.size ≤ 24
   · rw [decide_eq_true h24, Bool.true_and]
     have HSP := hid' (span_any s w h0 hs)
     obtain ⟨q, hqq⟩ : ∃ q, Hid (q = (s.data.toList.head?.any lowB && s.data.toList.all nameB)) := ⟨_, rfl⟩
     rw [← hqq.out]
     have g24 : decide ((s.size : Int) ≤ 24) = true := by simp; omega
     have HQ := hid' (fun r : Nat => show decide (r = s.size) = q → ((r : Int) == (s.size : Int)) = q from fun h => by
       rw [← h]
       by_cases e : r = s.size
       · rw [decide_eq_true e, beq_iff_eq, e]
       · rw [decide_eq_false e, beq_eq_false_iff_ne]; omega)
     go_enter Tryz.func67, Tryz.ntmps67
     go_wp2_with fail
     refine HSP.out.mono ?_
     rintro e w1 ⟨r, rfl, rfl, hr⟩
     rw [← hqq.out] at hr
     have hq := HQ.out r hr
     clear hr
     go_wp2_with fail
     go_ret
     exact ⟨rfl, rfl⟩
   · rw [decide_eq_false h24, Bool.false_and]
     have g24 : decide ((s.size : Int) ≤ 24) = false := by simp; omega
     go_enter Tryz.func67, Tryz.ntmps67
     go_wp2_with fail
     go_ret
     exact ⟨rfl, rfl⟩
 · obtain rfl := nil_of_size (show s.size = 0 by omega)
   rw [isName_nil']
   go_enter Tryz.func67, Tryz.ntmps67
   go_wp2_with fail
   go_ret
   exact ⟨rfl, rfl⟩
structure CurSpan (s : ByteArray) (n : Nat) : Prop where
 le : n ≤ 3
 all : (s.data.toList.take n).all curB = true
theorem refIsCur_any (s : ByteArray) (w : World) (hs : s.size ≤ 9223372036854775807) : Calls Tryz.prog 128 #[.string s] w (Ret (.bool (isCur s)) w) := by
 have E : isCur s = (decide (s.size = 3) && s.data.toList.all curB) := rfl
 rw [E]
 clear E
 by_cases h3 : s.size = 3
 · rw [decide_eq_true h3, Bool.true_and]
   have H3 := hid' h3
   have h3' : ((s.size : Int) != 3) = false := by rw [h3]; rfl
   clear hs h3
   go_enter Tryz.func128, Tryz.ntmps128
   go_wp2_with fail
   go_loopw [3] (fun nv wr => ∃ n : Nat, nv = .int .i64 (n : Int) ∧ n ≤ 3 ∧ Hid (CurSpan s n) ∧ w = wr) (fun nv _ => 3 - (intOf nv).toNat)
   case atStart => exact ⟨0, rfl, by omega, hid' ⟨by omega, rfl⟩, rfl⟩
   case round =>
     obtain ⟨n, rfl, hn, HA, rfl⟩ := hrel
     by_cases hl : n < 3
     · have hls : n < s.size := by have := H3.out; omega
       have g0 : decide ((n : Int) < 3) = true := by simp; omega
       have g1 : (n : Int) < (s.size : Int) := by omega
       have hx := s[n].toNat_lt
       have htk := span_take s n hls
       by_cases c1 : (s[n].toNat : Int) < 65
       · have HE := hid' (show s.data.toList.all curB = false by
           rw [List.all_eq_false]; exact ⟨s[n], List.mem_of_getElem? (list_at s n hls), by unfold curB; simp; omega⟩)
         rw [HE.out]
         clear htk
         go_wp2_with fail
         go_ret
         exact ⟨rfl, rfl⟩
       · by_cases c2 : 90 < (s[n].toNat : Int)
         · have HE := hid' (show s.data.toList.all curB = false by
             rw [List.all_eq_false]; exact ⟨s[n], List.mem_of_getElem? (list_at s n hls), by unfold curB; simp; omega⟩)
           rw [HE.out]
           clear htk
           go_wp2_with fail
           go_ret
           exact ⟨rfl, rfl⟩
         · have HA2 := hid' (show CurSpan s (n + 1) from ⟨by omega, by rw [htk, List.all_append, HA.out.all]; unfold curB; simp; omega⟩)
           clear htk
           go_wp2_with fail
           go_roundw
           case rel => exact ⟨n + 1, by go_num, by omega, HA2, by first | rfl | trivial⟩
           case measure => simp [intOf]; omega
     · obtain rfl : n = 3 := by omega
       have HE := hid' (show s.data.toList.all curB = true by
         have := HA.out.all
         rwa [← H3.out, ← len_ba s, List.take_length] at this)
       clear hl
       go_wp2_with fail
       go_ret
       exact ⟨by rw [HE.out]; rfl, rfl⟩
 · rw [decide_eq_false h3, Bool.false_and]
   have h3' : ((s.size : Int) != 3) = true := by rw [bne_iff_ne]; omega
   clear h3
   go_enter Tryz.func128, Tryz.ntmps128
   go_wp2_with fail
   go_ret
   exact ⟨rfl, rfl⟩
end
end Go.Proofs.YtanlmbbalamgkaaGreatDoor

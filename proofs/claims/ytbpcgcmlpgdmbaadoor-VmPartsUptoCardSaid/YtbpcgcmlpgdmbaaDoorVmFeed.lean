/- Proved: vm's jumps, feed and told as contracts. -/
import Derived.Test.YtbpcgcmlpgdmbaaDoorVmMach
import Derived.Test.YtbpcgcmlpgdmbaaDoorFnLay
namespace Go.Proofs.YtbpcgcmlpgdmbaaDoor
open Go.RowKit
open Gen
open Rw
set_option linter.unusedVariables false
set_option linter.unusedSimpArgs false
set_option maxRecDepth 100000
theorem decide_jump {p : Prop} [Decidable p] (h : p) : decide p = true := decide_eq_true h
theorem jumps_20 (mb : Nat) (a b c n : Int) (s : ByteArray) (t : Int) (day r : Int) (w : World) (hd : w.cell? ⟨mb, 3, none⟩ = some (.int .i64 day)) :
    Calls Tryd.prog 26 #[.pointer (some ⟨mb, 0, none⟩), .agg #[.int .i64 20, .int .i64 a, .int .i64 b, .int .i64 c, .int .i64 n, .string s, .int .i64 t], .int .i64 r] w (Gives (.bool true) w) := by
  have B0 := hid' ((Below.refl w.heap.size w).alloc (Nat.le_refl _) (.cells #[.int .i64 20, .int .i64 a, .int .i64 b, .int .i64 c, .int .i64 n, .string s, .int .i64 t] 39))
  go_enter Tryd.func26, Tryd.ntmps26
  go_wp2_with fail
  go_ret
  exact ⟨rfl, B0.out⟩
theorem jumps_19 (mb : Nat) (a b c n : Int) (s : ByteArray) (t : Int) (day r : Int) (w : World) (hd : w.cell? ⟨mb, 3, none⟩ = some (.int .i64 day)) :
    Calls Tryd.prog 26 #[.pointer (some ⟨mb, 0, none⟩), .agg #[.int .i64 19, .int .i64 a, .int .i64 b, .int .i64 c, .int .i64 n, .string s, .int .i64 t], .int .i64 r] w (Gives (.bool (decide (r = 0))) w) := by
  have B0 := hid' ((Below.refl w.heap.size w).alloc (Nat.le_refl _) (.cells #[.int .i64 19, .int .i64 a, .int .i64 b, .int .i64 c, .int .i64 n, .string s, .int .i64 t] 39))
  by_cases hb : r = 0
  · subst hb
    go_enter Tryd.func26, Tryd.ntmps26
    go_wp2_with fail
    go_ret
    exact ⟨rfl, B0.out⟩
  · have e := hid' (show decide (r = 0) = false from decide_eq_false hb)
    have e2 : (r == 0) = false := by rw [beq_eq_false_iff_ne]; exact hb
    rw [e.out]
    clear hb
    go_enter Tryd.func26, Tryd.ntmps26
    go_wp2_with fail
    go_ret
    exact ⟨rfl, B0.out⟩
theorem jumps_21 (mb : Nat) (a b c n : Int) (s : ByteArray) (t : Int) (day r : Int) (w : World) (hd : w.cell? ⟨mb, 3, none⟩ = some (.int .i64 day)) :
    Calls Tryd.prog 26 #[.pointer (some ⟨mb, 0, none⟩), .agg #[.int .i64 21, .int .i64 a, .int .i64 b, .int .i64 c, .int .i64 n, .string s, .int .i64 t], .int .i64 r] w (Gives (.bool (decide (n < day))) w) := by
  have B0 := hid' ((Below.refl w.heap.size w).alloc (Nat.le_refl _) (.cells #[.int .i64 21, .int .i64 a, .int .i64 b, .int .i64 c, .int .i64 n, .string s, .int .i64 t] 39))
  have hd' := alloc_cell hd (.cells #[.int .i64 21, .int .i64 a, .int .i64 b, .int .i64 c, .int .i64 n, .string s, .int .i64 t] 39)
  go_enter Tryd.func26, Tryd.ntmps26
  go_wp2_with fail
  go_quiet (fail)
  go_wp2_with fail
  go_ret
  exact ⟨rfl, Below.drewn B0.out _⟩
theorem jumps_22 (mb : Nat) (a b c n : Int) (s : ByteArray) (t : Int) (day r : Int) (w : World) (hd : w.cell? ⟨mb, 3, none⟩ = some (.int .i64 day)) :
    Calls Tryd.prog 26 #[.pointer (some ⟨mb, 0, none⟩), .agg #[.int .i64 22, .int .i64 a, .int .i64 b, .int .i64 c, .int .i64 n, .string s, .int .i64 t], .int .i64 r] w (Gives (.bool (decide (day < n))) w) := by
  have B0 := hid' ((Below.refl w.heap.size w).alloc (Nat.le_refl _) (.cells #[.int .i64 22, .int .i64 a, .int .i64 b, .int .i64 c, .int .i64 n, .string s, .int .i64 t] 39))
  have hd' := alloc_cell hd (.cells #[.int .i64 22, .int .i64 a, .int .i64 b, .int .i64 c, .int .i64 n, .string s, .int .i64 t] 39)
  go_enter Tryd.func26, Tryd.ntmps26
  go_wp2_with fail
  go_quiet (fail)
  go_wp2_with fail
  go_ret
  exact ⟨rfl, Below.drewn B0.out _⟩
theorem jumps_any (mb : Nat) (x : Gen.Ix) (F : List Fd.Feed) (day r : Int) (w : World) (hd : w.cell? ⟨mb, 3, none⟩ = some (.int .i64 day)) (hop : x.op = 20 ∨ x.op = 19 ∨ x.op = 21 ∨ x.op = 22) :
    Calls Tryd.prog 26 #[.pointer (some ⟨mb, 0, none⟩), .agg #[.int .i64 x.op, .int .i64 x.a, .int .i64 x.b, .int .i64 x.c, .int .i64 x.n, .string x.s, .int .i64 x.to], .int .i64 r] w (Gives (.bool (Vm.jumps (Vm.env F day) x r)) w) := by
  obtain ⟨op, a, b, c, n, s, t⟩ := x
  rcases hop with h | h | h | h
  all_goals
    simp only at h
    subst h
  · exact jumps_20 mb a b c n s t day r w hd
  · exact jumps_19 mb a b c n s t day r w hd
  · exact jumps_21 mb a b c n s t day r w hd
  · exact jumps_22 mb a b c n s t day r w hd
/-- sort.Search's two closures. -/
theorem feed1_any (b3 b4 mb i : Nat) (F : List Fd.Feed) (name : ByteArray) (vf : Value) (W : World) (h3 : W.cell? ⟨b3, 0, none⟩ = some (.pointer (some ⟨mb, 0, none⟩))) (h4 : W.cell? ⟨b4, 0, none⟩ = some (.string name)) (hm : W.cell? ⟨mb, 4, none⟩ = some vf) (hF : FeedsAt W vf F) (hi : i < F.length) :
    Calls Tryd.prog 39 (#[.int .i64 (i : Int)] ++ #[.pointer (some ⟨b3, 0, none⟩), .pointer (some ⟨b4, 0, none⟩)]) W fun e w' => e = .returned (.bool (!Fd.lt (Fd.at' F i).1 name)) ∧ ∃ q, w' = W.drewN q := by
  obtain ⟨p, c, rfl, ⟨hl1, hl2⟩, hf⟩ := hF
  have hx : F[i]? = some (Fd.at' F i) := by unfold Fd.at'; rw [List.getElem?_eq_getElem hi]; rfl
  obtain ⟨b, off, sv, rfl, hb, ⟨c0, c1⟩, -, -⟩ := hf i _ hx
  generalize Fd.at' F i = y at *
  have j1 : (0 : Int) ≤ (i : Int) := by omega
  have j2 : (i : Int) < (F.length : Int) := by omega
  have e := hid' (show Fd.lt y.1 name = Op.bytesLess y.1.toList name.toList from rfl)
  rw [e.out]
  clear hf hx hb hi hl2
  go_enter Tryd.func39, Tryd.ntmps39
  go_wp2_with fail
  go_quiet (fail)
  go_wp2_with fail
  go_ret
  exact ⟨rfl, _, rfl⟩
theorem feed2_any (b9 b3 b5 mb k : Nat) (l : List (Int × Int)) (sv : Value) (day ago : Int) (hd : 0 ≤ day ∧ day ≤ 73048) (ha : 0 ≤ ago ∧ ago ≤ 3660) (W : World) (h9 : W.cell? ⟨b9, 0, none⟩ = some sv) (h3 : W.cell? ⟨b3, 0, none⟩ = some (.pointer (some ⟨mb, 0, none⟩))) (h5 : W.cell? ⟨b5, 0, none⟩ = some (.int .i64 ago)) (hm : W.cell? ⟨mb, 3, none⟩ = some (.int .i64 day)) (hS : StampsAt W sv l) (hk : k < l.length) :
    Calls Tryd.prog 40 (#[.int .i64 (k : Int)] ++ #[.pointer (some ⟨b9, 0, none⟩), .pointer (some ⟨b3, 0, none⟩), .pointer (some ⟨b5, 0, none⟩)]) W fun e w' => e = .returned (.bool (decide (day - ago < (Fd.stampAt l k).1))) ∧ ∃ q, w' = W.drewN q := by
  obtain ⟨p, c, rfl, ⟨hl1, hl2⟩, hf⟩ := hS
  have hx : l[k]? = some (Fd.stampAt l k) := by unfold Fd.stampAt; rw [List.getElem?_eq_getElem hk]; rfl
  obtain ⟨b, off, rfl, hb, ⟨c0, c1⟩, -, -⟩ := hf k _ hx
  generalize Fd.stampAt l k = y at *
  have j1 : (0 : Int) ≤ (k : Int) := by omega
  have j2 : (k : Int) < (l.length : Int) := by omega
  have j3 : IntKind.i64.wrap (day - ago) = day - ago := IntWalk.i64_in _ (by omega)
  clear hf hx hb hk hl2 hd ha
  go_enter Tryd.func40, Tryd.ntmps40
  go_wp2_with fail
  go_quiet (fail)
  go_wp2_with fail
  go_ret
  exact ⟨rfl, _, rfl⟩
end Go.Proofs.YtbpcgcmlpgdmbaaDoor

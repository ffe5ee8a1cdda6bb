/- The turns of 32-bit words: the library's and the reference's are one. -/
import Derived.Test.YtmddaomchhigbaaGreatDoorProg
import Derived.Test.YtmddaomchhigbaaGreatDoorShaPlain
import Derived.WalkKit
import Derived.WalkLawsBesides
import Derived.Below
namespace Go.Proofs.YtmddaomchhigbaaGreatDoor
open Go.RowKit
set_option linter.unusedVariables false

theorem bits_or_comm (k : IntKind) (a b : Int) : bits .or k a b = bits .or k b a := by
  simp only [bits, BitVec.or_comm]

theorem rot_any (x c : Int) (e : Nat) (w : World) (h0 : 0 ≤ x) (h1 : x ≤ 4294967295) (e1 : 1 ≤ e) (e2 : e ≤ 31)
    (hc : bits .and .u64 (IntKind.u64.wrap c) 31 = (e : Int)) :
    Calls Tryz.prog 97 #[.int .u32 x, .int .i64 c] w fun e' w' => e' = .returned (.int .u32 (Sha.ror x (32 - e))) ∧ w = w' := by
  have hr : Sha.ror x (32 - e) = bits .or .u32 (x * 2 ^ e % 4294967296) (x / 2 ^ (32 - e)) := by
    rw [Sha.ror, bits_or_comm, show 32 - (32 - e) = e by omega]
  rw [hr]
  clear hr
  go_enter Tryz.func97, Tryz.ntmps97
  go_wp2
  go_ret
  exact ⟨rfl, rfl⟩

theorem rotr_any (x : Int) (k : Nat) (w : World) (h0 : 0 ≤ x) (h1 : x ≤ 4294967295) (e1 : 1 ≤ k) (e2 : k ≤ 31) :
    Calls Tryz.prog 66 #[.int .u32 x, .int .u32 k] w fun e' w' => e' = .returned (.int .u32 (Sha.ror x k)) ∧ w = w' := by
  have hr : Sha.ror x k = bits .or .u32 (x / 2 ^ k) (x * 2 ^ (32 - k) % 4294967296) := rfl
  rw [hr]
  clear hr
  go_enter Tryz.func66, Tryz.ntmps66
  go_wp2
  go_ret
  exact ⟨rfl, rfl⟩
/-- The turns that the program names. -/
theorem rot_k (x c : Int) (w : World) (h0 : 0 ≤ x) (h1 : x ≤ 4294967295) (hc : c ∈ [-7, -18, -17, -19, -6, -11, -25, -2, -13, -22]) :
    Calls Tryz.prog 97 #[.int .u32 x, .int .i64 c] w fun e' w' => e' = .returned (.int .u32 (Sha.ror x (-c).toNat)) ∧ w = w' := by
  simp only [List.mem_cons, List.not_mem_nil, or_false] at hc
  rcases hc with rfl | rfl | rfl | rfl | rfl | rfl | rfl | rfl | rfl | rfl
  · exact rot_any x _ 25 w h0 h1 (by omega) (by omega) (by decide)
  · exact rot_any x _ 14 w h0 h1 (by omega) (by omega) (by decide)
  · exact rot_any x _ 15 w h0 h1 (by omega) (by omega) (by decide)
  · exact rot_any x _ 13 w h0 h1 (by omega) (by omega) (by decide)
  · exact rot_any x _ 26 w h0 h1 (by omega) (by omega) (by decide)
  · exact rot_any x _ 21 w h0 h1 (by omega) (by omega) (by decide)
  · exact rot_any x _ 7 w h0 h1 (by omega) (by omega) (by decide)
  · exact rot_any x _ 30 w h0 h1 (by omega) (by omega) (by decide)
  · exact rot_any x _ 19 w h0 h1 (by omega) (by omega) (by decide)
  · exact rot_any x _ 10 w h0 h1 (by omega) (by omega) (by decide)
theorem rotr_k (x k : Int) (w : World) (h0 : 0 ≤ x) (h1 : x ≤ 4294967295) (e1 : 1 ≤ k) (e2 : k ≤ 31) :
    Calls Tryz.prog 66 #[.int .u32 x, .int .u32 k] w fun e' w' => e' = .returned (.int .u32 (Sha.ror x k.toNat)) ∧ w = w' := by
  obtain ⟨n, rfl⟩ := Int.eq_ofNat_of_zero_le (show 0 ≤ k by omega)
  exact rotr_any x n w h0 h1 (by omega) (by omega)
theorem quiet_left {P : Program} {f : FuncId} {args : Array Value} {w : World} {n : Nat} {v : Value}
    (h : Calls P f args (w.drewN n) fun e w' => e = .returned v ∧ w.drewN n = w') : Calls P f args (w.drewN n) fun e w'' => e = .returned v ∧ ∃ m, w'' = w.drewN m :=
  h.mono fun _ _ ⟨he, hm⟩ => ⟨he, n, hm.symm⟩
theorem quiet_add_left {P : Program} {f : FuncId} {args : Array Value} {w : World} {a n : Nat} {v : Value}
    (h : Calls P f args (w.drewN (a + n)) fun e w' => e = .returned v ∧ w.drewN (a + n) = w') :
    Calls P f args (w.drewN (a + n)) fun e w'' => e = .returned v ∧ ∃ m, w'' = w.drewN (a + m) :=
  h.mono fun _ _ ⟨he, hm⟩ => ⟨he, n, hm.symm⟩
end Go.Proofs.YtmddaomchhigbaaGreatDoor

/- A number's bytes, the highest first: the program's number. -/
import Derived.Test.YtmddaomchhigbaaGreatDoorMacMix
import Derived.Laws.MakeOwn
namespace Go.Proofs.YtmddaomchhigbaaGreatDoor
open Go.RowKit
set_option linter.unusedVariables false

/-- The bytes that 'number' lays, one by one. -/
def byteAt (n : Int) (size i : Nat) : Int := n / 2 ^ (8 * (size - 1 - i)) % 256
def NumPost (w : World) (n : Int) (size : Nat) (e : Ending) (w' : World) : Prop :=
  e = .returned (.slice (some ⟨w.heap.size, 0, none⟩) size size) ∧ Below w.heap.size w w' ∧ w'.rowIs w.heap.size 5 size (fun i => .int .u8 (byteAt n size i)) ∧ w'.heap.size = w.heap.size + 1

structure NumAt (w wr : World) (n : Int) (size t : Nat) : Prop where
  bel : Below w.heap.size w wr
  row : wr.rowIs w.heap.size 5 size (fun i => .int .u8 (if i < t then byteAt n size i else 0))
  siz : wr.heap.size = w.heap.size + 1

theorem NumAt.start (w : World) (n : Int) (size : Nat) : NumAt w (w.alloc (.cells (Array.replicate size (.int .u8 0)) 5)) n size 0 := by
  refine ⟨(Below.refl _ _).alloc (by omega) _, (rowIs_newest w _ _ size (fun _ => .int .u8 0) (by simp) (fun i hi => zeros_cell _ _ _ hi)).congr fun i _ => ?_, by simp⟩
  rw [if_neg (by omega)]
theorem NumAt.step {w wr : World} {n : Int} {size t : Nat} (N : NumAt w wr n size t) (ht : t < size) {x : Int} (hx : x = byteAt n size t) :
    NumAt w (wr.setCell ⟨w.heap.size, t, none⟩ (.int .u8 x)) n size (t + 1) := by
  refine ⟨N.bel.setCell (by simp) _, (N.row.set t _).congr ?_, by simpa [World.setCell] using N.siz⟩
  intro i hi
  subst hx
  by_cases e : i = t
  · subst e
    rw [if_pos rfl, if_pos (by omega)]
  · rw [if_neg e]
    by_cases e2 : i < t
    · rw [if_pos e2, if_pos (by omega)]
    · rw [if_neg e2, if_neg (by omega)]

set_option maxHeartbeats 400000 in
theorem number_any (n : Int) (size : Nat) (w : World) (h0 : 0 ≤ n) (h1 : n ≤ 18446744073709551615) (hs0 : 1 ≤ size) (hs : size ≤ 8) :
    Calls Tryz.prog 75 #[.int .u64 n, .int .i64 (size : Int)] w (NumPost w n size) := by
  have hmk := fun w => make_bytes w size size (Nat.le_refl _) (by omega)
  have S0 := NumAt.start w n size
  go_enter Tryz.func75, Tryz.ntmps75
  go_wp2_with fail
  go_loopw [11] (fun v wr => ∃ t : Nat, t ≤ size ∧ v = .int .i64 t ∧ NumAt w wr n size t) (fun v _ => size - (intOf v).toNat)
  case atStart => exact ⟨0, by omega, rfl, S0⟩
  case round =>
    clear S0
    obtain ⟨t, ht, rfl, N⟩ := hrel
    by_cases hlt : t < size
    · have c0 := N.row.cell hlt
      have f0 := N.row.frozen t
      have t0 : (t : Int) < (size : Int) := by omega
      have s1 : (1 : Int) ≤ (size : Int) := by omega
      have w1 : IntKind.i64.wrap ((size : Int) - 1) = (size : Int) - 1 := IntWalk.i64_in _ (by omega)
      have w2 : IntKind.i64.wrap ((size : Int) - 1 - (t : Int)) = (size : Int) - 1 - (t : Int) := IntWalk.i64_in _ (by omega)
      have w3 : IntKind.i64.wrap (8 * ((size : Int) - 1 - (t : Int))) = 8 * ((size : Int) - 1 - (t : Int)) := IntWalk.i64_in _ (by omega)
      have g3 : 0 ≤ 8 * ((size : Int) - 1 - (t : Int)) := by omega
      have g4 : 8 * ((size : Int) - 1 - (t : Int)) ≤ 63 := by omega
      have n3 : (8 * ((size : Int) - 1 - (t : Int))).toNat = 8 * (size - 1 - t) := by omega
      go_wp2_with fail
      go_roundw
      case rel => exact ⟨t + 1, by omega, by go_num, N.step hlt rfl⟩
      case measure => simp [intOf]; omega
    · obtain rfl : t = size := by omega
      go_wp2_with fail
      go_ret
      exact ⟨rfl, N.bel, N.row.congr fun i hi => by rw [if_pos hi], N.siz⟩
end Go.Proofs.YtmddaomchhigbaaGreatDoor

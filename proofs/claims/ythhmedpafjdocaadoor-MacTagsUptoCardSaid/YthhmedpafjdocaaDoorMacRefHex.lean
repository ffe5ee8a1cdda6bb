/- Bytes written as digits: the reference's Hex. -/
import Derived.Test.YthhmedpafjdocaaDoorMacHex
import Derived.Deep.RegionHeld3
import Derived.Deep.RegionLaw
namespace Go.Proofs.YthhmedpafjdocaaDoor
open Go.RowKit
set_option linter.unusedVariables false

theorem two_at (w : World) (x0 x1 : Int) (t : TypeId) : ∀ i, i < 2 → (w.alloc (.cells #[.int .u8 x0, .int .u8 x1] t)).cell? ⟨w.heap.size, 0 + i, none⟩ = some (.int .u8 ([x0, x1].getD i 0)) := by
  intro i hi
  rw [Nat.zero_add, World.cell?_alloc_new]
  match i, hi with
  | 0, _ | 1, _ => rfl
structure HexAt (w wr : World) (v : Value) (l : List Int) : Prop where
  bel : Below w.heap.size w wr
  own : Owns w.heap.size wr v l
theorem HexAt.step {w wr w' : World} {v v' : Value} {l m : List Int} {o : Obj} (H : HexAt w wr v l) (h1 : Owns w.heap.size w' v' (l ++ m)) (h2 : (wr.alloc o).drew.grownBy w' v.ownBlock) : HexAt w w' v' (l ++ m) := by
  refine ⟨(H.bel.alloc H.bel.size o).drew.grown h2 (by simp; have := H.bel.size; omega) (fun k hk => ?_), h1⟩
  exact H.own.block k hk

set_option maxHeartbeats 1000000 in
theorem refhex_any (s : ByteArray) (w : World) (hs : s.size ≤ 10000000000000) :
    Calls Tryd.prog 18 #[.string s] w (HexPost w (Sha.nums s)) := by
  have hmk := make_bytes w 0 (2 * s.size) (by omega) (by omega)
  have e0 : ((0 : Nat) : Int) = 0 := rfl
  have e1 : ((2 * s.size : Nat) : Int) = 2 * (s.size : Int) := by omega
  rw [e0, e1] at hmk
  clear e0 e1
  have H0 : HexAt w (w.alloc (.cells (Array.replicate (2 * s.size) (.int .u8 0)) 5)) (.slice (some ⟨w.heap.size, 0, none⟩) 0 (2 * s.size)) [] :=
    ⟨(Below.refl _ _).alloc (Nat.le_refl _) _, by have := Owns.made (Nat.le_refl w.heap.size) (Array.replicate (2 * s.size) (.int .u8 0)) (by rw [Array.size_replicate]; unfold maxLen; omega); rwa [Array.size_replicate] at this⟩
  have hz : (s.size : Int) ≤ 10000000000000 := by omega
  go_enter Tryd.func18, Tryd.ntmps18
  go_wp2_with fail
  clear hmk
  go_loopw [4, 5] (fun v vi wr => ∃ t : Nat, t ≤ s.size ∧ vi = .int .i64 t ∧ HexAt w wr v (Sha.hex ((Sha.nums s).take t))) (fun _ vi _ => s.size - (intOf vi).toNat)
  case atStart => exact ⟨0, by omega, rfl, H0⟩
  case round =>
    clear H0
    obtain ⟨t, ht, rfl, H⟩ := hrel
    by_cases hlt : t < s.size
    · have t0 : (t : Int) < (s.size : Int) := by omega
      have hx := nums_at s t hlt
      have hat := Sha.nums_getD s t hlt
      have hstep := nums_take_succ s t hlt
      have hll : (Sha.hex ((Sha.nums s).take t)).length ≤ 2 * s.size := by rw [hex_length, List.length_take]; omega
      generalize (Sha.nums s).getD t 0 = x at *
      have hat' := hat.symm
      clear hat
      obtain ⟨x0, x1⟩ := hx
      have i1 := index_dig (x / 16) (by omega) (by omega)
      have i2 := index_dig (x % 16) (by omega) (by omega)
      have q1 : IntKind.u8.wrap (x.tdiv 16) = x / 16 := by rw [Int.tdiv_eq_ediv_of_nonneg x0]; exact IntWalk.u8_in _ (by omega)
      have q2 : x.tmod 16 = x % 16 := Int.tmod_eq_emod_of_nonneg x0
      have HS := hid' hstep
      have HO := hid' H.own
      have HZ := H.bel.size
      clear hstep
      go_wp2_with fail
      go_region_law ((refine step_bytes rfl _ _ (by rfl) w.heap.size _ (Sha.hex ((Sha.nums s).take t)) (by rfl) (HO.out.drew.alloc _) wr.heap.size 0 2 2 [Sha.digit (x / 16), Sha.digit (x % 16)] (by rfl) rfl (two_at _ _ _ _) (by omega) (by simp; omega) ?_; intro v' w' h1 h2))
      all_goals
        have H2 : HexAt w w' v' (Sha.hex ((Sha.nums s).take (t + 1))) := by
          rw [HS.out, hex_append]
          exact H.step h1 h2
        clear h1 h2 HO H i1 i2 q1 q2 hat'
        go_wp2_with fail
        go_roundw
        case rel => exact ⟨t + 1, by omega, by go_num, H2⟩
        case measure => simp [intOf]; omega
    · obtain rfl : t = s.size := by omega
      rw [List.take_of_length_le (by rw [Sha.nums_length]; omega)] at H
      have hcv := H.own.conv
      go_wp2_with fail
      go_ret
      exact ⟨rfl, H.bel⟩
end Go.Proofs.YthhmedpafjdocaaDoor

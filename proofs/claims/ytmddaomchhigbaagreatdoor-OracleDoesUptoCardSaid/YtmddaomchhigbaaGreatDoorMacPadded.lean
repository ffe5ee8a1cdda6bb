/- The reference's padded: bytes, made a multiple of 64. -/
import Derived.Test.YtmddaomchhigbaaGreatDoorBytes
import Derived.Test.YtmddaomchhigbaaGreatDoorShaPlain
import Derived.Outline
namespace Go.Proofs.YtmddaomchhigbaaGreatDoor
open Go.RowKit
set_option linter.unusedVariables false
set_option maxRecDepth 100000

structure PadAt (w wr : World) (v : Value) (l : List Int) : Prop where
  bel : Below w.heap.size w wr
  own : Owns w.heap.size wr v l
def PadPost (w : World) (l : List Int) (e : Ending) (w' : World) : Prop := ∃ v, e = .returned v ∧ Below w.heap.size w w' ∧ Owns w.heap.size w' v (Sha.padded l)

theorem PadAt.one {w wr w' : World} {v v' : Value} {l : List Int} {x : Int} (P : PadAt w wr v l) (h1 : Owns w.heap.size w' v' (l ++ [x])) (h2 : Below w.heap.size wr w') : PadAt w w' v' (l ++ [x]) :=
  ⟨P.bel.trans h2, h1⟩
theorem PadAt.len {w wr : World} {v : Value} {l : List Int} (P : PadAt w wr v l) : ∃ a c, v = .slice a l.length c := P.own.reads.len

def sliceLen : Value → Nat | .slice _ n _ => n | _ => 0
theorem PadAt.measure {w wr : World} {v : Value} {l : List Int} (P : PadAt w wr v l) : sliceLen v = l.length := by
  obtain ⟨a, c, rfl⟩ := P.len
  rfl
/-- The list at round k of the first loop, and at round t of the second. -/
def pad1 (l : List Int) (k : Nat) : List Int := l ++ 128 :: List.replicate k 0
def pad2 (l : List Int) (t : Nat) : List Int := pad1 l (Sha.nought l.length) ++ (Sha.be8 (8 * (l.length : Int))).take t
theorem pad1_succ (l : List Int) (k : Nat) : pad1 l (k + 1) = pad1 l k ++ [0] := by simp [pad1, List.replicate_succ']
theorem pad1_length (l : List Int) (k : Nat) : (pad1 l k).length = l.length + 1 + k := by simp [pad1]; omega
theorem pad2_length (l : List Int) (t : Nat) (h : t ≤ 8) : (pad2 l t).length = l.length + 1 + Sha.nought l.length + t := by
  simp [pad2, pad1_length, Sha.be8]; omega
theorem pad2_none (l : List Int) : pad2 l 0 = pad1 l (Sha.nought l.length) := by simp [pad2]
theorem pad2_succ (l : List Int) (t : Nat) (h : t < 8) : pad2 l (t + 1) = pad2 l t ++ [(Sha.be8 (8 * (l.length : Int))).getD t 0] := by
  have e : t < (Sha.be8 (8 * (l.length : Int))).length := h
  rw [pad2, pad2, List.take_succ_eq_append_getElem e, List.append_assoc, List.getD_eq_getElem?_getD, List.getElem?_eq_getElem e]
  rfl
theorem pad2_all (l : List Int) : pad2 l 8 = Sha.padded l := by simp [pad2, pad1, Sha.padded, Sha.be8]
theorem be8_getD (n : Int) (t : Nat) (h : t < 8) : n / 2 ^ (56 - 8 * t) % 256 = (Sha.be8 n).getD t 0 := by
  match t, h with
  | 0, _ | 1, _ | 2, _ | 3, _ | 4, _ | 5, _ | 6, _ | 7, _ => simp [Sha.be8]

set_option maxHeartbeats 1000000 in
theorem padded_any (w : World) (v : Value) (l : List Int) (hr : Reads w v l) (hl : l.length ≤ 100000000000000) :
    Calls Tryz.prog 64 #[v] w (PadPost w l) := by
  obtain ⟨va, vc, hv⟩ := hr.len
  have hmk := make_bytes w 0 (l.length + 72) (by omega) (by omega)
  have e0 : ((0 : Nat) : Int) = 0 := rfl
  have e1 : ((l.length + 72 : Nat) : Int) = (l.length : Int) + 72 := by omega
  rw [e0, e1] at hmk
  clear e0 e1
  have P0 : PadAt w (w.alloc (.cells (Array.replicate (l.length + 72) (.int .u8 0)) 5)) (.slice (some ⟨w.heap.size, 0, none⟩) 0 (l.length + 72)) [] :=
    ⟨(Below.refl _ _).alloc (Nat.le_refl _) _, by have := Owns.made (Nat.le_refl w.heap.size) (Array.replicate (l.length + 72) (.int .u8 0)) (by rw [Array.size_replicate]; unfold maxLen; omega); rwa [Array.size_replicate] at this⟩
  have HR := hid' (hr.alloc (.cells (Array.replicate (l.length + 72) (.int .u8 0)) 5))
  have hl0 : (0 : Int) ≤ (l.length : Int) := by omega
  have hl1 : (l.length : Int) ≤ 100000000000000 := by omega
  clear hr
  subst hv
  go_enter Tryz.func64, Tryz.ntmps64
  go_wp2_with (first
    | (refine append_reads rfl (.tmp 10) (.tmp 11) rfl w.heap.size _ _ rfl P0.own _ HR.out (by simp; omega) (by simp) (fun v1 w1 h1 h2 h3 => ?_); clear h3; refine halt' ?_)
    | fail)
  have P1 : PadAt w w1 v1 l := ⟨P0.bel.trans h2, by rw [List.nil_append] at h1; exact h1⟩
  clear P0 HR h1 h2
  refine hid' ?_
  go_wp2_with (first
    | (refine append_one rfl (.tmp 13) (.tmp 14) rfl w.heap.size _ _ rfl P1.own 128 rfl (by omega) P1.bel.size (fun v2 w2 h1 h2 h3 => ?_); clear h3; refine halt' ?_)
    | fail)
  have P2 : PadAt w w2 v2 (pad1 l 0) := P1.one h1 h2
  clear P1 h1 h2
  refine hid' ?_
  go_wp2_with fail
  go_loopw [3] (fun v wr => ∃ k : Nat, k ≤ Sha.nought l.length ∧ PadAt w wr v (pad1 l k)) (fun v _ => 100 + l.length - sliceLen v)
  case atStart => exact ⟨0, by omega, P2⟩
  case round =>
    clear P2
    obtain ⟨k, hk, P⟩ := hrel
    obtain ⟨a1, c1, rfl⟩ := P.len
    have hlen := pad1_length l k
    have HP := hid' P
    clear P
    have hb : (pad1 l k).length ≤ 100000000000100 := by unfold Sha.nought at hk; omega
    by_cases hlt : k < Sha.nought l.length
    · have t1 : ¬ (((pad1 l k).length : Int) % 64 = 56) := by
        rw [hlen]
        unfold Sha.nought at hlt
        omega
      have t2 : (((pad1 l k).length : Int) % 64 == 56) = false := by rw [beq_eq_false_iff_ne]; exact t1
      have t3 : (((pad1 l k).length : Int) % 64 != 56) = true := by rw [bne_iff_ne]; exact t1
      have l0 : (0 : Int) ≤ ((pad1 l k).length : Int) := by omega
      clear hlen t1
      go_wp2_with (first
        | (refine append_one rfl (.tmp 20) (.tmp 21) rfl w.heap.size _ _ rfl HP.out.own 0 rfl (by omega) HP.out.bel.size (fun v2 w2 h1 h2 h3 => ?_); clear h3; refine halt' ?_)
        | fail)
      have P2 : PadAt w w2 v2 (pad1 l (k + 1)) := by rw [pad1_succ]; exact HP.out.one h1 h2
      have m2 := P2.measure
      have m3 := pad1_length l k
      have m4 := pad1_length l (k + 1)
      clear h1 h2 HP
      have M := hid' (show 100 + l.length - sliceLen v2 < 100 + l.length - (pad1 l k).length by unfold Sha.nought at hlt; omega)
      clear m2 m3 m4
      refine hid' ?_
      go_wp2_with fail
      go_roundw
      case rel => exact ⟨k + 1, by omega, P2⟩
      case measure => exact M.out
    · obtain rfl : k = Sha.nought l.length := by omega
      have t1 : ((pad1 l (Sha.nought l.length)).length : Int) % 64 = 56 := by
        rw [hlen]
        unfold Sha.nought
        omega
      have t2 : (((pad1 l (Sha.nought l.length)).length : Int) % 64 == 56) = true := by rw [beq_iff_eq]; exact t1
      have t3 : (((pad1 l (Sha.nought l.length)).length : Int) % 64 != 56) = false := by rw [bne_eq_false_iff_eq]; exact t1
      have l0 : (0 : Int) ≤ ((pad1 l (Sha.nought l.length)).length : Int) := by omega
      have P3 : PadAt w wr (.slice a1 (pad1 l (Sha.nought l.length)).length c1) (pad2 l 0) := ⟨HP.out.bel, by have := HP.out.own; rwa [pad2_none]⟩
      clear hlen t1 HP
      go_wp2_with fail
      clear t2 t3 l0 hb
      go_loopw [3, 5] (fun v vi wr => ∃ t : Nat, t ≤ 8 ∧ vi = .int .i64 t ∧ PadAt w wr v (pad2 l t)) (fun _ vi _ => 8 - (intOf vi).toNat)
      case atStart => exact ⟨0, by omega, rfl, P3⟩
      case round =>
        clear P3
        obtain ⟨t, ht, rfl, P⟩ := hrel
        have hb := pad2_length l t ht
        have hn : Sha.nought l.length ≤ 63 := by unfold Sha.nought; omega
        by_cases hlt : t < 8
        · have t8 : (t : Int) < 8 := by omega
          have g1 : 0 ≤ 56 - 8 * (t : Int) := by omega
          have g2 : 56 - 8 * (t : Int) ≤ 63 := by omega
          have n1 : (56 - 8 * (t : Int)).toNat = 56 - 8 * t := by omega
          have HP := hid' P
          clear P
          go_wp2_with (first
            | (refine append_one rfl (.tmp 31) (.tmp 38) rfl w.heap.size _ _ rfl HP.out.own _ rfl (by omega) HP.out.bel.size (fun v2 w2 h1 h2 h3 => ?_); clear h3; refine halt' ?_)
            | fail)
          have P2 : PadAt w w2 v2 (pad2 l (t + 1)) := by
            rw [pad2_succ l t hlt, ← be8_getD _ t hlt, Int.mul_comm]
            exact HP.out.one h1 h2
          clear h1 h2 HP
          refine hid' ?_
          go_wp2_with fail
          go_roundw
          case rel => exact ⟨t + 1, by omega, by go_num, P2⟩
          case measure => simp [intOf]; omega
        · obtain rfl : t = 8 := by omega
          rw [pad2_all] at P
          go_wp2_with fail
          go_ret
          exact ⟨_, rfl, P.bel, P.own⟩
end Go.Proofs.YtmddaomchhigbaaGreatDoor

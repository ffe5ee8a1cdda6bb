/- The reference's words: the sixty-four of a block. -/
import Derived.Test.YtmddaomchhigbaaGreatDoorMacMix
namespace Go.Proofs.YtmddaomchhigbaaGreatDoor
open Go.RowKit
set_option linter.unusedVariables false

def cellsOf (n : Nat) (f : Nat → Value) : Array Value := ((List.range n).map f).toArray
theorem cellsOf_size (n : Nat) (f : Nat → Value) : (cellsOf n f).size = n := by simp [cellsOf]
theorem cellsOf_cell (n : Nat) (f : Nat → Value) (i : Nat) (hi : i < n) : (cellsOf n f)[i]? = some (f i) := by simp [cellsOf, hi]
theorem rowIs_heap {w : World} {g : Nat} {t : TypeId} {n : Nat} {f : Nat → Value} (r : w.rowIs g t n f) : w.heap[g]? = some (.cells (cellsOf n f) t (0, 0)) := by
  obtain ⟨c, hc, hn, hv⟩ := r
  rw [hc]
  congr 2
  apply Array.ext (by rw [hn, cellsOf_size])
  intro i hi _
  have h1 := hv i (by omega)
  have h2 := cellsOf_cell n f i (by omega)
  rw [Array.getElem?_eq_getElem hi] at h1
  rw [Array.getElem?_eq_getElem (by rw [cellsOf_size]; omega)] at h2
  simpa using h1.trans h2.symm
theorem cellsOf_one (n : Nat) (g : Nat → Int) (k : IntKind) : (cellsOf n fun i => .int k (g i)).all (·.oneCell') = true := by
  simp [cellsOf, Value.oneCell']
def wcells (b : Nat → Int) : Array Value := cellsOf 64 fun i => .int .u32 (Sha.W b i)

structure Words (w wr : World) (b : Nat → Int) (t : Nat) : Prop where
  bel : Below w.heap.size w wr
  r0 : wr.rowIs w.heap.size 113 64 (fun _ => .int .u32 0)
  r1 : wr.rowIs (w.heap.size + 1) 113 64 (fun i => .int .u32 (if i < t then Sha.W b i else 0))
theorem Words.start (w : World) (b : Nat → Int) : Words w ((w.alloc (.cells (Array.replicate 64 (.int .u32 0)) 113)).alloc (.cells (Array.replicate 64 (.int .u32 0)) 113)) b 0 := by
  have s1 : (w.alloc (.cells (Array.replicate 64 (.int .u32 0)) 113)).heap.size = w.heap.size + 1 := by simp
  refine ⟨((Below.refl _ _).alloc (by omega) _).alloc (by omega) _, (rowIs_newest w _ _ 64 _ (by simp) (fun i hi => zeros_cell _ _ _ hi)).alloc _, ?_⟩
  have := rowIs_newest (w.alloc (.cells (Array.replicate 64 (.int .u32 0)) 113)) (Array.replicate 64 (.int .u32 0)) 113 64 (fun _ => .int .u32 0) (by simp) (fun i hi => zeros_cell _ _ _ hi)
  rw [s1] at this
  refine this.congr fun i _ => ?_
  rw [if_neg (by omega)]
theorem Words.step {w wr : World} {b : Nat → Int} {t : Nat} (L : Words w wr b t) (ht : t < 64) {x : Int} (hx : x = Sha.W b t) : Words w (wr.setCell ⟨w.heap.size + 1, t, none⟩ (.int .u32 x)) b (t + 1) := by
  refine ⟨L.bel.setCell (by simp) _, L.r0.setOther (by simp) _, (L.r1.set t _).congr ?_⟩
  intro i hi
  subst hx
  by_cases e : i = t
  · subst e
    rw [if_pos rfl, if_pos (by omega)]
  · rw [if_neg e]
    by_cases e2 : i < t
    · rw [if_pos e2, if_pos (by omega)]
    · rw [if_neg e2, if_neg (by omega)]
theorem Words.drew {w wr : World} {b : Nat → Int} {t : Nat} (L : Words w wr b t) : Words w wr.drew b t := ⟨L.bel.drew, L.r0, L.r1⟩
theorem Words.cell {w wr : World} {b : Nat → Int} {t : Nat} (L : Words w wr b t) (i : Nat) (hi : i < t) (ht : t ≤ 64) : wr.cell? ⟨w.heap.size + 1, i, none⟩ = some (.int .u32 (Sha.W b i)) := by
  have := L.r1.cell (i := i) (by omega)
  rwa [if_pos hi] at this
def WordsPost (w : World) (b : Nat → Int) (e : Ending) (w' : World) : Prop := e = .returned (.agg (wcells b)) ∧ Below w.heap.size w w'

set_option maxRecDepth 100000 in
set_option maxHeartbeats 1000000 in
theorem words_any (w : World) (bk off c : Nat) (b : Nat → Int) (hc : 64 ≤ c) (hcm : c ≤ maxLen) (hbk : bk < w.heap.size) (hcell : ∀ i, i < 64 → w.cell? ⟨bk, off + i, none⟩ = some (.int .u8 (b i))) (hb : ∀ i, i < 64 → 0 ≤ b i ∧ b i ≤ 255) :
    Calls Tryz.prog 65 #[.slice (some ⟨bk, off, none⟩) 64 c] w (WordsPost w b) := by
  have HC := hid' hcell
  have HB := hid' hb
  have S0 := Words.start w b
  unfold maxLen at hcm
  clear hcell hb
  go_enter Tryz.func65, Tryz.ntmps65
  go_wp2_with fail
  go_loopw [4] (fun v wr => ∃ t : Nat, t ≤ 16 ∧ v = .int .i64 t ∧ Words w wr b t) (fun v _ => 16 - (intOf v).toNat)
  case atStart => exact ⟨0, by omega, rfl, S0⟩
  case round =>
    clear S0
    obtain ⟨t, ht, rfl, L⟩ := hrel
    by_cases hlt : t < 16
    · have c0 := (L.bel.cell (p := ⟨bk, off + 4 * t, none⟩) hbk).trans (HC.out (4 * t) (by omega))
      have c1 := (L.bel.cell (p := ⟨bk, off + (4 * t + 1), none⟩) hbk).trans (HC.out (4 * t + 1) (by omega))
      have c2 := (L.bel.cell (p := ⟨bk, off + (4 * t + 2), none⟩) hbk).trans (HC.out (4 * t + 2) (by omega))
      have c3 := (L.bel.cell (p := ⟨bk, off + (4 * t + 3), none⟩) hbk).trans (HC.out (4 * t + 3) (by omega))
      have hcc := L.r1.cell (i := t) (by omega)
      have hf := L.r1.frozen t
      have w0 : IntKind.i64.wrap (4 * (t : Int)) = 4 * (t : Int) := IntWalk.i64_in _ (by omega)
      have w1 : IntKind.i64.wrap (4 * (t : Int) + 1) = 4 * (t : Int) + 1 := IntWalk.i64_in _ (by omega)
      have w2 : IntKind.i64.wrap (4 * (t : Int) + 2) = 4 * (t : Int) + 2 := IntWalk.i64_in _ (by omega)
      have w3 : IntKind.i64.wrap (4 * (t : Int) + 3) = 4 * (t : Int) + 3 := IntWalk.i64_in _ (by omega)
      have a0 : 0 ≤ 4 * (t : Int) ∧ 4 * (t : Int) < 64 := by omega
      have a1 : 0 ≤ 4 * (t : Int) + 1 ∧ 4 * (t : Int) + 1 < 64 := by omega
      have a2 : 0 ≤ 4 * (t : Int) + 2 ∧ 4 * (t : Int) + 2 < 64 := by omega
      have a3 : 0 ≤ 4 * (t : Int) + 3 ∧ 4 * (t : Int) + 3 < 64 := by omega
      have n0 : (4 * (t : Int)).toNat = 4 * t := by omega
      have n1 : (4 * (t : Int) + 1).toNat = 4 * t + 1 := by omega
      have n2 : (4 * (t : Int) + 2).toNat = 4 * t + 2 := by omega
      have n3 : (4 * (t : Int) + 3).toNat = 4 * t + 3 := by omega
      have t64 : (t : Int) < 64 := by omega
      go_wp2_with fail
      go_still_tail 35, (by kernel_rfl)
      change wpList _ _ _ _ _ wr.drew
      go_wp2_with fail
      go_roundw
      case rel => exact ⟨t + 1, by omega, by go_num, ((L.step (by omega) (by rw [Sha.W_low b t hlt, Sha.word])).drew)⟩
      case measure => simp [intOf]; omega
    · obtain rfl : t = 16 := by omega
      rw [show ((16 : Nat) : Int) = 16 from rfl]
      go_wp2_with fail
      go_loopw [5] (fun v wr => ∃ t : Nat, 16 ≤ t ∧ t ≤ 64 ∧ v = .int .i64 t ∧ Words w wr b t) (fun v _ => 64 - (intOf v).toNat)
      case atStart => exact ⟨16, by omega, by omega, rfl, L⟩
      case round =>
        clear L
        obtain ⟨t, ht1, ht, rfl, L⟩ := hrel
        by_cases hlt : t < 64
        · have hc := L.r1.cell (i := t) (by omega)
          have hf := L.r1.frozen t
          have c2 := L.cell (t - 2) (by omega) (by omega)
          have c7 := L.cell (t - 7) (by omega) (by omega)
          have c15 := L.cell (t - 15) (by omega) (by omega)
          have c16 := L.cell (t - 16) (by omega) (by omega)
          have b2 := Sha.W_bounds b (t - 2)
          have b15 := Sha.W_bounds b (t - 15)
          have w7 : IntKind.i64.wrap ((t : Int) - 7) = (t : Int) - 7 := IntWalk.i64_in _ (by omega)
          have w16 : IntKind.i64.wrap ((t : Int) - 16) = (t : Int) - 16 := IntWalk.i64_in _ (by omega)
          have g7 : (7 : Int) ≤ (t : Int) := by omega
          have g16 : (16 : Int) ≤ (t : Int) := by omega
          have a7 : 0 ≤ (t : Int) - 7 ∧ (t : Int) - 7 < 64 := by omega
          have a16 : 0 ≤ (t : Int) - 16 ∧ (t : Int) - 16 < 64 := by omega
          have n7 : ((t : Int) - 7).toNat = t - 7 := by omega
          have n16 : ((t : Int) - 16).toNat = t - 16 := by omega
          have t64 : (t : Int) < 64 := by omega
          go_wp2_with (first | fail | (go_at_call 66; refine (rotr_k _ _ _ (by omega) (by omega) (by omega) (by omega)).mono ?_; rintro e w' ⟨rfl, rfl⟩))
          go_still_tail 15, (by kernel_rfl)
          change wpList _ _ _ _ _ wr.drew
          go_wp2_with fail
          go_roundw
          case rel => exact ⟨t + 1, by omega, by omega, by go_num, ((L.step (by omega) (by rw [Sha.W_high b t (by omega), Sha.lit0, Sha.lit1]; omega)).drew)⟩
          case measure => simp [intOf]; omega
        · obtain rfl : t = 64 := by omega
          rw [show ((64 : Nat) : Int) = 64 from rfl]
          have E0 := hid' (rowIs_heap L.r0)
          have E1 := hid' (rowIs_heap (L.r1.congr (g := fun i => .int .u32 (Sha.W b i)) fun i hi => by rw [if_pos hi]))
          go_wp2_with (first
            | (refine wpList_load_row rfl 113 (.tmp 3) rfl (w.heap.size + 1) rfl 113 _ (0, 0) _ E1.out Tryz.underlying113 rfl (by kernel_rfl) ?_)
            | (refine wpList_store_row rfl 113 (.tmp 2) (.tmp 92) rfl w.heap.size _ rfl rfl 113 _ E0.out (by kernel_rfl) (by rw [cellsOf_size, cellsOf_size]) (cellsOf_one _ _ _) ?_)
            | fail)
          exact bodyPost_ret (results_cell_row rfl _ _ w.heap.size 113 _ (0, 0) _ rfl (setRow_heap _ _ _ _ _ _ E0.out) Tryz.underlying113 rfl (by kernel_rfl)) rfl ⟨rfl, below_setRow L.bel (Nat.le_refl _) _⟩
end Go.Proofs.YtmddaomchhigbaaGreatDoor

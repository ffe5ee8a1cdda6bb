/- The program's mix: what a block makes of the eight numbers. -/
import Derived.Test.YtmddaomchhigbaaGreatDoorMacRot
import Derived.Test.YtmddaomchhigbaaGreatDoorBytes
import Derived.Outline
import Derived.BigQuiet
import Derived.BigRegion
import Derived.Deep.OwnRows
import Derived.Deep.QuietTactic
import Derived.StillTailTactics
import Derived.Laws.Tables
import Derived.Laws.CopyOwn
namespace Go.Proofs.YtmddaomchhigbaaGreatDoor
open Go.RowKit
set_option linter.unusedVariables false

theorem below_rowIs {B : Nat} {w w' : World} {b : Nat} {t : TypeId} {n : Nat} {f : Nat → Value} (h : Below B w w') (hb : b < B) (r : w.rowIs b t n f) : w'.rowIs b t n f :=
  r.of_block (h.block b hb)
theorem rowIs_newest (w : World) (c : Array Value) (t : TypeId) (n : Nat) (f : Nat → Value) (hn : c.size = n) (hc : ∀ i, i < n → c[i]? = some (f i)) : (w.alloc (.cells c t)).rowIs w.heap.size t n f := by
  subst hn
  exact World.rowIs_alloc w c t f hc
theorem zeros_cell (n i : Nat) (v : Value) (h : i < n) : (Array.replicate n v)[i]? = some v := by
  rw [Array.getElem?_replicate, if_pos h]
def eight (h : Nat → Int) : Array Value := #[.int .u32 (h 0), .int .u32 (h 1), .int .u32 (h 2), .int .u32 (h 3), .int .u32 (h 4), .int .u32 (h 5), .int .u32 (h 6), .int .u32 (h 7)]
theorem eight_cell (h : Nat → Int) (i : Nat) (hi : i < 8) : (eight h)[i]? = some (.int .u32 (h i)) := by
  match i, hi with
  | 0, _ => rfl
  | 1, _ => rfl
  | 2, _ => rfl
  | 3, _ => rfl
  | 4, _ => rfl
  | 5, _ => rfl
  | 6, _ => rfl
  | 7, _ => rfl

theorem eight_one (h : Nat → Int) : (eight h).all (·.oneCell') = true := by
  simp [eight, Value.oneCell']
/-- What stands at the head of the round t of the first two loops: t words are laid. -/
def Laid (w wr : World) (h : Nat → Int) (b : Nat → Int) (t : Nat) : Prop :=
  Below w.heap.size w wr ∧ wr.rowIs w.heap.size 136 8 (fun i => .int .u32 (h i)) ∧ wr.rowIs (w.heap.size + 1) 136 8 (fun _ => .int .u32 0) ∧
    wr.rowIs (w.heap.size + 2) 113 64 (fun i => .int .u32 (if i < t then Sha.W b i else 0)) ∧ wr.heap.size = w.heap.size + 3

theorem Laid.start (w : World) (h b : Nat → Int) :
    Laid w (((w.alloc (.cells (eight h) 136)).alloc (.cells (eight fun _ => 0) 136)).alloc (.cells (Array.replicate 64 (.int .u32 0)) 113)) h b 0 := by
  have s1 : (w.alloc (.cells (eight h) 136)).heap.size = w.heap.size + 1 := by simp
  have s2 : ((w.alloc (.cells (eight h) 136)).alloc (.cells (eight fun _ => 0) 136)).heap.size = w.heap.size + 2 := by simp
  refine ⟨(((Below.refl _ _).alloc (by omega) _).alloc (by omega) _).alloc (by omega) _, ?_, ?_, ?_, by simp⟩
  · exact ((rowIs_newest w (eight h) 136 8 _ rfl (fun i hi => eight_cell h i hi)).alloc _).alloc _
  · have := (rowIs_newest (w.alloc (.cells (eight h) 136)) (eight fun _ => 0) 136 8 _ rfl (fun i hi => eight_cell (fun _ => 0) i hi))
    rw [s1] at this
    exact this.alloc _
  · have := (rowIs_newest ((w.alloc (.cells (eight h) 136)).alloc (.cells (eight fun _ => 0) 136)) (Array.replicate 64 (.int .u32 0)) 113 64 (fun _ => .int .u32 0) (by simp) (fun i hi => zeros_cell _ _ _ hi))
    rw [s2] at this
    refine this.congr fun i _ => ?_
    rw [if_neg (by omega)]
theorem Laid.step {w wr : World} {h b : Nat → Int} {t : Nat} (L : Laid w wr h b t) (ht : t < 64) {x : Int} (hx : x = Sha.W b t) :
    Laid w (wr.setCell ⟨w.heap.size + 2, t, none⟩ (.int .u32 x)) h b (t + 1) := by
  obtain ⟨hb, r0, r1, r2, hsz⟩ := L
  refine ⟨hb.setCell (by simp) _, r0.setOther (by simp) _, r1.setOther (by simp) _, (r2.set t _).congr ?_, by simpa [World.setCell] using hsz⟩
  intro i hi
  subst hx
  by_cases e : i = t
  · subst e
    rw [if_pos rfl, if_pos (by omega)]
  · rw [if_neg e]
    by_cases e2 : i < t
    · rw [if_pos e2, if_pos (by omega)]
    · rw [if_neg e2, if_neg (by omega)]
theorem Laid.draw {w wr : World} {h b : Nat → Int} {t : Nat} (L : Laid w wr h b t) : Laid w wr.drew h b t := ⟨L.1.drew, L.2.1, L.2.2.1, L.2.2.2.1, L.2.2.2.2⟩

theorem Laid.drawN {w wr : World} {h b : Nat → Int} {t : Nat} (L : Laid w wr h b t) (n : Nat) : Laid w (wr.drewN n) h b t :=
  ⟨⟨L.1.os, L.1.tape, L.1.output, L.1.size, L.1.block⟩, L.2.1, L.2.2.1, L.2.2.2.1, L.2.2.2.2⟩
def MixPost (w : World) (v : Nat → Int) (e : Ending) (w' : World) : Prop := e = .returned (.agg (eight v)) ∧ Below w.heap.size w w'

theorem Laid.cell {w wr : World} {h b : Nat → Int} {t : Nat} (L : Laid w wr h b t) (i : Nat) (hi : i < t) (ht : t ≤ 64) : wr.cell? ⟨w.heap.size + 2, i, none⟩ = some (.int .u32 (Sha.W b i)) := by
  have := L.2.2.2.1.cell (i := i) (by omega)
  rwa [if_pos hi] at this

theorem rowIs_eight {w : World} {g : Nat} {t : TypeId} {v : Nat → Int} (r : w.rowIs g t 8 (fun i => .int .u32 (v i))) : w.heap[g]? = some (.cells (eight v) t (0, 0)) := by
  obtain ⟨c, hc, hn, hv⟩ := r
  rw [hc]
  congr 2
  apply Array.ext (by rw [hn]; rfl)
  intro i hi _
  have h1 := hv i (by omega)
  have h2 := eight_cell v i (by omega)
  rw [Array.getElem?_eq_getElem hi] at h1
  rw [Array.getElem?_eq_getElem (by show i < 8; omega)] at h2
  simpa using h1.trans h2.symm
theorem heap_new_at (w : World) (o : Obj) {n : Nat} (h : w.heap.size = n) : (w.alloc o).heap[n]? = some o := by
  subst h
  exact heap_alloc_new w o
theorem eight_rowIs {w : World} {g : Nat} {t : TypeId} {v : Nat → Int} (hg : w.heap[g]? = some (.cells (eight v) t (0, 0))) : w.rowIs g t 8 (fun i => .int .u32 (v i)) :=
  ⟨_, hg, rfl, fun i hi => eight_cell v i hi⟩
/-- What stands at the head of the round t of the third loop: t rounds are done. -/
structure Turn (w wr : World) (h b : Nat → Int) (t : Nat) : Prop where
  bel : Below w.heap.size w wr
  b0 : wr.heap[w.heap.size]? = some (.cells (eight h) 136 (0, 0))
  b1 : wr.heap[w.heap.size + 1]? = some (.cells (eight fun _ => 0) 136 (0, 0))
  b2 : wr.rowIs (w.heap.size + 2) 113 64 (fun i => .int .u32 (Sha.W b i))
  b3 : wr.heap[w.heap.size + 3]? = some (.cells (eight (Sha.rounds b h t)) 136 (0, 0))
theorem Turn.start {w wr : World} {h b : Nat → Int} (lb : Below w.heap.size w wr) (e0 : wr.heap[w.heap.size]? = some (.cells (eight h) 136 (0, 0)))
    (e1 : wr.heap[w.heap.size + 1]? = some (.cells (eight fun _ => 0) 136 (0, 0)))
    (l2 : wr.rowIs (w.heap.size + 2) 113 64 (fun i => .int .u32 (if i < 64 then Sha.W b i else 0))) (lz : wr.heap.size = w.heap.size + 3) :
    Turn w ((wr.alloc (.cells (eight fun _ => 0) 136)).setRow (w.heap.size + 3) (eight h)) h b 0 := by
  have hold : ∀ k, k < w.heap.size + 3 → ((wr.alloc (.cells (eight fun _ => 0) 136)).setRow (w.heap.size + 3) (eight h)).heap[k]? = wr.heap[k]? := by
    intro k hk
    rw [setRow_other _ _ _ _ (by omega), Below.heap_alloc _ _ _ (by omega)]
  refine ⟨below_setRow (lb.alloc (by omega) _) (by omega) _, (hold _ (by omega)).trans e0, (hold _ (by omega)).trans e1, (l2.of_block (hold _ (by omega))).congr fun i hi => by rw [if_pos hi], setRow_heap _ _ _ _ _ _ (heap_new_at _ _ lz)⟩
theorem Turn.round {w wr : World} {h b : Nat → Int} {t : Nat} (T : Turn w wr h b t) {cs : Array Value} (hc : cs = eight (Sha.rounds b h (t + 1))) : Turn w (wr.setRow (w.heap.size + 3) cs) h b (t + 1) := by
  subst hc
  have hold : ∀ k, k < w.heap.size + 3 → (wr.setRow (w.heap.size + 3) (eight (Sha.rounds b h (t + 1)))).heap[k]? = wr.heap[k]? := fun k hk => setRow_other _ _ _ _ (by omega)
  exact ⟨below_setRow T.bel (by omega) _, (hold _ (by omega)).trans T.b0, (hold _ (by omega)).trans T.b1, T.b2.of_block (hold _ (by omega)), setRow_heap _ _ _ _ _ _ T.b3⟩
theorem Turn.drawN {w wr : World} {h b : Nat → Int} {t : Nat} (T : Turn w wr h b t) (n : Nat) : Turn w (wr.drewN n) h b t :=
  ⟨⟨T.bel.os, T.bel.tape, T.bel.output, T.bel.size, T.bel.block⟩, T.b0, T.b1, T.b2, T.b3⟩
theorem Turn.at3 {w wr : World} {h b : Nat → Int} {t : Nat} (T : Turn w wr h b t) (i : Nat) (hi : i < 8) : wr.cell? ⟨w.heap.size + 3, i, none⟩ = some (.int .u32 (Sha.rounds b h t i)) := by
  rw [cell_of_row _ _ _ _ _ _ T.b3, eight_cell _ _ hi]
theorem Turn.at2 {w wr : World} {h b : Nat → Int} {t : Nat} (T : Turn w wr h b t) (i : Nat) (hi : i < 64) : wr.cell? ⟨w.heap.size + 2, i, none⟩ = some (.int .u32 (Sha.W b i)) := T.b2.cell hi
theorem cell_of_eight {w : World} {g : Nat} {t : TypeId} {v : Nat → Int} (hg : w.heap[g]? = some (.cells (eight v) t (0, 0))) (i : Nat) (hi : i < 8) : w.cell? ⟨g, i, none⟩ = some (.int .u32 (v i)) := by
  rw [cell_of_row _ _ _ _ _ _ hg, eight_cell _ _ hi]
def foldTo (h v : Nat → Int) (t : Nat) (i : Nat) : Int := if i < t then (h i + v i) % 4294967296 else h i
theorem fold_none (h v : Nat → Int) : foldTo h v 0 = h := by
  funext i
  simp [foldTo]
theorem fold_all (b h : Nat → Int) : eight (foldTo h (Sha.rounds b h 64) 8) = eight (Sha.mixs b h) := by
  simp [eight, foldTo, Sha.mixs]
/-- What stands at the head of the round t of the last loop: t numbers are added. -/
structure Fold (w wr : World) (h v : Nat → Int) (t : Nat) : Prop where
  bel : Below w.heap.size w wr
  b0 : wr.rowIs w.heap.size 136 8 (fun i => .int .u32 (foldTo h v t i))
  b1 : wr.heap[w.heap.size + 1]? = some (.cells (eight fun _ => 0) 136 (0, 0))
  b3 : wr.heap[w.heap.size + 3]? = some (.cells (eight v) 136 (0, 0))
theorem Fold.step {w wr : World} {h v : Nat → Int} {t : Nat} (F : Fold w wr h v t) {x : Int} (hx : x = (h t + v t) % 4294967296) :
    Fold w (wr.setCell ⟨w.heap.size, t, none⟩ (.int .u32 x)).drew h v (t + 1) := by
  refine ⟨(F.bel.setCell (by simp) _).drew, World.rowIs.drew ((F.b0.set t _).congr ?_), (heap_setCell_other _ _ _ _ (by simp)).trans F.b1, (heap_setCell_other _ _ _ _ (by simp)).trans F.b3⟩
  intro i hi
  subst hx
  unfold foldTo
  by_cases e : i = t
  · subst e
    rw [if_pos rfl, if_pos (by omega)]
  · rw [if_neg e]
    by_cases e2 : i < t
    · rw [if_pos e2, if_pos (by omega)]
    · rw [if_neg e2, if_neg (by omega)]
def kcells : Array Value := (Sha.kk.map (Value.int .u32)).toArray
theorem kcells_cell (t : Nat) (ht : t < 64) : kcells[t]? = some (.int .u32 (Sha.kk.getD t 0)) := by
  have hl : Sha.kk.length = 64 := rfl
  rw [kcells, List.getElem?_toArray, List.getElem?_map, List.getD_eq_getElem?_getD, List.getElem?_eq_getElem (by omega)]
  rfl
theorem run_index_ints {P : Program} (w : World) (T E : TypeId) (n : Nat) (cs : Array Value) (v : Value) (hT : P.underlying T = some (.array n E)) (hs : ∀ w, (Go.sizeOf E).run P w = .ok 1 w)
    (ha : ∀ w, (isAgg E).run P w = .ok false w) (t : Nat) (ht : t < n) (hc : cs[t]? = some v) : (Instr.index T (.agg cs) (.int .i64 t)).run P w = .ok v w := by
  have hi : (0 : Int) ≤ (t : Int) ∧ (t : Int) < (n : Int) := by omega
  have hi2 : ¬ n ≤ t := by omega
  simp [Instr.index, asIntOf, run_underlying hT, hs, ha, hi, hi2, hc, go_sem]
theorem run_index_keys (w : World) (t : Nat) (ht : t < 64) : (Instr.index 113 (.agg kcells) (.int .i64 t)).run Tryz.prog w = .ok (.int .u32 (Sha.kk.getD t 0)) w :=
  run_index_ints w _ _ 64 _ _ Tryz.underlying113 Tryz.sizeOf112 Tryz.isAgg112 t ht (kcells_cell t ht)
/-- The program's table of constants. -/
def Keys (fr : Nat × Nat × Nat) (w : World) : Prop := w.heap[1]? = some (.cells kcells fr.1 fr.2)
theorem Keys.lt {fr : Nat × Nat × Nat} {w : World} (h : Keys fr w) : 1 < w.heap.size := by
  unfold Keys at h
  rcases Nat.lt_or_ge 1 w.heap.size with h' | h'
  · exact h'
  · rw [Array.getElem?_eq_none h'] at h
    simp at h

set_option maxRecDepth 100000 in
set_option maxHeartbeats 1000000 in
theorem mix_any (fr : Nat × Nat × Nat) (h : Nat → Int) (s : ByteArray) (w : World) (hs : 64 ≤ s.size) (hh : Sha.Fit h) (hk : Hid (Keys fr w)) :
    Calls Tryz.prog 76 #[.agg (eight h), .string s] w (MixPost w (Sha.mixs (fun i => (Sha.nums s).getD i 0) h)) := by
  generalize hb : (fun i => (Sha.nums s).getD i 0) = b
  have hby : ∀ i (hi : i < s.size), (s[i].toNat : Int) = b i := by
    intro i hi
    rw [← hb]
    exact (Sha.nums_getD s i hi).symm
  have HB := hid' hby
  clear hb hby
  unfold eight
  go_enter Tryz.func76, Tryz.ntmps76
  go_wp2
  go_loopw [20] (fun v wr => ∃ t : Nat, t ≤ 16 ∧ v = .int .i64 t ∧ Laid w wr h b t) (fun v _ => 16 - (intOf v).toNat)
  case atStart =>
    exact ⟨0, by omega, rfl, Laid.start w h b⟩
  case round =>
    obtain ⟨t, ht, rfl, L⟩ := hrel
    by_cases hlt : t < 16
    · --<<
      have hc := L.2.2.2.1.cell (i := t) (by omega)
      have hf := L.2.2.2.1.frozen t
      have w0 : IntKind.i64.wrap (4 * (t : Int)) = 4 * (t : Int) := IntWalk.i64_in _ (by omega)
      have w1 : IntKind.i64.wrap (4 * (t : Int) + 1) = 4 * (t : Int) + 1 := IntWalk.i64_in _ (by omega)
      have w2 : IntKind.i64.wrap (4 * (t : Int) + 2) = 4 * (t : Int) + 2 := IntWalk.i64_in _ (by omega)
      have w3 : IntKind.i64.wrap (4 * (t : Int) + 3) = 4 * (t : Int) + 3 := IntWalk.i64_in _ (by omega)
      have a0 : 0 ≤ 4 * (t : Int) ∧ 4 * (t : Int) < (s.size : Int) := by omega
      have a1 : 0 ≤ 4 * (t : Int) + 1 ∧ 4 * (t : Int) + 1 < (s.size : Int) := by omega
      have a2 : 0 ≤ 4 * (t : Int) + 2 ∧ 4 * (t : Int) + 2 < (s.size : Int) := by omega
      have a3 : 0 ≤ 4 * (t : Int) + 3 ∧ 4 * (t : Int) + 3 < (s.size : Int) := by omega
      have n0 : (4 * (t : Int)).toNat = 4 * t := by omega
      have n1 : (4 * (t : Int) + 1).toNat = 4 * t + 1 := by omega
      have n2 : (4 * (t : Int) + 2).toNat = 4 * t + 2 := by omega
      have n3 : (4 * (t : Int) + 3).toNat = 4 * t + 3 := by omega
      have t64 : (t : Int) < 64 := by omega
      go_wp2_with fail
      go_still_tail 31, (by kernel_rfl)
      change wpList _ _ _ _ _ wr.drew
      go_wp2_with fail
      go_roundw
      case rel => exact ⟨t + 1, by omega, by go_num, ((L.step (by omega) (by rw [Sha.W_low b t hlt, Sha.word, ← HB.out (4 * t) (by omega), ← HB.out (4 * t + 1) (by omega), ← HB.out (4 * t + 2) (by omega), ← HB.out (4 * t + 3) (by omega)])).draw)⟩
      case measure => simp [intOf]; omega
      -->>
    · obtain rfl : t = 16 := by omega
      rw [show ((16 : Nat) : Int) = 16 from rfl]
      go_wp2_with fail
      go_loopw [7] (fun v wr => ∃ t : Nat, 16 ≤ t ∧ t ≤ 64 ∧ v = .int .i64 t ∧ Laid w wr h b t) (fun v _ => 64 - (intOf v).toNat)
      case atStart => exact ⟨16, by omega, by omega, rfl, L⟩
      case round =>
        clear L
        obtain ⟨t, ht1, ht, rfl, L⟩ := hrel
        by_cases hlt : t < 64
        · --<<
          have hc := L.2.2.2.1.cell (i := t) (by omega)
          have hf := L.2.2.2.1.frozen t
          have c2 := L.cell (t - 2) (by omega) (by omega)
          have c7 := L.cell (t - 7) (by omega) (by omega)
          have c15 := L.cell (t - 15) (by omega) (by omega)
          have c16 := L.cell (t - 16) (by omega) (by omega)
          have b2 := Sha.W_bounds b (t - 2)
          have b15 := Sha.W_bounds b (t - 15)
          have w2 : IntKind.i64.wrap ((t : Int) - 2) = (t : Int) - 2 := IntWalk.i64_in _ (by omega)
          have w7 : IntKind.i64.wrap ((t : Int) - 7) = (t : Int) - 7 := IntWalk.i64_in _ (by omega)
          have w15 : IntKind.i64.wrap ((t : Int) - 15) = (t : Int) - 15 := IntWalk.i64_in _ (by omega)
          have w16 : IntKind.i64.wrap ((t : Int) - 16) = (t : Int) - 16 := IntWalk.i64_in _ (by omega)
          have a2 : 0 ≤ (t : Int) - 2 ∧ (t : Int) - 2 < 64 := by omega
          have a7 : 0 ≤ (t : Int) - 7 ∧ (t : Int) - 7 < 64 := by omega
          have a15 : 0 ≤ (t : Int) - 15 ∧ (t : Int) - 15 < 64 := by omega
          have a16 : 0 ≤ (t : Int) - 16 ∧ (t : Int) - 16 < 64 := by omega
          have g2 : (2 : Int) ≤ (t : Int) := by omega
          have g7 : (7 : Int) ≤ (t : Int) := by omega
          have g15 : (15 : Int) ≤ (t : Int) := by omega
          have g16 : (16 : Int) ≤ (t : Int) := by omega
          have n2 : ((t : Int) - 2).toNat = t - 2 := by omega
          have n7 : ((t : Int) - 7).toNat = t - 7 := by omega
          have n15 : ((t : Int) - 15).toNat = t - 15 := by omega
          have n16 : ((t : Int) - 16).toNat = t - 16 := by omega
          have t64 : (t : Int) < 64 := by omega
          go_wp2_with fail
          go_quiet (fail)
          have L2 : Laid w (wr.drewN nq) h b t := L.drawN nq
          clear hc hf c2 c7 c15 c16 L
          generalize wr.drewN nq = wr2 at L2 ⊢
          have hc := L2.2.2.2.1.cell (i := t) (by omega)
          have hf := L2.2.2.2.1.frozen t
          have c2 := L2.cell (t - 2) (by omega) (by omega)
          have c7 := L2.cell (t - 7) (by omega) (by omega)
          have c15 := L2.cell (t - 15) (by omega) (by omega)
          have c16 := L2.cell (t - 16) (by omega) (by omega)
          go_wp2_with (first | fail | (go_at_call 97; refine (rot_k _ _ _ (by omega) (by omega) (by decide)).mono ?_; rintro e w' ⟨rfl, rfl⟩))
          go_still_tail 15, (by kernel_rfl)
          change wpList _ _ _ _ _ wr2.drew
          go_wp2_with fail
          go_roundw
          case rel => exact ⟨t + 1, by omega, by omega, by go_num, ((L2.step (by omega) (by rw [Sha.W_high b t (by omega)]; rfl)).draw)⟩
          case measure => simp [intOf]; omega
          -->>
        · obtain rfl : t = 64 := by omega
          rw [show ((64 : Nat) : Int) = 64 from rfl]
          obtain ⟨lb, l0, l1, l2, lz⟩ := L
          have e0 := rowIs_eight l0
          have e1 := rowIs_eight l1
          have hk' := hk.out
          have hk0 : wr.heap[1]? = some (.cells kcells fr.1 fr.2) := (lb.block _ (Keys.lt hk')).trans hk'
          have HK := hid' hk'
          clear hk hk'
          have hidx := fun (t : Nat) (ht : t < 64) (w : World) => run_index_keys w t ht
          have E0 := hid' e0; have E1 := hid' e1; have HK0 := hid' hk0
          clear e0 e1 hk0
          have T0 : Turn w ((wr.alloc (.cells (eight fun _ => 0) 136)).setRow (w.heap.size + 3) (eight h)) h b 0 := Turn.start lb E0.out E1.out l2 lz
          have HK1 : Hid (((wr.alloc (.cells (eight fun _ => 0) 136)).setRow (w.heap.size + 3) (eight h)).heap[1]? = some (.cells kcells fr.1 fr.2)) := by
            have hlt := HK.out.lt
            show _ = _
            rw [setRow_other _ _ _ _ (by omega), Below.heap_alloc _ _ _ (by omega)]
            exact HK0.out
          clear HK0 E1 l0 l1 l2 lb
          go_wp2_with (first
            | (refine wpList_load_row rfl 136 (.tmp 2) rfl w.heap.size rfl 136 (eight h) (0, 0) _ E0.out Tryz.underlying136 rfl (by kernel_rfl) ?_)
            | (refine wpList_store_row rfl 136 (.tmp 12) (.tmp 98) rfl (w.heap.size + 3) (eight h) rfl rfl 136 _ (heap_new_at _ _ lz) (by kernel_rfl) rfl (eight_one h) ?_)
            | (refine wpList_load_row rfl 113 (.global 1) rfl 1 rfl fr.1 kcells fr.2 _ HK1.out Tryz.underlying113 rfl (by kernel_rfl) ?_)
            | fail)
          clear E0 HK1
          change Turn w ((wr.alloc (.cells #[.int .u32 0, .int .u32 0, .int .u32 0, .int .u32 0, .int .u32 0, .int .u32 0, .int .u32 0, .int .u32 0] 136)).setRow (w.heap.size + 3) (eight h)) h b 0 at T0
          generalize (wr.alloc _).setRow _ _ = W1 at T0 ⊢
          clear lz wr
          go_loopw [100] (fun v wr => ∃ t : Nat, t ≤ 64 ∧ v = .int .i64 t ∧ Turn w wr h b t) (fun v _ => 64 - (intOf v).toNat)
          case atStart => exact ⟨0, by omega, rfl, T0⟩
          case round =>
            clear T0
            obtain ⟨t, ht, rfl, T⟩ := hrel
            by_cases hlt : t < 64
            · --<<
              have hx := hidx t hlt
              have hs0 : IntKind.u32.signed = false := rfl
              have t64 : (t : Int) < 64 := by omega
              have hv := Sha.rounds_fit b h hh t
              have v0 := hv 0
              have v4 := hv 4
              have c0 := T.at3 0 (by omega)
              have c4 := T.at3 4 (by omega)
              clear hv
              go_wp2_with fail
              go_quiet (fail)
              have T2 := T.drawN nq
              clear c0 c4 T
              generalize wr.drewN nq = wr2 at T2 ⊢
              have c5 := T2.at3 5 (by omega)
              have c6 := T2.at3 6 (by omega)
              have c7 := T2.at3 7 (by omega)
              have cw := T2.at2 t (by omega)
              go_wp2_with fail
              go_quiet ((go_at_call 97; exact quiet_left (rot_k _ _ _ (by omega) (by omega) (by decide))))
              have T3 := T2.drawN nq
              clear c5 c6 c7 cw T2
              generalize wr2.drewN nq = wr3 at T3 ⊢
              have c1 := T3.at3 1 (by omega)
              have c2 := T3.at3 2 (by omega)
              go_wp2_with fail
              go_quiet ((go_at_call 97; exact quiet_left (rot_k _ _ _ (by omega) (by omega) (by decide))))
              have T4 := T3.drawN nq
              clear c1 c2 T3
              generalize wr3.drewN nq = wr4 at T4 ⊢
              have c1 := T4.at3 1 (by omega)
              have c2 := T4.at3 2 (by omega)
              have c3 := T4.at3 3 (by omega)
              have c5 := T4.at3 5 (by omega)
              have c6 := T4.at3 6 (by omega)
              have HB3 := hid' T4.b3
              go_wp2_with (first
                | (refine wpList_store_row rfl 136 (.tmp 12) (.tmp 177) rfl (w.heap.size + 3) _ rfl rfl 136 _ HB3.out (by kernel_rfl) rfl (by simp [Value.oneCell']) ?_)
                | fail)
              go_roundw
              case rel => exact ⟨t + 1, by omega, by go_num, T4.round (by simp [eight, Sha.rounds, Sha.rnd, Sha.t1, Sha.t2, Sha.big0, Sha.big1, Sha.chs, Sha.maj])⟩
              case measure => simp [intOf]; omega
              -->>
            · obtain rfl : t = 64 := by omega
              rw [show ((64 : Nat) : Int) = 64 from rfl]
              have hv := Sha.rounds_fit b h hh 64
              obtain ⟨tb, t0, t1, t2, t3⟩ := T
              have F0 : Fold w wr h (Sha.rounds b h 64) 0 := ⟨tb, eight_rowIs (by rw [fold_none]; exact t0), t1, t3⟩
              clear tb t0 t1 t2 t3
              go_wp2_with fail
              go_loopw [179] (fun v wr => ∃ t : Nat, t ≤ 8 ∧ v = .int .i64 t ∧ Fold w wr h (Sha.rounds b h 64) t) (fun v _ => 8 - (intOf v).toNat)
              case atStart => exact ⟨0, by omega, rfl, F0⟩
              case round =>
                clear F0
                obtain ⟨t, ht, rfl, F⟩ := hrel
                by_cases hlt : t < 8
                · have hs0 : IntKind.u32.signed = false := rfl
                  have t8 : (t : Int) < 8 := by omega
                  have c0 := F.b0.cell hlt
                  have c3 := cell_of_eight F.b3 t hlt
                  have f0 := F.b0.frozen t
                  go_wp2_with fail
                  go_still_tail 8, (by kernel_rfl)
                  change wpList _ _ _ _ _ wr.drew
                  go_wp2_with fail
                  go_roundw
                  case rel => exact ⟨t + 1, by omega, by go_num, F.step (by simp [foldTo])⟩
                  case measure => simp [intOf]; omega
                · obtain rfl : t = 8 := by omega
                  rw [show ((8 : Nat) : Int) = 8 from rfl]
                  have G0 := hid' (rowIs_eight F.b0)
                  have G1 := hid' F.b1
                  have G2 : Below w.heap.size w (wr.setRow (w.heap.size + 1) (eight (foldTo h (Sha.rounds b h 64) 8))) := below_setRow F.bel (by omega) _
                  go_wp2_with (first
                    | (refine wpList_load_row rfl 136 (.tmp 2) rfl w.heap.size rfl 136 (eight (foldTo h (Sha.rounds b h 64) 8)) (0, 0) _ G0.out Tryz.underlying136 rfl (by kernel_rfl) ?_)
                    | (refine wpList_store_row rfl 136 (.tmp 4) (.tmp 191) rfl (w.heap.size + 1) _ rfl rfl 136 _ G1.out (by kernel_rfl) rfl (eight_one _) ?_)
                    | fail)
                  refine bodyPost_ret (results_cell_row rfl _ _ (w.heap.size + 1) 136 (eight (foldTo h (Sha.rounds b h 64) 8)) (0, 0) _ rfl (setRow_heap _ _ _ _ _ _ G1.out) Tryz.underlying136 rfl (by kernel_rfl)) rfl ⟨?_, G2⟩
                  rw [fold_all]

end Go.Proofs.YtmddaomchhigbaaGreatDoor

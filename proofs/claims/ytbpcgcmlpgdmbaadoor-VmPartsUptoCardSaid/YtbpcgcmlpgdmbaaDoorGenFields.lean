/- Proved: gen's within, fields, as contracts. -/
import Derived.Test.YtbpcgcmlpgdmbaaDoorGenRight2
import Derived.Laws.CopyOwn
import Derived.Laws.Tables
import Derived.Laws.Rows

namespace Go.Proofs.YtbpcgcmlpgdmbaaDoor
open Go.RowKit
open Gen
set_option linter.unusedVariables false
set_option linter.unusedSimpArgs false
set_option maxRecDepth 100000
theorem within_any (n low high : Int) (w : World) : Calls Tryd.prog 19 #[.int .i64 n, .int .i64 low, .int .i64 high] w (Ret (.bool (Gen.within n low high)) w) := by
  by_cases h1 : low ≤ n
  · have g1 : decide (low ≤ n) = true := decide_eq_true h1
    have e := hid' (show Gen.within n low high = decide (n ≤ high) by unfold Gen.within; rw [g1, Bool.true_and])
    clear h1
    go_enter Tryd.func19, Tryd.ntmps19
    go_wp2_with fail
    go_ret
    refine ⟨?_, rfl⟩
    rw [e.out]
    rfl
  · have g1 : decide (low ≤ n) = false := decide_eq_false h1
    have e := hid' (show Gen.within n low high = false by unfold Gen.within; rw [g1, Bool.false_and])
    clear h1
    go_enter Tryd.func19, Tryd.ntmps19
    go_wp2_with fail
    go_ret
    refine ⟨?_, rfl⟩
    rw [e.out]
    rfl
def ftext (i : Nat) : ByteArray := if i = 0 then ⟨#[45]⟩ else Gen.usesT (i : Int)
def fcells : Array Value := ((List.range 31).map fun i => Value.string (ftext i)).toArray
theorem fcells_size : fcells.size = 31 := by simp [fcells]
theorem fcells_one : fcells.all (·.oneCell') = true := by simp [fcells, Value.oneCell']
theorem fcells_cell (i : Nat) (hi : i < 31) : fcells[i]? = some (.string (ftext i)) := by simp [fcells, hi]
theorem heap_new_at (w : World) (o : Obj) {n : Nat} (h : w.heap.size = n) : (w.alloc o).heap[n]? = some o := by
  subst h
  show (w.heap.push o)[w.heap.size]? = some o
  rw [Array.getElem?_push_size]
theorem row_stored {P : Program} (w : World) (cs old : Array Value) (t : TypeId) (n : Nat) (hn : cs.size = n) (ho : old.size = n) (h1 : cs.all (·.oneCell') = true) : (storeCells ⟨w.heap.size, 0, none⟩ cs.toList).run P (w.alloc (.cells old t)) = .ok () ((w.alloc (.cells old t)).setRow w.heap.size cs) := by
  have := run_storeCells_from (P := P) w.heap.size t cs.toList 0 old (w.alloc (.cells old t)) (heap_new_at _ _ rfl) (by rw [Array.length_toList, hn, ho]; omega) (fun v hv => (Array.all_eq_true_iff_forall_mem.1 h1) v (by simpa using hv))
  rw [this]
  simp
theorem row_below (w : World) (cs : Array Value) (ob : Obj) : Below w.heap.size w ((w.alloc ob).setRow w.heap.size cs) :=
  below_setRow ((Below.refl _ _).alloc (Nat.le_refl _) _) (Nat.le_refl _) _
theorem row_cell (w : World) (cs old : Array Value) (t : TypeId) (i : Nat) : ((w.alloc (.cells old t)).setRow w.heap.size cs).cell? ⟨w.heap.size, i, none⟩ = cs[i]? :=
  cell_of_row _ _ _ cs t (0, 0) (setRow_heap _ _ _ _ _ _ (heap_new_at _ _ rfl))
set_option maxHeartbeats 8000000 in
theorem fields_any (op : Int) (w : World) : Calls Tryd.prog 33 #[.int .i64 op] w (Gives (.tuple #[.string (Gen.usesT op), .bool (Gen.isOp op)]) w) := by
  by_cases h : op < 1 ∨ 30 < op
  · have e1 := hid' (usesT_no h)
    have e2 := hid' (show Gen.isOp op = false by unfold Gen.isOp; simp; omega)
    rw [e1.out, e2.out]
    go_enter Tryd.func33, Tryd.ntmps33
    go_wp2_with (first | (refine wpList_build rfl 100 _ rfl (by kernel_rfl) ?_; refine halt' ?_) | fail)
    refine hid' ?_
    generalize hg : Option.getD (Program.built _ _ _) _ = cs
    obtain rfl : cs = fcells := by
      rw [← hg]
      kernel_rfl
    clear hg
    go_wp2_with fail
    rw [row_stored w fcells _ _ 31 fcells_size rfl fcells_one]
    generalize hs : World.setRow _ _ _ = ws
    have hb := hid' (show Below w.heap.size w ws by rw [← hs]; exact row_below w _ _)
    clear hs
    by_cases h1 : op < 1
    · have g1 : decide (op < 1) = true := decide_eq_true h1
      clear h h1
      go_wp2_with fail
      go_ret2
      exact ⟨rfl, hb.out⟩
    · have g1 : decide (op < 1) = false := decide_eq_false h1
      have g2 : decide (31 ≤ op) = true := decide_eq_true (by omega)
      clear h h1
      go_wp2_with fail
      go_ret2
      exact ⟨rfl, hb.out⟩
  · obtain ⟨i, rfl⟩ : ∃ i : Nat, op = (i : Int) := ⟨op.toNat, by omega⟩
    have e2 := hid' (show Gen.isOp (i : Int) = true by unfold Gen.isOp; simp; omega)
    have hc := fcells_cell i (by omega)
    rw [ftext, if_neg (by omega)] at hc
    have g1 : decide ((i : Int) < 1) = false := decide_eq_false (by omega)
    have g2 : decide (31 ≤ (i : Int)) = false := decide_eq_false (by omega)
    have g3 : (0 : Int) ≤ (i : Int) ∧ (i : Int) < 31 := by omega
    have g4 : i < 31 := by omega
    rw [e2.out]
    clear h
    go_enter Tryd.func33, Tryd.ntmps33
    go_wp2_with (first | (refine wpList_build rfl 100 _ rfl (by kernel_rfl) ?_; refine halt' ?_) | fail)
    refine hid' ?_
    generalize hg : Option.getD (Program.built _ _ _) _ = cs
    obtain rfl : cs = fcells := by
      rw [← hg]
      kernel_rfl
    clear hg
    go_wp2_with fail
    rw [row_stored w fcells _ _ 31 fcells_size rfl fcells_one]
    generalize hs : World.setRow _ _ _ = ws
    have hb := hid' (show Below w.heap.size w ws by rw [← hs]; exact row_below w _ _)
    have hcell : ws.cell? ⟨w.heap.size, i, none⟩ = some (.string (Gen.usesT (i : Int))) := by rw [← hs, row_cell]; exact hc
    clear hs hc
    go_wp2_with fail

    go_ret2
    exact ⟨rfl, hb.out⟩
end Go.Proofs.YtbpcgcmlpgdmbaaDoor

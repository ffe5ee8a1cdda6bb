/- Proved: which bytecodes are right, in parts (plain). -/
import Derived.Test.YtbpcgcmlpgdmbaaDoorGenInstr
namespace Go.Proofs.YtbpcgcmlpgdmbaaDoor
open Go.RowKit
open Gen
set_option linter.unusedVariables false
set_option linter.unusedSimpArgs false
set_option maxRecDepth 100000
structure RSt (w : World) (b0 : Nat) (vw vi : Value) (c : Gen.Cd) (W : World) : Prop where
  bel : Below w.heap.size w W
  cb : CdBox W b0 c.regs vw vi
  cd : CdAt W (.agg #[.int .i64 c.regs, vw, vi]) c
theorem RSt.below {w : World} {b0 : Nat} {vw vi : Value} {c : Gen.Cd} {W W' : World} (h : RSt w b0 vw vi c W) (B : Below W.heap.size W W') : RSt w b0 vw vi c W' :=
  ⟨Below.more h.bel B, box_below B h.cb, h.cd.below B⟩
theorem right_head {c : Gen.Cd} (h : c.regs < 0 ∨ 256 < c.regs ∨ 250 < c.waits.length ∨ c.ins.length < 1 ∨ 16384 < c.ins.length ∨ lastOp c.ins ≠ 30) : right c = false := by
  cases hr : right c with
  | false => rfl
  | true => obtain ⟨h1, h2, h3, h4, h5, _⟩ := right_parts hr; omega
theorem right_wait {c : Gen.Cd} {x : Gen.Wt} {i : Nat} (hx : c.waits[i]? = some x) (h : waitOk c x = false) : right c = false := by
  cases hr : right c with
  | false => rfl
  | true => obtain ⟨_, _, _, _, _, h6, _⟩ := right_parts hr; rw [h6 x (List.mem_of_getElem? hx)] at h; cases h
theorem right_ins {c : Gen.Cd} {x : Gen.Ix} {i : Nat} (hx : c.ins[i]? = some x) (h : insOk c (i : Int) x = false) : right c = false := by
  cases hr : right c with
  | false => rfl
  | true => obtain ⟨_, _, _, _, _, _, h7⟩ := right_parts hr; rw [h7 i x hx] at h; cases h
theorem right_all {c : Gen.Cd} (h1 : 0 ≤ c.regs ∧ c.regs ≤ 256) (h2 : c.waits.length ≤ 250) (h3 : 1 ≤ c.ins.length) (h4 : c.ins.length ≤ 16384) (h5 : lastOp c.ins = 30) (h6 : ∀ (i : Nat) x, c.waits[i]? = some x → waitOk c x = true) (h7 : ∀ (i : Nat) x, c.ins[i]? = some x → insOk c (i : Int) x = true) : right c = true := by
  unfold right within
  simp only [Bool.and_eq_true, decide_eq_true_eq, List.all_eq_true]
  refine ⟨h1, h2, h3, h4, h5, fun x hx => ?_, fun p hp => ?_⟩
  · obtain ⟨i, hi⟩ := List.getElem?_of_mem hx
    exact h6 i x hi
  · obtain ⟨i, hi⟩ := List.getElem?_of_mem hp
    rw [List.getElem?_zipIdx] at hi
    obtain ⟨y, hy, rfl⟩ := Option.map_eq_some_iff.1 hi
    simpa using h7 i y hy
theorem lastOp_at {l : List Gen.Ix} {x : Gen.Ix} (h : l[l.length - 1]? = some x) : lastOp l = x.op := by
  unfold lastOp; rw [List.getLast?_eq_getElem?, h]
end Go.Proofs.YtbpcgcmlpgdmbaaDoor

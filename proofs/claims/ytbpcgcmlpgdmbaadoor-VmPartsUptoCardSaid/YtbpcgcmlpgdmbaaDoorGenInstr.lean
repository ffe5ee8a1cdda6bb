/- Proved: the reference's instr, as a contract. -/
import Derived.Test.YtbpcgcmlpgdmbaaDoorGenWait
namespace Go.Proofs.YtbpcgcmlpgdmbaaDoor
open Go.RowKit
open Gen
set_option linter.unusedVariables false
set_option linter.unusedSimpArgs false
set_option maxRecDepth 100000
structure ISt (w : World) (b0 b1 : Nat) (vw vi : Value) (c : Gen.Cd) (x : Gen.Ix) (W : World) : Prop where
  bel : Below w.heap.size w W
  cb : CdBox W b0 c.regs vw vi
  xb : IxBox W b1 x
  cd : CdAt W (.agg #[.int .i64 c.regs, vw, vi]) c
theorem ISt.below {w : World} {b0 b1 : Nat} {vw vi : Value} {c : Gen.Cd} {x : Gen.Ix} {W W' : World} (h : ISt w b0 b1 vw vi c x W) (B : Below W.heap.size W W') : ISt w b0 b1 vw vi c x W' :=
  ⟨Below.more h.bel B, box_below B h.cb, box_below B h.xb, h.cd.below B⟩
theorem usesT_size (op : Int) : (Gen.usesT op).size ≤ 1000 := by
  rcases op_cases op with rfl | rfl | rfl | rfl | rfl | rfl | rfl | rfl | rfl | rfl | rfl | rfl | rfl | rfl | rfl | rfl | rfl | rfl | rfl | rfl | rfl | rfl | rfl | rfl | rfl | rfl | rfl | rfl | rfl | rfl | h
  all_goals first
    | decide
    | (rw [usesT_no h]; decide)
theorem ins_and (c : Gen.Cd) (k : Int) (x : Gen.Ix) : insOk c k x = (isOp x.op && (fld (useA x.op) x.a c.regs && (fld (useB x.op) x.b c.regs && (fld (useC x.op) x.c c.regs && (numOk c k x && (textOk x && toOk c k x)))))) := by
  unfold insOk isOp
  generalize decide (1 ≤ x.op) = p1
  generalize decide (x.op ≤ 30) = p2
  generalize fld (useA x.op) x.a c.regs = p3
  generalize fld (useB x.op) x.b c.regs = p4
  generalize fld (useC x.op) x.c c.regs = p5
  generalize toOk c k x = p6
  generalize numOk c k x = p7
  generalize textOk x = p8
  cases p1 <;> cases p2 <;> cases p3 <;> cases p4 <;> cases p5 <;> cases p6 <;> cases p7 <;> cases p8 <;> rfl
end Go.Proofs.YtbpcgcmlpgdmbaaDoor

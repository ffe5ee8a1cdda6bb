/- Proved: the machine as it lies in memory, its registers, its rows; appending to them (no walk). -/
import Derived.Test.YtbpcgcmlpgdmbaaDoorVmRun
import Derived.Test.YtbpcgcmlpgdmbaaDoorGenR
import Derived.Test.YtbpcgcmlpgdmbaaDoorOwnRows
namespace Go.Proofs.YtbpcgcmlpgdmbaaDoor
open Go.RowKit
open Gen
open Rw
set_option linter.unusedVariables false
set_option linter.unusedSimpArgs false
set_option maxRecDepth 100000
def hold2 (x : Int × Int) : List Value := [.int .i64 x.1, .int .i64 x.2]
def tran3 (day : Int) (x : ByteArray × Int) : List Value := [.int .i64 day, .string x.1, .int .i64 x.2]
def HoldRow (base : Nat) (w : World) (v : Value) (l : List (Int × Int)) : Prop := w.ownsRow base 49 2 v l.length (l.flatMap hold2)
def TranRow (base : Nat) (w : World) (v : Value) (day : Int) (l : List (ByteArray × Int)) : Prop := w.ownsRow base 42 3 v l.length (l.flatMap (tran3 day))
theorem info_hold : (Tryd.prog.info? 49).map (fun i => (i.zero, i.size, i.bytes)) = some (some (.agg #[.int .i64 0, .int .i64 0]), 2, 16) := by kernel_rfl
theorem info_tran : (Tryd.prog.info? 42).map (fun i => (i.zero, i.size, i.bytes)) = some (some (.agg #[.int .i64 0, .string ⟨#[]⟩, .int .i64 0]), 3, 32) := by kernel_rfl
theorem step_hold {w : World} {ops : Array Oper} {o : Oper} {a : Act} {K : Act → World → Prop} {Q : Exit → Act → World → Prop} {E : Prop} (hgd : o.guard = none) (s x : Operand)
    (ho : o.op = .call { callee := .builtin .append, args := #[s, x], argTypes := #[26, 26] })
    (base : Nat) (v : Value) (L : List (Int × Int)) (hs : a.eval s = v) (hown : HoldRow base w v L) (y : Int × Int) (hx : a.eval x = .slice (some ⟨w.heap.size, 0, none⟩) 1 1) (hbound : L.length + 1 ≤ 1000000) (hbase : base ≤ w.heap.size)
    (h : ∀ v' w', HoldRow base w' v' (L ++ [y]) → w.grownBy w' v.ownBlock → K (a.put o.dst v') w') :
    if Region.wanted o (yielded ops a.tmps) = true then Oper.wp Tryd.prog o a (w.alloc (.cells #[.int .i64 y.1, .int .i64 y.2] 49)) K Q else E := by
  have hw : Region.wanted o (yielded ops a.tmps) = true := by simp [Region.wanted, hgd]
  rw [if_pos hw]
  obtain ⟨i, hi, hz, hsz, hby⟩ := info_split info_hold
  refine wp_append_own _ s x 26 ho base 49 i _ 2 16 Tryd.underlying26 hi hz hsz hby rfl (by decide) v L.length _ hs (World.ownsRow.alloc hown _) ⟨w.heap.size, 0, none⟩ 1 1 (hold2 y) hx rfl
    (fun j u hj => ?_) (fun u hu => ?_) (by unfold maxLen; omega) (by omega) (by simp; omega) (fun v' w' h1 h2 _ => h v' w' ?_ (grown_trans (grown_of_below ((Below.refl _ _).alloc (Nat.le_refl _) _) _) h2))
  · rw [add_gen, World.cell?_alloc_new, Nat.zero_add, ← hj]
    simp [hold2]
  · simp only [hold2, List.mem_cons, List.not_mem_nil, or_false] at hu
    rcases hu with rfl | rfl <;> rfl
  · show World.ownsRow w' base _ 2 v' (L ++ [y]).length ((L ++ [y]).flatMap hold2)
    rw [List.length_append, List.flatMap_append]
    simpa using h1
theorem step_tran {w : World} {ops : Array Oper} {o : Oper} {a : Act} {K : Act → World → Prop} {Q : Exit → Act → World → Prop} {E : Prop} (hgd : o.guard = none) (s x : Operand)
    (ho : o.op = .call { callee := .builtin .append, args := #[s, x], argTypes := #[31, 31] })
    (base : Nat) (v : Value) (day : Int) (L : List (ByteArray × Int)) (hs : a.eval s = v) (hown : TranRow base w v day L) (y : ByteArray × Int) (hx : a.eval x = .slice (some ⟨w.heap.size, 0, none⟩) 1 1) (hbound : L.length + 1 ≤ 1000000) (hbase : base ≤ w.heap.size)
    (h : ∀ v' w', TranRow base w' v' day (L ++ [y]) → w.grownBy w' v.ownBlock → K (a.put o.dst v') w') :
    if Region.wanted o (yielded ops a.tmps) = true then Oper.wp Tryd.prog o a (w.alloc (.cells #[.int .i64 day, .string y.1, .int .i64 y.2] 42)) K Q else E := by
  have hw : Region.wanted o (yielded ops a.tmps) = true := by simp [Region.wanted, hgd]
  rw [if_pos hw]
  obtain ⟨i, hi, hz, hsz, hby⟩ := info_split info_tran
  refine wp_append_own _ s x 31 ho base 42 i _ 3 32 Tryd.underlying31 hi hz hsz hby rfl (by decide) v L.length _ hs (World.ownsRow.alloc hown _) ⟨w.heap.size, 0, none⟩ 1 1 (tran3 day y) hx rfl
    (fun j u hj => ?_) (fun u hu => ?_) (by unfold maxLen; omega) (by omega) (by simp; omega) (fun v' w' h1 h2 _ => h v' w' ?_ (grown_trans (grown_of_below ((Below.refl _ _).alloc (Nat.le_refl _) _) _) h2))
  · rw [add_gen, World.cell?_alloc_new, Nat.zero_add, ← hj]
    simp [tran3]
  · simp only [tran3, List.mem_cons, List.not_mem_nil, or_false] at hu
    rcases hu with rfl | rfl | rfl <;> rfl
  · show World.ownsRow w' base _ 3 v' (L ++ [y]).length ((L ++ [y]).flatMap (tran3 day))
    rw [List.length_append, List.flatMap_append]
    simpa using h1
/-- Registers. -/
def regCells (r : List Int) : Array Value := (r.map (Value.int .i64)).toArray
def RegBox (W : World) (rb : Nat) (r : List Int) : Prop := r.length = 256 ∧ W.heap[rb]? = some (.cells (regCells r) 73 (0, 0))
theorem RegBox.cell {W : World} {rb : Nat} {r : List Int} (h : RegBox W rb r) {i : Int} (h0 : 0 ≤ i) (h1 : i < 256) : W.cell? ⟨rb, i.toNat, none⟩ = some (.int .i64 (Vm.reg r i)) := by
  refine bcells h.2 _ _ ?_
  have hl := h.1
  have hi : i.toNat < r.length := by omega
  unfold regCells Vm.reg
  rw [List.getElem?_toArray, List.getElem?_map, List.getElem?_eq_getElem hi]
  rfl
theorem RegBox.set {W : World} {rb : Nat} {r : List Int} (h : RegBox W rb r) (i v : Int) : RegBox (W.setCell ⟨rb, i.toNat, none⟩ (.int .i64 v)) rb (Vm.setReg r i v) := by
  have hl := h.1
  refine ⟨by unfold Vm.setReg; rw [List.length_set]; exact hl, ?_⟩
  refine (heap_setCell_same W rb i.toNat _ _ (.int .i64 v) h.2).trans ?_
  unfold regCells Vm.setReg
  congr 2
  rw [List.map_set]
  simp
/-- The machine's box. -/
def MBox (W : World) (mb : Nat) (c : Gen.Cd) (vw vi : Value) (day : Int) (vf vh vo : Value) (steps : Int) (over : Bool) : Prop :=
  W.heap[mb]? = some (.cells #[.int .i64 c.regs, vw, vi, .int .i64 day, vf, vh, vo, .int .i64 steps, .bool over] 54 (0, 0))
structure Mach (W0 : World) (mb : Nat) (c : Gen.Cd) (day : Int) (vw vi vf : Value) (st : Vm.St) (vh vo : Value) (W : World) : Prop where
  bel : Below mb W0 W
  box : MBox W mb c vw vi day vf vh vo (st.steps : Int) st.over
  hs : HoldRow (mb + 1) W vh st.holds
  ts : TranRow (mb + 1) W vo day st.out
/-- What a run keeps: all but the machine and its rows. -/
structure KpM (mb : Nat) (W W' : World) : Prop where
  bel : Below mb W W'
  oth : ∀ (k : Nat) (cur : Array Value) (t : TypeId), k ≠ mb → t ≠ 49 → t ≠ 42 → W.heap[k]? = some (.cells cur t (0, 0)) → W'.heap[k]? = W.heap[k]?
theorem KpM.refl (mb : Nat) (W : World) : KpM mb W W := ⟨Below.refl _ _, fun _ _ _ _ _ _ _ => rfl⟩
theorem KpM.trans {mb : Nat} {A B C : World} (h : KpM mb A B) (k : KpM mb B C) : KpM mb A C :=
  ⟨h.bel.trans k.bel, fun j cur t hj h1 h2 e => (k.oth j cur t hj h1 h2 ((h.oth j cur t hj h1 h2 e).trans e)).trans (h.oth j cur t hj h1 h2 e)⟩
theorem KpM.below {mb : Nat} {W W' : World} (h : Below W.heap.size W W') (hm : mb ≤ W.heap.size) : KpM mb W W' := ⟨h.mono hm, fun k cur t _ _ _ e => h.block k (lt_of_block e)⟩
theorem KpM.box {mb : Nat} {W W' : World} (h : KpM mb W W') {k : Nat} {cur : Array Value} {t : TypeId} (hk : k ≠ mb) (h1 : t ≠ 49) (h2 : t ≠ 42) (e : W.heap[k]? = some (.cells cur t (0, 0))) : W'.heap[k]? = some (.cells cur t (0, 0)) := (h.oth k cur t hk h1 h2 e).trans e
theorem KpM.mset {mb : Nat} (W : World) (o : Nat) (v : Value) : KpM mb W (W.setCell ⟨mb, o, none⟩ v) :=
  ⟨(Below.refl mb W).setCell (p := ⟨mb, o, none⟩) (Nat.le_refl _) v, fun k cur t hk _ _ _ => Below.heap_setCell W ⟨mb, o, none⟩ v k hk⟩
theorem row_type {W : World} {base z n : Nat} {t : TypeId} {v : Value} {xs : List Value} (h : W.ownsRow base t z v n xs) {k : Nat} (hk : v.ownBlock = some k) : base ≤ k ∧ ∃ cur, W.heap[k]? = some (.cells cur t (0, 0)) := by
  rcases h.2 with ⟨rfl, _⟩ | ⟨g, cap, cur, rfl, hb, hc, _⟩
  · cases hk
  · obtain rfl : g = k := Option.some.inj hk
    exact ⟨hb, cur, hc⟩
theorem KpM.row {mb : Nat} {W W' : World} {v : Value} {z n : Nat} {t : TypeId} {xs : List Value} (h : W.ownsRow (mb + 1) t z v n xs) (ht : t = 49 ∨ t = 42) (g : W.grownBy W' v.ownBlock) (hm : mb < W.heap.size) : KpM mb W W' := by
  have hno : ∀ k, v.ownBlock = some k → mb < k ∧ ∃ cur, W.heap[k]? = some (.cells cur t (0, 0)) := fun k hk => row_type h hk
  refine ⟨⟨g.os, g.tape, g.output, g.size, fun k hk => ?_⟩, fun k cur t' _ h1 h2 e => ?_⟩
  · exact g.block k (Nat.lt_trans hk hm) fun e => by have := (hno k e.symm).1; omega
  · refine g.block k (lt_of_block e) fun e2 => ?_
    obtain ⟨-, cur2, h5⟩ := hno k e2.symm
    have e6 := h5.symm.trans e
    simp only [Option.some.injEq, Obj.cells.injEq] at e6
    rcases ht with rfl | rfl
    · exact h1 e6.2.1.symm
    · exact h2 e6.2.1.symm
theorem Mach.lt {W0 : World} {mb : Nat} {c : Gen.Cd} {day : Int} {vw vi vf : Value} {st : Vm.St} {vh vo : Value} {W : World} (h : Mach W0 mb c day vw vi vf st vh vo W) : mb < W.heap.size := lt_of_block h.box
/-- All is kept but blocks that the call lays. -/
theorem Mach.below {W0 : World} {mb : Nat} {c : Gen.Cd} {day : Int} {vw vi vf : Value} {st : Vm.St} {vh vo : Value} {W W' : World} (h : Mach W0 mb c day vw vi vf st vh vo W) (b : Below W.heap.size W W') : Mach W0 mb c day vw vi vf st vh vo W' :=
  ⟨h.bel.trans (b.mono (Nat.le_of_lt h.lt)), box_below b h.box, World.ownsRow.kept h.hs (grown_of_below b none) (by
    rcases hv : vh.ownBlock with _ | k
    · exact .inl rfl
    · exact .inr (by simp)), World.ownsRow.kept h.ts (grown_of_below b none) (by
    rcases hv : vo.ownBlock with _ | k
    · exact .inl rfl
    · exact .inr (by simp))⟩
/-- Another block of the call's own is written. -/
theorem Mach.other {W0 : World} {mb : Nat} {c : Gen.Cd} {day : Int} {vw vi vf : Value} {st : Vm.St} {vh vo : Value} {W : World} (h : Mach W0 mb c day vw vi vf st vh vo W) {k : Nat} {cur : Array Value} {t : TypeId} (hk : mb < k) (e : W.heap[k]? = some (.cells cur t (0, 0))) (h1 : t ≠ 49) (h2 : t ≠ 42) (o : Nat) (v : Value) :
    Mach W0 mb c day vw vi vf st vh vo (W.setCell ⟨k, o, none⟩ v) := by
  have gs := grown_set W k o v
  refine ⟨below_grown h.bel gs (by omega) (Nat.le_of_lt h.lt), box_grown gs (by omega) h.box, World.ownsRow.kept h.hs gs (.inr fun e2 => ?_), World.ownsRow.kept h.ts gs (.inr fun e2 => ?_)⟩
  · obtain ⟨-, cur2, h5⟩ := row_type h.hs e2
    have e6 := h5.symm.trans e
    simp only [Option.some.injEq, Obj.cells.injEq] at e6
    exact h1 e6.2.1.symm
  · obtain ⟨-, cur2, h5⟩ := row_type h.ts e2
    have e6 := h5.symm.trans e
    simp only [Option.some.injEq, Obj.cells.injEq] at e6
    exact h2 e6.2.1.symm
theorem Mach.rows_set {W : World} {mb : Nat} {t : TypeId} {z n : Nat} {v : Value} {xs : List Value} (h : W.ownsRow (mb + 1) t z v n xs) (o : Nat) (u : Value) : (W.setCell ⟨mb, o, none⟩ u).ownsRow (mb + 1) t z v n xs :=
  World.ownsRow.kept h (grown_set W mb o u) (.inr (own_lt h (Nat.lt_succ_self _)))
theorem Mach.steps {W0 : World} {mb : Nat} {c : Gen.Cd} {day : Int} {vw vi vf : Value} {st : Vm.St} {vh vo : Value} {W : World} (h : Mach W0 mb c day vw vi vf st vh vo W) :
    Mach W0 mb c day vw vi vf ⟨st.holds, st.out, st.steps + 1, st.over⟩ vh vo (W.setCell ⟨mb, 7, none⟩ (.int .i64 ((st.steps : Int) + 1))) :=
  ⟨h.bel.trans (KpM.mset W 7 _).bel, heap_setCell_same W mb 7 _ _ _ h.box, Mach.rows_set h.hs 7 _, Mach.rows_set h.ts 7 _⟩
theorem Mach.setOver {W0 : World} {mb : Nat} {c : Gen.Cd} {day : Int} {vw vi vf : Value} {st : Vm.St} {vh vo : Value} {W : World} (h : Mach W0 mb c day vw vi vf st vh vo W) (o : Bool) :
    Mach W0 mb c day vw vi vf ⟨st.holds, st.out, st.steps, o⟩ vh vo (W.setCell ⟨mb, 8, none⟩ (.bool o)) :=
  ⟨h.bel.trans (KpM.mset W 8 _).bel, heap_setCell_same W mb 8 _ _ _ h.box, Mach.rows_set h.hs 8 _, Mach.rows_set h.ts 8 _⟩
theorem Mach.pushHold {W0 : World} {mb : Nat} {c : Gen.Cd} {day : Int} {vw vi vf : Value} {st : Vm.St} {vh vo v' : Value} {W W' : World} (h : Mach W0 mb c day vw vi vf st vh vo W) {y : Int × Int}
    (row : HoldRow (mb + 1) W' v' (st.holds ++ [y])) (g : W.grownBy W' vh.ownBlock) : Mach W0 mb c day vw vi vf ⟨st.holds ++ [y], st.out, st.steps, st.over⟩ v' vo (W'.setCell ⟨mb, 5, none⟩ v') := by
  have K := KpM.row h.hs (.inl rfl) g h.lt
  have hb : MBox W' mb c vw vi day vf vh vo st.steps st.over := (g.block mb h.lt fun e => own_lt h.hs (Nat.lt_succ_self _) e.symm).trans h.box
  have ht := World.ownsRow.kept h.ts g (row_ne h.ts h.hs (by decide))
  exact ⟨(h.bel.trans K.bel).trans (KpM.mset W' 5 _).bel, heap_setCell_same W' mb 5 _ _ _ hb, Mach.rows_set row 5 _, Mach.rows_set ht 5 _⟩
theorem Mach.pushTran {W0 : World} {mb : Nat} {c : Gen.Cd} {day : Int} {vw vi vf : Value} {st : Vm.St} {vh vo v' : Value} {W W' : World} (h : Mach W0 mb c day vw vi vf st vh vo W) {y : ByteArray × Int}
    (row : TranRow (mb + 1) W' v' day (st.out ++ [y])) (g : W.grownBy W' vo.ownBlock) : Mach W0 mb c day vw vi vf ⟨st.holds, st.out ++ [y], st.steps, st.over⟩ vh v' (W'.setCell ⟨mb, 6, none⟩ v') := by
  have K := KpM.row h.ts (.inr rfl) g h.lt
  have hb : MBox W' mb c vw vi day vf vh vo st.steps st.over := (g.block mb h.lt fun e => own_lt h.ts (Nat.lt_succ_self _) e.symm).trans h.box
  have ht := World.ownsRow.kept h.hs g (row_ne h.hs h.ts (by decide))
  exact ⟨(h.bel.trans K.bel).trans (KpM.mset W' 6 _).bel, heap_setCell_same W' mb 6 _ _ _ hb, Mach.rows_set ht 6 _, Mach.rows_set row 6 _⟩
end Go.Proofs.YtbpcgcmlpgdmbaaDoor

/- Proved: a bytecode of one currency, run: it pays one of it. -/
import Derived.Test.YtiejoapnljkjdaaGreatDoorGenShow2
namespace Go.Proofs.YtiejoapnljkjdaaGreatDoor
open Go.RowKit
set_option linter.unusedVariables false
set_option linter.unusedSimpArgs false
set_option maxRecDepth 100000
def RunBox (W : World) (rb : Nat) (out : Value) (steps : Int) : Prop := W.heap[rb]? = some (.cells #[.int .i64 3, .slice none 0 0, .slice none 0 0, out, .int .i64 steps, .bool false] 48 (0, 0))
def TrRow (base : Nat) (w : World) (v : Value) (s : ByteArray) (n : Nat) : Prop := w.ownsRow base 51 3 v n ((List.replicate n [Value.int .i64 3, .string s, .int .i64 1000000]).flatten)
theorem info_tr : (Tryz.prog.info? 51).map (fun i => (i.zero, i.size, i.bytes)) = some (some (.agg #[.int .i64 0, .string ⟨#[]⟩, .int .i64 0]), 3, 32) := by kernel_rfl
theorem info_i64 : (Tryz.prog.info? 2).map (fun i => (i.zero, i.size, i.bytes)) = some (some (.int .i64 0), 1, 8) := by kernel_rfl
noncomputable def regs0 : Array Value := madeCells #[.int .i64 0] 256
theorem make_regs (w : World) : (Instr.makeSlice 89 (.int .i64 256) (.int .i64 256)).run Tryz.prog w = .ok (.slice (some ⟨w.heap.size, 0, none⟩) 256 256) (w.alloc (.cells regs0 2)) := by
  obtain ⟨i, hi, hz, hs, hb⟩ := info_split info_i64
  have := run_make (P := Tryz.prog) w 89 2 i (.int .i64 0) Tryz.underlying89 hi hz .i64 .i64 256 256 (by omega) (by omega) (by rw [hb]; omega) (by omega)
  rw [this, hs]
  rfl
theorem step_tr {w : World} {ops : Array Oper} {o : Oper} {a : Act} {K : Act → World → Prop} {Q : Exit → Act → World → Prop} {E : Prop} (hgd : o.guard = none) (s x : Operand)
    (ho : o.op = .call { callee := .builtin .append, args := #[s, x], argTypes := #[46, 46] })
    (base : Nat) (cur : ByteArray) (hs : a.eval s = .slice none 0 0) (hx : a.eval x = .slice (some ⟨w.heap.size, 0, none⟩) 1 1) (hbase : base ≤ w.heap.size)
    (h : ∀ v' w', TrRow base w' v' cur 1 → w.grownBy w' none → K (a.put o.dst v') w') :
    if Region.wanted o (yielded ops a.tmps) = true then Oper.wp Tryz.prog o a (w.alloc (.cells #[.int .i64 3, .string cur, .int .i64 1000000] 51)) K Q else E := by
  have hw : Region.wanted o (yielded ops a.tmps) = true := by simp [Region.wanted, hgd]
  rw [if_pos hw]
  obtain ⟨i, hi, hz, hsz, hby⟩ := info_split info_tr
  refine wp_append_own _ s x 46 ho base 51 i _ 3 32 Tryz.underlying46 hi hz hsz hby rfl (by decide) (.slice none 0 0) 0 [] hs (World.ownsRow_nil _ _ _ _) ⟨w.heap.size, 0, none⟩ 1 1 [.int .i64 3, .string cur, .int .i64 1000000] hx rfl
    (fun j u hj => ?_) (fun u hu => ?_) (by unfold maxLen; omega) (by omega) (by simp; omega) (fun v' w' h1 h2 _ => h v' w' ?_ (grown_trans (grown_of_below ((Below.refl _ _).alloc (Nat.le_refl _) _) _) h2))
  · rw [add_gen, World.cell?_alloc_new, Nat.zero_add, ← hj]
    simp
  · simp only [List.mem_cons, List.not_mem_nil, or_false] at hu
    rcases hu with rfl | rfl | rfl <;> rfl
  · show World.ownsRow w' base _ 3 v' 1 _
    simpa using h1
theorem TrRow.cells {base : Nat} {W : World} {v : Value} {s : ByteArray} (h : TrRow base W v s 1) : ∃ g k, v = .slice (some ⟨g, 0, none⟩) 1 k ∧ base ≤ g ∧ W.cell? ⟨g, 0, none⟩ = some (.int .i64 3) ∧ W.cell? ⟨g, 1, none⟩ = some (.string s) ∧ W.cell? ⟨g, 2, none⟩ = some (.int .i64 1000000) := by
  obtain ⟨h0, ⟨_, hz⟩ | ⟨g, cap, cur, rfl, h2, h3, h4, h5, h6, h7⟩⟩ := h
  · omega
  · have hc := fun (j : Nat) (u : Value) (hu : (List.replicate 1 [Value.int .i64 3, .string s, .int .i64 1000000]).flatten[j]? = some u) => (show W.cell? ⟨g, j, none⟩ = some u by
      have := take_at h7 hu
      simp only [World.cell?, h3]
      rw [Array.getElem?_toList] at this
      simpa using this)
    exact ⟨g, cap, rfl, h2, hc 0 _ rfl, hc 1 _ rfl, hc 2 _ rfl⟩
/-- The run's world: its own box, the bytecode's. -/
structure RunSt (w : World) (rb cb : Nat) (vi : Value) (s : ByteArray) (out : Value) (steps : Int) (k : Nat) (W : World) : Prop where
  run : RunBox W rb out steps
  cd : CdBox W cb 0 (.slice none 0 0) vi
  row : TrRow (rb + 1) W out s k
  bel : Below rb w W
  own : out.ownBlock ≠ some rb ∧ rb < cb
theorem RunSt.paid {w : World} {rb cb : Nat} {vi : Value} {s : ByteArray} {steps : Int} {W W5 : World} {g k : Nat} (h : RunSt w rb cb vi s (.slice none 0 0) steps 0 W) (row : TrRow (rb + 1) W5 (.slice (some ⟨g, 0, none⟩) 1 k) s 1) (gr : W.drew.grownBy W5 none) (hg : rb + 1 ≤ g) :
    RunSt w rb cb vi s (.slice (some ⟨g, 0, none⟩) 1 k) steps 1 (W5.setCell ⟨rb, 3, none⟩ (.slice (some ⟨g, 0, none⟩) 1 k)) := by
  have gs := grown_set W5 rb 3 (.slice (some ⟨g, 0, none⟩) 1 k)
  have k1 := fun (b : Nat) (o : Obj) (e : W.heap[b]? = some o) => (gr.block b (show b < W.heap.size from lt_of_block e) (fun e => by cases e)).trans (show W.drew.heap[b]? = some o from e)
  have hne : (Value.slice (some ⟨g, 0, none⟩) 1 k).ownBlock ≠ some rb := fun e => by have e2 : g = rb := Option.some.inj e; omega
  have ho := h.own.2
  refine ⟨heap_setCell_same W5 rb 3 _ _ _ (k1 rb _ h.run), box_grown gs (show cb ≠ rb by omega) (k1 cb _ h.cd), World.ownsRow.kept row gs (.inr hne), ?_, ⟨hne, h.own.2⟩⟩
  have q1 : Below rb W.drew W5 := ⟨gr.os, gr.tape, gr.output, gr.size, fun j hj => gr.block j (Nat.lt_trans hj (lt_of_block h.run)) (fun e => by cases e)⟩
  exact below_grown (h.bel.drew.trans q1) gs (Nat.le_refl _) (Nat.le_trans (Nat.le_of_lt (lt_of_block h.run)) gr.size)
set_option maxHeartbeats 4000000 in
theorem from_one (rb : Nat) (s : ByteArray) (p : Option Addr) (n c : Nat) (W0 w : World) (h : RunBox w rb (.slice none 0 0) 0) (hi : InsAt W0 (.slice p n c) (ins1 s)) (hw0 : Below W0.heap.size W0 w) (hrb : W0.heap.size ≤ rb) :
    Calls Tryz.prog 16 #[.pointer (some ⟨rb, 0, none⟩), .agg #[.int .i64 0, .slice none 0 0, .slice p n c], .int .i64 0, .int .i64 1000000] w
      fun e w' => (∃ r, e = .returned r) ∧ ∃ g k, RunBox w' rb (.slice (some ⟨g, 0, none⟩) 1 k) 2 ∧ w'.cell? ⟨g, 0, none⟩ = some (.int .i64 3) ∧ w'.cell? ⟨g, 1, none⟩ = some (.string s) ∧ w'.cell? ⟨g, 2, none⟩ = some (.int .i64 1000000) ∧ Below rb w w' := by
  have hlt := lt_of_block h
  have B0 : Below w.heap.size w ((w.alloc (.cells #[.int .i64 0, .slice none 0 0, .slice p n c] 25)).alloc (.cells regs0 2)) := ((Below.refl _ w).alloc (Nat.le_refl _) _).alloc (by simp) _
  have hcb : CdBox ((w.alloc (.cells #[.int .i64 0, .slice none 0 0, .slice p n c] 25)).alloc (.cells regs0 2)) w.heap.size 0 (.slice none 0 0) (.slice p n c) := (Below.heap_alloc _ _ _ (by simp)).trans (heap_alloc_new w _)
  have H0 := hid' (show RunSt w rb w.heap.size (.slice p n c) s (.slice none 0 0) 0 0 _ from ⟨box_below B0 h, hcb, World.ownsRow_nil _ _ _ _, B0.mono (Nat.le_of_lt hlt), ⟨(fun e => by cases e), hlt⟩⟩)
  have hmk := make_regs
  have HIN := hid' (fun (W : World) (hb : Below rb w W) => hi.below (hw0.trans (hb.mono hrb)))
  clear B0 hcb h hi hw0 hrb
  go_enter Tryz.func16, Tryz.ntmps16
  go_wp2_with fail
  generalize ((w.alloc (.cells #[.int .i64 0, .slice none 0 0, .slice p n c] 25)).alloc (.cells regs0 2)) = w2 at *
  generalize w.heap.size = cb at *
  clear hmk
  go_loopw [2, 3] (fun at' f wr => f = .int .i64 1000000 ∧ ((at' = .int .i64 0 ∧ Hid (RunSt w rb cb (.slice p n c) s (.slice none 0 0) 0 0 wr)) ∨ (at' = .int .i64 1 ∧ ∃ g k, Hid (RunSt w rb cb (.slice p n c) s (.slice (some ⟨g, 0, none⟩) 1 k) 1 1 wr)))) (fun at' _ _ => 2 - (intOf at').toNat)
  case atStart => exact ⟨rfl, .inl ⟨rfl, H0⟩⟩
  case round =>
    obtain ⟨rfl, ⟨rfl, HS⟩ | ⟨rfl, g, k, HS⟩⟩ := hrel
    · obtain ⟨p', c', e, ⟨e1, e2⟩, hic⟩ := HIN.out wr HS.out.bel
      obtain ⟨rfl, rfl, rfl⟩ : p = p' ∧ n = 2 ∧ c = c' := by simpa [ins1] using e
      obtain ⟨ib, io, rfl, hib, hyy, -⟩ := hic 0 ⟨27, 0, 0, 0, 0, s, 0⟩ rfl
      simp only [Nat.zero_mul, Nat.one_mul, Nat.add_zero] at hyy
      obtain ⟨y0, y1, y2, y3, y4, y5, y6⟩ := hyy
      have r5 := bcells HS.out.run 5 _ rfl
      have c2 := bcells HS.out.cd 2 _ rfl
      have BX := (Below.refl wr.heap.size wr).alloc (Nat.le_refl _) (.cells #[.int .i64 27, .int .i64 0, .int .i64 0, .int .i64 0, .int .i64 0, .string s, .int .i64 0] 53)
      have hrun := box_below BX HS.out.run
      have r4 := bcells hrun 4 _ rfl
      have f4 := frozen_of (o := 4) HS.out.run
      have f4b := frozen_of (o := 4) hrun
      have gs := grown_set (wr.alloc (.cells #[.int .i64 27, .int .i64 0, .int .i64 0, .int .i64 0, .int .i64 0, .string s, .int .i64 0] 53)) rb 4 (.int .i64 1)
      have hset : RunBox ((wr.alloc (.cells #[.int .i64 27, .int .i64 0, .int .i64 0, .int .i64 0, .int .i64 0, .string s, .int .i64 0] 53)).setCell ⟨rb, 4, none⟩ (.int .i64 1)) rb (.slice none 0 0) 1 := heap_setCell_same (wr.alloc (.cells #[.int .i64 27, .int .i64 0, .int .i64 0, .int .i64 0, .int .i64 0, .string s, .int .i64 0] 53)) rb 4 _ _ (.int .i64 1) hrun
      have hbx := box_grown gs (show wr.heap.size ≠ rb by have := lt_of_block HS.out.run; omega) (heap_alloc_new wr (.cells #[.int .i64 27, .int .i64 0, .int .i64 0, .int .i64 0, .int .i64 0, .string s, .int .i64 0] 53))
      have hcd := box_grown gs (show cb ≠ rb by omega) (box_below BX HS.out.cd)
      have hbel := below_grown (HS.out.bel.trans (BX.mono (Nat.le_of_lt (lt_of_block HS.out.run)))) gs (Nat.le_refl _) (Nat.le_of_lt (lt_of_block hrun))
      have hrow := World.ownsRow.kept (World.ownsRow.alloc HS.out.row (.cells #[.int .i64 27, .int .i64 0, .int .i64 0, .int .i64 0, .int .i64 0, .string s, .int .i64 0] 53)) gs (.inr HS.out.own.1)
      have H1 := hid' (And.intro hset (And.intro hbx (And.intro hcd (And.intro hbel hrow))))
      clear e e1 e2 hic BX hrun gs hset hbx hcd hbel hrow
      go_upto_region 5 with (fail)
      clear y0 y1 y2 y3 y4 y5 y6 r4 f4 f4b r5 c2
      have HSO := hid' HS.out.own
      clear HS
      generalize ((wr.alloc (.cells #[.int .i64 27, .int .i64 0, .int .i64 0, .int .i64 0, .int .i64 0, .string s, .int .i64 0] 53)).setCell ⟨rb, 4, none⟩ (.int .i64 1)) = w4 at *
      generalize wr.heap.size = xb at *
      have r4 := bcells H1.out.1 4 _ rfl
      have x0 := bcells H1.out.2.1 0 _ rfl
      go_upto_region 39 with (fail)
      have hD := hid' (show RunBox w4.drew rb (.slice none 0 0) 1 from H1.out.1)
      have x5 := bcells H1.out.2.1 5 _ rfl
      have r0 := bcells H1.out.1 0 _ rfl
      have r3 := bcells H1.out.1 3 _ rfl
      have r0' := alloc_cell r0 (.cells #[.int .i64 3, .string s, .int .i64 1000000] 51)
      have r3' := alloc_cell r3 (.cells #[.int .i64 3, .string s, .int .i64 1000000] 51)
      have hsz := lt_of_block H1.out.1
      have hrb1 : rb + 1 ≤ w4.drew.heap.size := hsz
      go_region_law (first | (refine step_tr rfl _ _ (by rfl) (rb + 1) s (by rfl) (by rfl) hrb1 ?_; intro v' w5 h5 h6; have hk5 := (h6.block rb hsz (fun e => by cases e)).trans hD.out; have hkc := bcells hk5 3 _ rfl; have hkf := frozen_of (o := 3) hk5; obtain ⟨g5, k5, rfl, hg5, -⟩ := h5.cells))
      all_goals have H5 := hid' (RunSt.paid (RunSt.mk H1.out.1 H1.out.2.2.1 H1.out.2.2.2.2 H1.out.2.2.2.1 HSO.out) h5 h6 hg5)
      all_goals clear h5 h6 hg5 r4 x0 x5 r0 r3 r0' r3' hD hk5
      all_goals go_wp2_with fail
      all_goals
        go_roundw
        case rel => exact ⟨rfl, .inr ⟨by go_num, g5, k5, H5⟩⟩
        case measure => simp [intOf]
    · obtain ⟨p', c', e, ⟨e1, e2⟩, hic⟩ := HIN.out wr HS.out.bel
      obtain ⟨rfl, rfl, rfl⟩ : p = p' ∧ n = 2 ∧ c = c' := by simpa [ins1] using e
      obtain ⟨ib, io, rfl, hib, hyy, -⟩ := hic 1 ⟨30, 0, 0, 0, 0, ⟨#[]⟩, 0⟩ rfl
      simp only [Nat.zero_mul, Nat.one_mul, Nat.add_zero] at hyy
      obtain ⟨y0, y1, y2, y3, y4, y5, y6⟩ := hyy
      have r5 := bcells HS.out.run 5 _ rfl
      have c2 := bcells HS.out.cd 2 _ rfl
      have BX := (Below.refl wr.heap.size wr).alloc (Nat.le_refl _) (.cells #[.int .i64 30, .int .i64 0, .int .i64 0, .int .i64 0, .int .i64 0, .string ⟨#[]⟩, .int .i64 0] 53)
      have hrun := box_below BX HS.out.run
      have r4 := bcells hrun 4 _ rfl
      have f4 := frozen_of (o := 4) HS.out.run
      have f4b := frozen_of (o := 4) hrun
      have gs := grown_set (wr.alloc (.cells #[.int .i64 30, .int .i64 0, .int .i64 0, .int .i64 0, .int .i64 0, .string ⟨#[]⟩, .int .i64 0] 53)) rb 4 (.int .i64 2)
      have hset : RunBox ((wr.alloc (.cells #[.int .i64 30, .int .i64 0, .int .i64 0, .int .i64 0, .int .i64 0, .string ⟨#[]⟩, .int .i64 0] 53)).setCell ⟨rb, 4, none⟩ (.int .i64 2)) rb (.slice (some ⟨g, 0, none⟩) 1 k) 2 := heap_setCell_same (wr.alloc (.cells #[.int .i64 30, .int .i64 0, .int .i64 0, .int .i64 0, .int .i64 0, .string ⟨#[]⟩, .int .i64 0] 53)) rb 4 _ _ (.int .i64 2) hrun
      have hbx := box_grown gs (show wr.heap.size ≠ rb by have := lt_of_block HS.out.run; omega) (heap_alloc_new wr (.cells #[.int .i64 30, .int .i64 0, .int .i64 0, .int .i64 0, .int .i64 0, .string ⟨#[]⟩, .int .i64 0] 53))
      have hcd := box_grown gs (show cb ≠ rb by omega) (box_below BX HS.out.cd)
      have hbel := below_grown (HS.out.bel.trans (BX.mono (Nat.le_of_lt (lt_of_block HS.out.run)))) gs (Nat.le_refl _) (Nat.le_of_lt (lt_of_block hrun))
      have hrow := World.ownsRow.kept (World.ownsRow.alloc HS.out.row (.cells #[.int .i64 30, .int .i64 0, .int .i64 0, .int .i64 0, .int .i64 0, .string ⟨#[]⟩, .int .i64 0] 53)) gs (.inr HS.out.own.1)
      have H1 := hid' (And.intro hset (And.intro hbx (And.intro hcd (And.intro hbel hrow))))
      clear e e1 e2 hic BX hrun gs hset hbx hcd hbel hrow
      go_upto_region 5 with (fail)
      clear y0 y1 y2 y3 y4 y5 y6 r4 f4 f4b r5 c2
      have HSO := hid' HS.out.own
      clear HS
      generalize ((wr.alloc (.cells #[.int .i64 30, .int .i64 0, .int .i64 0, .int .i64 0, .int .i64 0, .string ⟨#[]⟩, .int .i64 0] 53)).setCell ⟨rb, 4, none⟩ (.int .i64 2)) = w4 at *
      generalize wr.heap.size = xb at *
      have r4 := bcells H1.out.1 4 _ rfl
      have x0 := bcells H1.out.2.1 0 _ rfl
      go_wp2_with fail
      refine bodyPost_ret (results_none rfl _ _ _) rfl ?_
      obtain ⟨g', k', e', hg', z0, z1, z2⟩ := TrRow.cells H1.out.2.2.2.2
      obtain ⟨rfl, rfl⟩ : g = g' ∧ k = k' := by simpa using e'
      exact ⟨⟨_, rfl⟩, g, k, H1.out.1, z0, z1, z2, H1.out.2.2.2.1⟩
end Go.Proofs.YtiejoapnljkjdaaGreatDoor

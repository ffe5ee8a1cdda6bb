/- Proved: gen's maker at one currency: lay, end, contract, make; Compile. -/
import Derived.Test.YtiejoapnljkjdaaGreatDoorGenShow1
import Derived.Test.YtiejoapnljkjdaaGreatDoorGenRefDec
import Derived.Deep.RegionLaw
import Derived.Carry
namespace Go.Proofs.YtiejoapnljkjdaaGreatDoor
open Go.RowKit
set_option linter.unusedVariables false
set_option linter.unusedSimpArgs false
set_option maxRecDepth 100000
theorem step_ix {w : World} {ops : Array Oper} {o : Oper} {a : Act} {K : Act → World → Prop} {Q : Exit → Act → World → Prop} {E : Prop} (hgd : o.guard = none) (s x : Operand)
    (ho : o.op = .call { callee := .builtin .append, args := #[s, x], argTypes := #[23, 23] })
    (base : Nat) (v : Value) (L : List Gen.Ix) (hs : a.eval s = v) (hown : IxRow base w v L) (y : Gen.Ix) (hx : a.eval x = .slice (some ⟨w.heap.size, 0, none⟩) 1 1)
    (hbound : L.length + 1 ≤ 1000000) (hbase : base ≤ w.heap.size)
    (h : ∀ v' w', IxRow base w' v' (L ++ [y]) → w.grownBy w' v.ownBlock → K (a.put o.dst v') w') :
    if Region.wanted o (yielded ops a.tmps) = true then Oper.wp Tryz.prog o a (w.alloc (.cells #[.int .i64 y.op, .int .i64 y.a, .int .i64 y.b, .int .i64 y.c, .int .i64 y.n, .string y.s, .int .i64 y.to] 53)) K Q else E := by
  have hw : Region.wanted o (yielded ops a.tmps) = true := by simp [Region.wanted, hgd]
  rw [if_pos hw]
  obtain ⟨i, hi, hz, hsz, hby⟩ := info_split info_instr
  refine wp_append_own _ s x 23 ho base 53 i _ 7 64 Tryz.underlying23 hi hz hsz hby rfl (by decide) v L.length _ hs (World.ownsRow.alloc hown _) ⟨w.heap.size, 0, none⟩ 1 1 (ix7 y) hx rfl
    (fun j u hj => ?_) (fun u hu => ?_) (by unfold maxLen; omega) (by omega) (by simp; omega) (fun v' w' h1 h2 _ => h v' w' ?_ (grown_trans (grown_of_below ((Below.refl _ _).alloc (Nat.le_refl _) _) _) h2))
  · rw [add_gen, World.cell?_alloc_new, Nat.zero_add, ← hj]
    simp [ix7]
  · simp only [ix7, List.mem_cons, List.not_mem_nil, or_false] at hu
    rcases hu with rfl | rfl | rfl | rfl | rfl | rfl | rfl <;> rfl
  · show World.ownsRow w' base _ 7 v' (L ++ [y]).length ((L ++ [y]).flatMap ix7)
    rw [List.length_append, List.flatMap_append]
    simpa using h1
/-- A maker that has laid some instructions and nothing else. -/
def MkBox (W : World) (mb : Nat) (vi kn : Value) : Prop := W.heap[mb]? = some (.cells #[.int .i64 0, .slice none 0 0, vi, .bool false, .slice none 0 0, .int .i64 0, kn, .bool false] 87 (0, 0))
structure LaySt (mb : Nat) (vi kn : Value) (L : List Gen.Ix) (W W' : World) : Prop where
  mbx : MkBox W' mb vi kn
  row : IxRow (mb + 1) W' vi L
  kp : Below mb W W'
  kt : ∀ (b : Nat) (xs : Array Value) (t : TypeId), b ≠ mb → t ≠ 53 → W.heap[b]? = some (.cells xs t (0, 0)) → W'.heap[b]? = some (.cells xs t (0, 0))
theorem LaySt.trans {mb : Nat} {vi vi' kn kn' : Value} {L L' : List Gen.Ix} {A B C : World} (h : LaySt mb vi kn L A B) (k : LaySt mb vi' kn' L' B C) : LaySt mb vi' kn' L' A C :=
  ⟨k.mbx, k.row, h.kp.trans k.kp, fun b xs t hb ht e => k.kt b xs t hb ht (h.kt b xs t hb ht e)⟩
theorem LaySt.start {mb : Nat} {vi kn : Value} {L : List Gen.Ix} {W W' : World} (b : Below W.heap.size W W') (m : MkBox W mb vi kn) (r : IxRow (mb + 1) W vi L) : LaySt mb vi kn L W W' :=
  ⟨box_below b m, World.ownsRow.kept r (grown_of_below b none) (by by_cases e : vi.ownBlock = none; exact .inl e; exact .inr e), b.mono (Nat.le_of_lt (lt_of_block m)), fun _ _ _ _ _ e => box_below b e⟩
theorem LaySt.add {mb : Nat} {vi v' kn : Value} {L L' : List Gen.Ix} {w w2 W5 : World} (h : LaySt mb vi kn L w w2) (row : IxRow (mb + 1) W5 v' L') (g : w2.drew.grownBy W5 vi.ownBlock) : LaySt mb v' kn L' w (W5.setCell ⟨mb, 2, none⟩ v') := by
  have gs := grown_set W5 mb 2 v'
  have k1 := fun (b : Nat) (o : Obj) (hne : vi.ownBlock ≠ some b) (e : w2.heap[b]? = some o) => (g.block b (show b < w2.heap.size from lt_of_block e) (fun e => hne e.symm)).trans (show w2.drew.heap[b]? = some o from e)
  refine ⟨heap_setCell_same W5 mb 2 _ _ v' (k1 mb _ (own_lt h.row (by omega)) h.mbx), World.ownsRow.kept row gs (.inr (own_lt row (by omega))), ?_, ?_⟩
  · have q1 : Below mb w2.drew W5 := ⟨g.os, g.tape, g.output, g.size, fun k hk => g.block k (Nat.lt_trans hk (lt_of_block h.mbx)) (fun e => own_lt h.row (by omega) e.symm)⟩
    have q2 : Below mb W5 (W5.setCell ⟨mb, 2, none⟩ v') := ⟨gs.os, gs.tape, gs.output, gs.size, fun k hk => gs.block k (Nat.lt_of_lt_of_le (Nat.lt_trans hk (lt_of_block h.mbx)) g.size) (fun e => by cases e; omega)⟩
    exact h.kp.drew.trans (q1.trans q2)
  · intro b xs t hb ht e
    have e2 := h.kt b xs t hb ht e
    have hne : vi.ownBlock ≠ some b := by
      rcases h.row.2 with ⟨rfl, _⟩ | ⟨g2, c2, u2, rfl, _, hg2, _⟩
      · intro e; cases e
      · intro e3
        have e4 : g2 = b := Option.some.inj e3
        rw [e4, e2] at hg2
        simp at hg2
        exact ht hg2.2
    exact box_grown gs hb (k1 b _ hne e2)
def LayPost (mb : Nat) (kn : Value) (L : List Gen.Ix) (w : World) (e : Ending) (w' : World) : Prop := (∃ r, e = .returned r) ∧ ∃ p n c, LaySt mb (.slice p n c) kn L w w'
set_option maxHeartbeats 2000000 in
theorem lay_any (mb : Nat) (p : Option Addr) (n c : Nat) (kn : Value) (L : List Gen.Ix) (x : Gen.Ix) (w : World) (h : MkBox w mb (.slice p n c) kn) (hr : IxRow (mb + 1) w (.slice p n c) L) (hl : L.length ≤ 1000) :
    Calls Tryz.prog 102 #[.pointer (some ⟨mb, 0, none⟩), .agg #[.int .i64 x.op, .int .i64 x.a, .int .i64 x.b, .int .i64 x.c, .int .i64 x.n, .string x.s, .int .i64 x.to]] w (LayPost mb kn (L ++ [x]) w) := by
  obtain ⟨p', c', e⟩ := row_form hr
  cases e
  have B0 := (Below.refl w.heap.size w).alloc (Nat.le_refl _) (.cells #[.int .i64 x.op, .int .i64 x.a, .int .i64 x.b, .int .i64 x.c, .int .i64 x.n, .string x.s, .int .i64 x.to] 53)
  have HB := hid' (show IxBox _ w.heap.size x from heap_alloc_new w _)
  have HS := hid' (LaySt.start B0 h hr)
  have hlt := lt_of_block h
  clear B0 h hr
  go_enter Tryz.func102, Tryz.ntmps102
  go_upto_region 1 with (fail)
  generalize w.alloc (.cells #[.int .i64 x.op, .int .i64 x.a, .int .i64 x.b, .int .i64 x.c, .int .i64 x.n, .string x.s, .int .i64 x.to] 53) = w2 at *
  generalize w.heap.size = xb at *
  have x0 := bcells HB.out 0 _ rfl
  have x1 := bcells HB.out 1 _ rfl
  have x2 := bcells HB.out 2 _ rfl
  have x3 := bcells HB.out 3 _ rfl
  have x4 := bcells HB.out 4 _ rfl
  have x5 := bcells HB.out 5 _ rfl
  have x6 := bcells HB.out 6 _ rfl
  have m2 := bcells HS.out.mbx 2 _ rfl
  go_cut [5] (fun v wx => v = .pointer (some ⟨mb, 0, none⟩) ∧ ∃ p n c, Hid (LaySt mb (.slice p n c) kn (L ++ [x]) w wx))
  case first =>
    have hl2 : L.length + 1 ≤ 1000000 := by omega
    have hD := hid' (show IxRow (mb + 1) w2.drew (.slice p L.length c) L ∧ MkBox w2.drew mb (.slice p L.length c) kn from ⟨HS.out.row, HS.out.mbx⟩)
    have hpc := bcells hD.out.2 2 _ rfl
    have hal := alloc_cell m2 (.cells #[.int .i64 x.op, .int .i64 x.a, .int .i64 x.b, .int .i64 x.c, .int .i64 x.n, .string x.s, .int .i64 x.to] 53)
    go_region_law (first | (refine step_ix rfl _ _ (by rfl) (mb + 1) (.slice p L.length c) L (by rfl) hD.out.1 x (by rfl) hl2 (lt_of_block hD.out.2) ?_; intro v' w5 h5 h6; have hk5 := (h6.block mb (lt_of_block hD.out.2) (fun e => own_lt hD.out.1 (by omega) e.symm)).trans hD.out.2; have hkc := bcells hk5 2 _ rfl; have hkf := frozen_of (o := 2) hk5; obtain ⟨p5, n5, c5, rfl⟩ := row_form3 h5))
    all_goals go_wp2_with fail
    all_goals go_meet
    all_goals exact ⟨rfl, p5, n5, c5, HS.out.add h5 h6⟩
  case rest =>
    obtain ⟨rfl, p5, n5, c5, H5⟩ := hcut
    have y2 := bcells H5.out.mbx 2 _ rfl
    clear x0 x1 x2 x3 x4 x5 x6 m2
    go_wp2_with fail
    go_ret
    exact ⟨⟨_, rfl⟩, p5, n5, c5, H5.out⟩
set_option maxHeartbeats 2000000 in
theorem end_any (mb : Nat) (p : Option Addr) (n c : Nat) (kn : Value) (L : List Gen.Ix) (w : World) (h : MkBox w mb (.slice p n c) kn) (hr : IxRow (mb + 1) w (.slice p n c) L) (hl : L.length ≤ 1000) :
    Calls Tryz.prog 67 #[.pointer (some ⟨mb, 0, none⟩)] w (LayPost mb kn (L ++ [⟨30, 0, 0, 0, 0, ⟨#[]⟩, 0⟩]) w) := by
  have HL := hid' (lay_any mb p n c kn L ⟨30, 0, 0, 0, 0, ⟨#[]⟩, 0⟩ w h hr hl)
  clear h hr
  go_enter Tryz.func67, Tryz.ntmps67
  go_wp2_with fail
  refine HL.out.mono ?_
  rintro e w2 ⟨⟨r, rfl⟩, H2⟩
  have H := hid' H2
  clear H2
  go_wp2_with fail
  refine bodyPost_end (results_none rfl _ _ _) rfl ?_
  exact ⟨⟨_, rfl⟩, H.out⟩
theorem waits_one (s : ByteArray) (w : World) : Calls Tryz.prog 65 #[core0 24 0 s] w (Gives (.bool false) w) := by
  unfold core0
  go_enter Tryz.func65, Tryz.ntmps65
  go_wp2_with fail
  go_ret
  exact ⟨rfl, (Below.refl _ _).alloc (Nat.le_refl _) _⟩
theorem many_one (s : ByteArray) (w : World) : Calls Tryz.prog 36 #[core0 24 0 s] w (Gives (.int .i64 0) w) := by
  have hb := heap_alloc_new w (.cells #[.int .i64 24, .int .i64 0, .string s, .slice none 0 0] 42)
  have HB := hid' hb
  clear hb
  have HW := hid' (fun w => waits_one s w)
  unfold core0 at *
  go_enter Tryz.func36, Tryz.ntmps36
  go_wp2_with fail
  refine (HW.out _).mono ?_
  rintro e w2 ⟨rfl, b2⟩
  obtain ⟨c0, c1, c2, c3⟩ := heap_cells4 (box_below b2 HB.out)
  have H2 := hid' (Below.more ((Below.refl w.heap.size w).alloc (Nat.le_refl _) _) b2)
  clear b2
  go_wp2_with fail
  go_loopw [3, 13] (fun nv iv wr => nv = .int .i64 0 ∧ iv = .int .i64 0 ∧ wr = w2) (fun _ _ _ => 0)
  case atStart => exact ⟨rfl, rfl, rfl⟩
  case round =>
    obtain ⟨rfl, rfl, rfl⟩ := hrel
    go_wp2_with fail
    go_ret
    exact ⟨rfl, H2.out⟩
set_option maxHeartbeats 2000000 in
theorem contract_one (mb : Nat) (kn : Value) (s : ByteArray) (w : World) (h : MkBox w mb (.slice none 0 0) kn) :
    Calls Tryz.prog 66 #[.pointer (some ⟨mb, 0, none⟩), core0 24 0 s] w (LayPost mb kn [⟨27, 0, 0, 0, 0, s, 0⟩] w) := by
  have hb := heap_alloc_new w (.cells #[.int .i64 24, .int .i64 0, .string s, .slice none 0 0] 42)
  have HB := hid' hb
  have hlt := lt_of_block h
  have B0 := (Below.refl w.heap.size w).alloc (Nat.le_refl _) (.cells #[.int .i64 24, .int .i64 0, .string s, .slice none 0 0] 42)
  have HS := hid' (LaySt.start B0 h (show IxRow (mb + 1) w (.slice none 0 0) [] from World.ownsRow_nil _ _ _ _))
  clear hb B0 h
  have HW := hid' (fun w => waits_one s w)
  unfold core0 at *
  go_enter Tryz.func66, Tryz.ntmps66
  go_wp2_with fail
  refine (HW.out _).mono ?_
  rintro e w2 ⟨rfl, b2⟩
  have hcb := box_below b2 HB.out
  obtain ⟨c0, c1, c2, c3⟩ := heap_cells4 hcb
  have hs2 := HS.out.trans (LaySt.start b2 HS.out.mbx HS.out.row)
  have m5 := bcells hs2.mbx 5 _ rfl
  have HL := hid' (lay_any mb none 0 0 kn [] ⟨27, 0, 0, 0, 0, s, 0⟩ w2 hs2.mbx hs2.row (by simp))
  have HS2 := hid' hs2
  clear b2 hcb hs2
  go_wp2_with fail
  refine HL.out.mono ?_
  rintro e w3 ⟨⟨r, rfl⟩, p3, n3, k3, h3⟩
  have m3 := bcells h3.mbx 3 _ rfl
  have m5' := bcells h3.mbx 5 _ rfl
  have mf := frozen_of (o := 5) h3.mbx
  have hset := heap_setCell_same w3 mb 5 _ _ (.int .i64 0) h3.mbx
  have HS3 := hid' (HS2.out.trans h3)
  have HSET := hid' hset
  clear h3 hset c0 c1 c2 c3 m5
  go_wp2_with fail
  refine bodyPost_end (results_none rfl _ _ _) rfl ?_
  have gs := grown_set w3 mb 5 (.int .i64 0)
  refine ⟨⟨_, rfl⟩, p3, n3, k3, ⟨HSET.out, World.ownsRow.kept HS3.out.row gs (.inr (own_lt HS3.out.row (by omega))), HS3.out.kp.trans ⟨gs.os, gs.tape, gs.output, gs.size, fun k hk => gs.block k (Nat.lt_trans hk (lt_of_block HS3.out.mbx)) (fun e => by cases e; omega)⟩, fun b xs t hb ht e => box_grown gs hb (HS3.out.kt b xs t hb ht e)⟩⟩
theorem own_type {W : World} {base : Nat} {v : Value} {L : List Gen.Ix} (h : IxRow base W v L) {b : Nat} {xs : Array Value} {t : TypeId} (e : W.heap[b]? = some (.cells xs t (0, 0))) (ht : t ≠ 53) : v.ownBlock ≠ some b := by
  rcases h.2 with ⟨rfl, _⟩ | ⟨g2, c2, u2, rfl, _, hg2, _⟩
  · intro e; cases e
  · intro e3
    have e4 : g2 = b := Option.some.inj e3
    rw [e4, e] at hg2
    simp at hg2
    exact ht hg2.2
theorem code_set {W : World} {x0 x1 x2 : Value} (b : Nat) (r : Int) (x y : Value) (h : W.heap[b]? = some (.cells #[x0, x1, x2] 25 (0, 0))) :
    CdBox (((W.setCell ⟨b, 0, none⟩ (.int .i64 r)).setCell ⟨b, 1, none⟩ x).setCell ⟨b, 2, none⟩ y) b r x y ∧ W.grownBy (((W.setCell ⟨b, 0, none⟩ (.int .i64 r)).setCell ⟨b, 1, none⟩ x).setCell ⟨b, 2, none⟩ y) (some b) :=
  ⟨heap_setCell_same _ b 2 _ _ y (heap_setCell_same _ b 1 _ _ x (heap_setCell_same W b 0 _ _ (.int .i64 r) h)), grown_trans (grown_trans (grown_set _ b 0 _) (grown_set _ b 1 _)) (grown_set _ b 2 _)⟩
def ins1 (s : ByteArray) : List Gen.Ix := [⟨27, 0, 0, 0, 0, s, 0⟩, ⟨30, 0, 0, 0, 0, ⟨#[]⟩, 0⟩]
def MakePost (mb : Nat) (s : ByteArray) (w : World) (e : Ending) (w' : World) : Prop := ∃ p n c, e = .returned (.agg #[.int .i64 0, .slice none 0 0, .slice p n c]) ∧ IxRow (mb + 1) w' (.slice p n c) (ins1 s) ∧ Below mb w w'
set_option maxHeartbeats 2000000 in
theorem make_one (mb : Nat) (s : ByteArray) (w : World) (h : MkBox w mb (.slice none 0 0) (.map none)) :
    Calls Tryz.prog 37 #[.pointer (some ⟨mb, 0, none⟩), core0 24 0 s] w (MakePost mb s w) := by
  have hlt := lt_of_block h
  have hb2 : ((w.alloc (.cells #[.int .i64 24, .int .i64 0, .string s, .slice none 0 0] 42)).alloc (.cells #[.int .i64 0, .slice none 0 0, .slice none 0 0] 25)).heap[w.heap.size + 1]? = some (.cells #[.int .i64 0, .slice none 0 0, .slice none 0 0] 25 (0, 0)) := heap_new_at _ _ (by simp)
  have hb1 : ((w.alloc (.cells #[.int .i64 24, .int .i64 0, .string s, .slice none 0 0] 42)).alloc (.cells #[.int .i64 0, .slice none 0 0, .slice none 0 0] 25)).heap[w.heap.size]? = some (.cells #[.int .i64 24, .int .i64 0, .string s, .slice none 0 0] 42 (0, 0)) := (Below.heap_alloc _ _ _ (by simp)).trans (heap_alloc_new w _)
  have B0 : Below w.heap.size w ((w.alloc (.cells #[.int .i64 24, .int .i64 0, .string s, .slice none 0 0] 42)).alloc (.cells #[.int .i64 0, .slice none 0 0, .slice none 0 0] 25)) := ((Below.refl _ w).alloc (Nat.le_refl _) _).alloc (by simp) _
  have H0 := hid' (And.intro hb1 (And.intro hb2 (And.intro B0 (box_below B0 h))))
  clear hb1 hb2 B0 h
  unfold core0
  go_enter Tryz.func37, Tryz.ntmps37
  go_upto_region 1 with (fail)
  generalize ((w.alloc (.cells #[.int .i64 24, .int .i64 0, .string s, .slice none 0 0] 42)).alloc (.cells #[.int .i64 0, .slice none 0 0, .slice none 0 0] 25)) = w2 at *
  have hmm := @run_makeMap Tryz.prog
  have BM := (Below.refl w2.heap.size w2).alloc (Nat.le_refl _) (.map #[] 0)
  have hmk := box_below BM H0.out.2.2.2
  have m6 := bcells hmk 6 _ rfl
  have f6 := frozen_of (o := 6) H0.out.2.2.2
  have f6' := frozen_of (o := 6) hmk
  have gs := grown_set (w2.alloc (.map #[] 0)) mb 6 (.map (some w2.heap.size))
  have hmk3 : MkBox ((w2.alloc (.map #[] 0)).setCell ⟨mb, 6, none⟩ (.map (some w2.heap.size))) mb (.slice none 0 0) (.map (some w2.heap.size)) := heap_setCell_same (w2.alloc (.map #[] 0)) mb 6 _ _ (.map (some w2.heap.size)) hmk
  have hbel : Below mb w ((w2.alloc (.map #[] 0)).setCell ⟨mb, 6, none⟩ (.map (some w2.heap.size))) := below_grown ((H0.out.2.2.1.mono (Nat.le_of_lt hlt)).trans (BM.mono (Nat.le_of_lt (lt_of_block H0.out.2.2.2)))) gs (Nat.le_refl _) (Nat.le_of_lt (lt_of_block hmk))
  have hcb := box_grown gs (by omega) (box_below BM H0.out.1)
  have hrb := box_grown gs (by omega) (box_below BM H0.out.2.1)
  have H3 := hid' (And.intro hmk3 (And.intro hbel (And.intro hcb hrb)))
  obtain ⟨c0, c1, c2, c3⟩ := heap_cells4 hcb
  clear BM hmk gs hmk3 hbel hcb hrb H0
  go_upto_region 2 with (fail)
  clear m6 f6 f6' hmm
  generalize ((w2.alloc (.map #[] 0)).setCell ⟨mb, 6, none⟩ (.map (some w2.heap.size))) = w3 at *
  have HC := hid' (contract_one mb (.map (some w2.heap.size)) s w3 H3.out.1)
  unfold core0 at HC
  generalize (Value.map (some w2.heap.size)) = kn at *
  go_wp2_with fail
  refine HC.out.mono ?_
  rintro e w4 ⟨⟨r4, rfl⟩, p4, n4, k4, h4⟩
  have HE := hid' (end_any mb p4 n4 k4 kn _ w4 h4.mbx h4.row (by simp))
  have H4 := hid' h4
  clear h4 c0 c1 c2 c3 HC
  go_wp2_with fail
  refine HE.out.mono ?_
  rintro e w5 ⟨⟨r5, rfl⟩, p5, n5, k5, h5⟩
  have H5 := hid' (H4.out.trans h5)
  have hmk5 := H5.out.mbx
  have hrb5 := H5.out.kt _ _ _ (by omega) (by decide) H3.out.2.2.2
  have j4 := bcells hmk5 4 _ rfl
  have j0 := bcells hmk5 0 _ rfl
  have j1 := bcells hmk5 1 _ rfl
  have j2 := bcells hmk5 2 _ rfl
  have q0 := bcells hrb5 0 _ rfl
  have q1 := bcells hrb5 1 _ rfl
  have q2 := bcells hrb5 2 _ rfl
  have fr0 := frozen_of (o := 0) hrb5
  have fr1 := frozen_of (o := 1) hrb5
  have fr2 := frozen_of (o := 2) hrb5
  have hfin := code_set (w.heap.size + 1) 0 (.slice none 0 0) (.slice p5 n5 k5) hrb5
  have t0 := bcells hfin.1 0 _ rfl
  have t1 := bcells hfin.1 1 _ rfl
  have t2 := bcells hfin.1 2 _ rfl
  have hbel := below_grown (H3.out.2.1.trans H5.out.kp) hfin.2 (by omega) (Nat.le_of_lt (lt_of_block hmk5))
  have hrow := World.ownsRow.kept H5.out.row hfin.2 (.inr (own_type H5.out.row hrb5 (by decide)))
  have HF := hid' (And.intro hbel hrow)
  clear hmk5 hrb5 hfin hbel hrow h5 H4 H3 HE
  go_wp2_with fail
  go_loopw [20] (fun _ wr => wr = w5) (fun _ _ => 0)
  case atStart => rfl
  case round =>
    obtain rfl := hrel
    go_wp2_with fail
    refine bodyPost_ret (v := .agg #[.int .i64 0, .slice none 0 0, .slice p5 n5 k5]) ?_ rfl ?_
    · simp [results, Tryz.results37, go_sem, t0, t1, t2]
    · exact ⟨p5, n5, k5, rfl, HF.out.2, HF.out.1⟩
def CompPost (s : ByteArray) (w : World) (e : Ending) (w' : World) : Prop := ∃ p n c, e = .returned (.tuple #[.agg #[.int .i64 0, .slice none 0 0, .slice p n c], .int .i64 0]) ∧ InsAt w' (.slice p n c) (ins1 s) ∧ Below w.heap.size w w'
set_option maxHeartbeats 4000000 in
theorem compile_one (s : ByteArray) (w : World) (hc : Led.isCur s = true) (hs : s.size ≤ 2000000) :
    Calls Tryz.prog 15 #[core0 24 0 s, .int .i64 0] w (CompPost s w) := by
  have hb2 : ((w.alloc (.cells #[.int .i64 24, .int .i64 0, .string s, .slice none 0 0] 42)).alloc (.cells #[.int .i64 0, .slice none 0 0, .slice none 0 0] 25)).heap[w.heap.size + 1]? = some (.cells #[.int .i64 0, .slice none 0 0, .slice none 0 0] 25 (0, 0)) := heap_new_at _ _ (by simp)
  have hb1 : ((w.alloc (.cells #[.int .i64 24, .int .i64 0, .string s, .slice none 0 0] 42)).alloc (.cells #[.int .i64 0, .slice none 0 0, .slice none 0 0] 25)).heap[w.heap.size]? = some (.cells #[.int .i64 24, .int .i64 0, .string s, .slice none 0 0] 42 (0, 0)) := (Below.heap_alloc _ _ _ (by simp)).trans (heap_alloc_new w _)
  have B0 : Below w.heap.size w ((w.alloc (.cells #[.int .i64 24, .int .i64 0, .string s, .slice none 0 0] 42)).alloc (.cells #[.int .i64 0, .slice none 0 0, .slice none 0 0] 25)) := ((Below.refl _ w).alloc (Nat.le_refl _) _).alloc (by simp) _
  have H0 := hid' (And.intro hb1 (And.intro hb2 B0))
  have HD := hid' (fun W => do_one s W hc (by omega))
  have HK := hid' (fun W => check_one s W hc (by omega))
  have HM := hid' (fun W => many_one s W)
  have HMK := hid' (fun mb W h => make_one mb s W h)
  clear hb1 hb2 B0
  unfold core0 at *
  go_enter Tryz.func15, Tryz.ntmps15
  obtain ⟨c0, c1, c2, c3⟩ := heap_cells4 H0.out.1
  go_wp2_with fail
  refine (HD.out _).mono ?_
  rintro e w2 ⟨rfl, b2⟩
  have B3 := (Below.refl w2.heap.size w2).alloc (Nat.le_refl _) (.cells #[.int .i64 24, .int .i64 0, .string s, .slice none 0 0] 42)
  have H2 := hid' (And.intro (box_below B3 (box_below b2 H0.out.1)) (And.intro (box_below B3 (box_below b2 H0.out.2.1)) (And.intro (Below.more (Below.more H0.out.2.2 b2) B3) (heap_alloc_new w2 (.cells #[.int .i64 24, .int .i64 0, .string s, .slice none 0 0] 42)))))
  clear b2 B3 c0 c1 c2 c3 H0
  go_upto_region 2 with (fail)
  generalize w2.alloc (.cells #[.int .i64 24, .int .i64 0, .string s, .slice none 0 0] 42) = w3 at *
  generalize w2.heap.size = db at *
  obtain ⟨c0, c1, c2, c3⟩ := heap_cells4 H2.out.1
  go_wp2_with fail
  refine (HK.out _).mono ?_
  rintro e w4 ⟨rfl, b4⟩
  have H4 := hid' (And.intro (box_below b4 H2.out.1) (And.intro (box_below b4 H2.out.2.1) (And.intro (Below.more H2.out.2.2.1 b4) (box_below b4 H2.out.2.2.2))))
  clear b4 c0 c1 c2 c3 H2
  obtain ⟨c0, c1, c2, c3⟩ := heap_cells4 H4.out.1
  go_wp2_with fail
  refine (HM.out _).mono ?_
  rintro e w5 ⟨rfl, b5⟩
  have hlt5 : w.heap.size + 1 < w5.heap.size := lt_of_block (box_below b5 H4.out.2.1)
  have hbits : (bits BinOp.and IntKind.i64 0 8 != 0) = false := by decide
  have BM := (Below.refl w5.heap.size w5).alloc (Nat.le_refl _) (.cells #[.int .i64 0, .slice none 0 0, .slice none 0 0, .bool false, .slice none 0 0, .int .i64 0, .map none, .bool false] 87)
  have H5 := hid' (And.intro (box_below BM (box_below b5 H4.out.2.1)) (And.intro (Below.more (Below.more H4.out.2.2.1 b5) BM) (And.intro (box_below BM (box_below b5 H4.out.2.2.2)) (heap_alloc_new w5 (.cells #[.int .i64 0, .slice none 0 0, .slice none 0 0, .bool false, .slice none 0 0, .int .i64 0, .map none, .bool false] 87)))))
  clear b5 BM c0 c1 c2 c3 H4
  obtain ⟨d0, d1, d2, d3⟩ := heap_cells4 H5.out.2.2.1
  go_wp2_with fail
  refine (HMK.out _ _ H5.out.2.2.2).mono ?_
  rintro e w6 ⟨p, n, c, rfl, hrow, hb6⟩
  have hrb := (hb6.block (w.heap.size + 1) hlt5).trans H5.out.1
  have hbel := H5.out.2.1.trans (hb6.mono (by omega))
  have hfin := code_set (w.heap.size + 1) 0 (.slice none 0 0) (.slice p n c) hrb
  have q0 := bcells hrb 0 _ rfl
  have q1 := bcells hrb 1 _ rfl
  have q2 := bcells hrb 2 _ rfl
  have fr0 := frozen_of (o := 0) hrb
  have fr1 := frozen_of (o := 1) hrb
  have fr2 := frozen_of (o := 2) hrb
  have t0 := bcells hfin.1 0 _ rfl
  have t1 := bcells hfin.1 1 _ rfl
  have t2 := bcells hfin.1 2 _ rfl
  have hrow2 := World.ownsRow.kept hrow hfin.2 (.inr (own_lt hrow (by omega)))
  have hins := IxRow.ins hrow2 (by
    have z0 : I64 0 := ⟨by decide, by decide⟩
    have z27 : I64 27 := ⟨by decide, by decide⟩
    intro x hx
    simp only [ins1, List.mem_cons, List.not_mem_nil, or_false] at hx
    rcases hx with rfl | rfl
    · exact ⟨z27, z0, z0, z0, z0, hs, z0⟩
    · exact ⟨⟨by decide, by decide⟩, ⟨by decide, by decide⟩, ⟨by decide, by decide⟩, ⟨by decide, by decide⟩, ⟨by decide, by decide⟩, by decide, ⟨by decide, by decide⟩⟩)
  have HF := hid' (And.intro hins (below_grown hbel hfin.2 (by omega) hbel.size))
  clear hrb hbel hfin hrow hrow2 hins hb6 H5 d0 d1 d2 d3
  go_wp2_with fail
  refine bodyPost_ret (v := .tuple #[.agg #[.int .i64 0, .slice none 0 0, .slice p n c], .int .i64 0]) ?_ rfl ?_
  · simp [results, Tryz.results15, go_sem, t0, t1, t2]
  · exact ⟨p, n, c, rfl, HF.out.1, HF.out.2⟩
end Go.Proofs.YtiejoapnljkjdaaGreatDoor

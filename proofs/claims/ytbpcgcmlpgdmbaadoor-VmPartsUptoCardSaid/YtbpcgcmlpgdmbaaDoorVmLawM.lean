/- Proved: appending rows that are read; the law VmParts. -/
import Derived.Test.YtbpcgcmlpgdmbaaDoorVmShownM
import Derived.Test.YtbpcgcmlpgdmbaaDoorVmStepM
import Derived.Deep.RegionHeld3
namespace Go.Proofs.YtbpcgcmlpgdmbaaDoor
open Go.RowKit
open Gen
open Rw
set_option linter.unusedVariables false
set_option linter.unusedSimpArgs false
set_option maxRecDepth 100000
namespace Vm
theorem step_some {c : Cd} {L : List (Int × Int)} {day : Int} {F : List Fd.Feed} {lab : ByteArray} {wh : Int} {s : St} (h : step c L day F lab wh = some s) : stepOk c L day F lab wh = true ∧ s = all c (env F day) (entryOf c lab wh) L st0 ∧ s.over = false := by
  unfold step at h
  split at h
  · rename_i hh
    have e := Option.some.inj h
    exact ⟨hh.1, e.symm, by rw [← e]; exact hh.2⟩
  · cases h
theorem step_parts {c : Cd} {A B : List (Int × Int)} {day : Int} {F : List Fd.Feed} {lab : ByteArray} {wh : Int} {s : St} (h : step c (A ++ B) day F lab wh = some s) :
    ∃ sA sB, step c A day F lab wh = some sA ∧ step c B day F lab wh = some sB ∧ s.holds = sA.holds ++ sB.holds ∧ s.out = sA.out ++ sB.out ∧ s.steps = sA.steps + sB.steps := by
  obtain ⟨hok, hs, ho⟩ := step_some h
  rw [hs] at ho
  obtain ⟨p1, p2, p3, p4, p5⟩ := parts c (env F day) (entryOf c lab wh) A B ho
  unfold stepOk at hok
  simp only [Bool.and_eq_true, decide_eq_true_eq, Bool.not_eq_true', List.any_append, Bool.or_eq_false_iff, List.length_append] at hok
  obtain ⟨h1, h2, h3, h4, h5, h6, h7⟩ := hok
  have ha : stepOk c A day F lab wh = true := by
    unfold stepOk
    simp only [Bool.and_eq_true, decide_eq_true_eq, Bool.not_eq_true']
    exact ⟨h1, h2, h3, h4, by omega, h6⟩
  have hb : stepOk c B day F lab wh = true := by
    unfold stepOk
    simp only [Bool.and_eq_true, decide_eq_true_eq, Bool.not_eq_true']
    exact ⟨h1, h2, h3, h4, by omega, h7⟩
  refine ⟨_, _, by unfold step; rw [if_pos ⟨ha, p1⟩], by unfold step; rw [if_pos ⟨hb, p2⟩], ?_, ?_, ?_⟩
  · rw [hs, p3]
  · rw [hs, p4]
  · rw [hs, p5]
end Vm
/-- A slice whose rows can be appended. -/
def Src {α : Type} (W : World) (f : α → List Value) (v : Value) (M : List α) : Prop := (v = .slice none 0 0 ∧ M = []) ∨ ∃ ad c, v = .slice (some ad) M.length c ∧ ∀ j u, (M.flatMap f)[j]? = some u → W.cell? (ad.add j) = some u
theorem Src.below {α : Type} {W W' : World} {f : α → List Value} {v : Value} {M : List α} (h : Src W f v M) (B : Below W.heap.size W W') : Src W' f v M := by
  rcases h with h | ⟨ad, c, e, hc⟩
  · exact .inl h
  · exact .inr ⟨ad, c, e, fun j u hj => keep_all B _ _ (hc j u hj)⟩
theorem src_row {α : Type} {base : Nat} {W : World} {e : TypeId} {z : Nat} {v : Value} {f : α → List Value} (hf : ∀ x, (f x).length = z) {L : List α} (h : W.ownsRow base e z v L.length (L.flatMap f)) : Src W f v L := by
  obtain ⟨h0, ⟨rfl, hz⟩ | ⟨g, cap, cur, rfl, h2, h3, h4, h5, h6, h7⟩⟩ := h
  · exact .inl ⟨rfl, List.length_eq_zero_iff.1 hz⟩
  · refine .inr ⟨_, cap, rfl, fun j u hj => ?_⟩
    rw [add_gen, Nat.zero_add]
    have := take_at h7 hj
    simp only [World.cell?, h3]
    rw [Array.getElem?_toList] at this
    simpa using this
theorem src_pairs {W : World} {v : Value} {L : List (Int × Int)} (h : StampsAt W v L) (hn : ∀ n c, v = .slice none n c → c = 0) : Src W hold2 v L := by
  obtain ⟨p, c, rfl, ⟨hl1, hl2⟩, hc⟩ := h
  cases p with
  | none =>
    obtain rfl := hn _ _ rfl
    have : L = [] := List.length_eq_zero_iff.1 (by omega)
    subst this
    exact .inl ⟨rfl, rfl⟩
  | some ad =>
    cases hL : L with
    | nil => exact .inr ⟨ad, c, rfl, fun j u hj => by simp at hj⟩
    | cons x0 t =>
      rw [← hL]
      obtain ⟨b, off, e, -⟩ := hc 0 x0 (by rw [hL]; rfl)
      obtain rfl := Option.some.inj e
      refine .inr ⟨_, c, rfl, fun j u hj => ?_⟩
      have hlt : j < L.length * 2 := by have := (List.getElem?_eq_some_iff.1 hj).1; rwa [cells_len hold2 2 (fun _ => rfl)] at this
      obtain ⟨x, hx⟩ : ∃ x, L[j / 2]? = some x := ⟨_, List.getElem?_eq_getElem (by omega)⟩
      obtain ⟨b', off', e', -, ⟨c0, c1⟩, -⟩ := hc _ x hx
      obtain ⟨rfl, rfl⟩ : b = b' ∧ off = off' := by simpa using e'
      have hat := cells_at hold2 2 (fun _ => rfl) L (j / 2) x (j % 2) hx (by omega)
      rw [show j / 2 * 2 + j % 2 = j by omega, hj] at hat
      rw [add_gen]
      rcases (by omega : j % 2 = 0 ∨ j % 2 = 1) with h0 | h0
      · rw [h0] at hat
        rw [show off + j = off + j / 2 * 2 by omega, c0, hat]; rfl
      · rw [h0] at hat
        rw [show off + j = off + j / 2 * 2 + 1 by omega, c1, hat]; rfl
theorem one2 (M : List (Int × Int)) : ∀ u ∈ M.flatMap hold2, u.oneCell' = true := by
  intro u hu
  obtain ⟨x, -, hx⟩ := List.mem_flatMap.1 hu
  simp only [hold2, List.mem_cons, List.not_mem_nil, or_false] at hx
  rcases hx with rfl | rfl <;> rfl
theorem one3 (day : Int) (M : List (ByteArray × Int)) : ∀ u ∈ M.flatMap (tran3 day), u.oneCell' = true := by
  intro u hu
  obtain ⟨x, -, hx⟩ := List.mem_flatMap.1 hu
  simp only [tran3, List.mem_cons, List.not_mem_nil, or_false] at hx
  rcases hx with rfl | rfl | rfl <;> rfl
theorem step_holds {w : World} {ops : Array Oper} {o : Oper} {a : Act} {K : Act → World → Prop} {Q : Exit → Act → World → Prop} {E : Prop} (hgd : o.guard = none) (s x : Operand)
    (ho : o.op = .call { callee := .builtin .append, args := #[s, x], argTypes := #[26, 26] })
    (base : Nat) (v : Value) (L M : List (Int × Int)) (hs : a.eval s = v) (hown : HoldRow base w v L) (xv : Value) (hx : a.eval x = xv) (hM : Src w hold2 xv M)
    (hbound : L.length + M.length ≤ 4000000) (hbase : base ≤ w.heap.size)
    (h : ∀ v' w', HoldRow base w' v' (L ++ M) → w.grownBy w' v.ownBlock → K (a.put o.dst v') w') :
    if Region.wanted o (yielded ops a.tmps) = true then Oper.wp Tryd.prog o a w K Q else E := by
  have hw : Region.wanted o (yielded ops a.tmps) = true := by simp [Region.wanted, hgd]
  rw [if_pos hw]
  obtain ⟨i, hi, hz, hsz, hby⟩ := info_split info_hold
  subst hx
  rcases hM with ⟨hxe, rfl⟩ | ⟨ad, c, hxe, hM⟩
  · have hrun := run_append_owned_none (P := Tryd.prog) (w := w) base 26 o.type 49 i 2 Tryd.underlying26 hi v L.length (L.flatMap hold2) hown
    have hk := h v w (by rw [List.append_nil]; exact hown) (grown_refl _ _)
    unfold Oper.wp
    simp [execOp, ho, resolve, invoke, builtin, hs, hxe, hrun, Result.andThen]
    exact hk
  · refine wp_append_own _ s x 26 ho base 49 i _ 2 16 Tryd.underlying26 hi hz hsz hby rfl (by decide) v L.length _ hs hown ad M.length c (M.flatMap hold2) hxe (cells_len hold2 2 (fun _ => rfl) M) hM (one2 M)
      (by unfold maxLen; omega) (by omega) hbase (fun v' w' h1 h2 _ => h v' w' ?_ h2)
    show World.ownsRow w' base _ 2 v' (L ++ M).length ((L ++ M).flatMap hold2)
    rw [List.length_append, List.flatMap_append]
    exact h1
theorem step_trans {w : World} {ops : Array Oper} {o : Oper} {a : Act} {K : Act → World → Prop} {Q : Exit → Act → World → Prop} {E : Prop} (hgd : o.guard = none) (s x : Operand)
    (ho : o.op = .call { callee := .builtin .append, args := #[s, x], argTypes := #[31, 31] })
    (base : Nat) (v : Value) (day : Int) (L M : List (ByteArray × Int)) (hs : a.eval s = v) (hown : TranRow base w v day L) (xv : Value) (hx : a.eval x = xv) (hM : Src w (tran3 day) xv M)
    (hbound : L.length + M.length ≤ 4000000) (hbase : base ≤ w.heap.size)
    (h : ∀ v' w', TranRow base w' v' day (L ++ M) → w.grownBy w' v.ownBlock → K (a.put o.dst v') w') :
    if Region.wanted o (yielded ops a.tmps) = true then Oper.wp Tryd.prog o a w K Q else E := by
  have hw : Region.wanted o (yielded ops a.tmps) = true := by simp [Region.wanted, hgd]
  rw [if_pos hw]
  obtain ⟨i, hi, hz, hsz, hby⟩ := info_split info_tran
  subst hx
  rcases hM with ⟨hxe, rfl⟩ | ⟨ad, c, hxe, hM⟩
  · have hrun := run_append_owned_none (P := Tryd.prog) (w := w) base 31 o.type 42 i 3 Tryd.underlying31 hi v L.length (L.flatMap (tran3 day)) hown
    have hk := h v w (by rw [List.append_nil]; exact hown) (grown_refl _ _)
    unfold Oper.wp
    simp [execOp, ho, resolve, invoke, builtin, hs, hxe, hrun, Result.andThen]
    exact hk
  · refine wp_append_own _ s x 31 ho base 42 i _ 3 32 Tryd.underlying31 hi hz hsz hby rfl (by decide) v L.length _ hs hown ad M.length c (M.flatMap (tran3 day)) hxe (cells_len (tran3 day) 3 (fun _ => rfl) M) hM (one3 day M)
      (by unfold maxLen; omega) (by omega) hbase (fun v' w' h1 h2 _ => h v' w' ?_ h2)
    show World.ownsRow w' base _ 3 v' (L ++ M).length ((L ++ M).flatMap (tran3 day))
    rw [List.length_append, List.flatMap_append]
    exact h1
theorem make_holds (W : World) (n : Nat) (hn : n ≤ 4000000) : (Instr.makeSlice 26 (.int .i64 0) (.int .i64 (n : Int))).run Tryd.prog W = .ok (.slice (some ⟨W.heap.size, 0, none⟩) 0 n) (W.alloc (.cells (madeCells (Value.agg #[.int .i64 0, .int .i64 0]).cells (n * 2)) 49)) := by
  obtain ⟨i0, q1, q2, q3, q4⟩ := info_split info_hold
  have := run_make (P := Tryd.prog) (w := W) 26 49 i0 _ Tryd.underlying26 q1 q2 .i64 .i64 0 (n : Int) (by omega) (by omega) (by rw [q4]; omega) (by omega)
  rw [q3, Int.toNat_natCast] at this
  exact this
theorem made_holds (W : World) (n : Nat) (hn : n ≤ 4000000) : HoldRow W.heap.size (W.alloc (.cells (madeCells (Value.agg #[.int .i64 0, .int .i64 0]).cells (n * 2)) 49)) (.slice (some ⟨W.heap.size, 0, none⟩) 0 n) [] :=
  World.ownsRow_made W _ n (Nat.le_refl _) (by unfold maxLen; omega) (by simp [madeCells])
theorem make_trans (W : World) (n : Nat) (hn : n ≤ 4000000) : (Instr.makeSlice 31 (.int .i64 0) (.int .i64 (n : Int))).run Tryd.prog W = .ok (.slice (some ⟨W.heap.size, 0, none⟩) 0 n) (W.alloc (.cells (madeCells (Value.agg #[.int .i64 0, .string ⟨#[]⟩, .int .i64 0]).cells (n * 3)) 42)) := by
  obtain ⟨i0, q1, q2, q3, q4⟩ := info_split info_tran
  have := run_make (P := Tryd.prog) (w := W) 31 42 i0 _ Tryd.underlying31 q1 q2 .i64 .i64 0 (n : Int) (by omega) (by omega) (by rw [q4]; omega) (by omega)
  rw [q3, Int.toNat_natCast] at this
  exact this
theorem made_trans (W : World) (day : Int) (n : Nat) (hn : n ≤ 4000000) : TranRow W.heap.size (W.alloc (.cells (madeCells (Value.agg #[.int .i64 0, .string ⟨#[]⟩, .int .i64 0]).cells (n * 3)) 42)) (.slice (some ⟨W.heap.size, 0, none⟩) 0 n) day [] :=
  World.ownsRow_made W _ n (Nat.le_refl _) (by unfold maxLen; omega) (by simp [madeCells])
/-- What a row's growth keeps. -/
theorem below_row {base z n : Nat} {w W W' : World} {t : TypeId} {v : Value} {xs : List Value} (h : Below base w W) (row : W.ownsRow base t z v n xs) (hb : base ≤ W.heap.size) (g : W.grownBy W' v.ownBlock) : Below base w W' :=
  h.trans ⟨g.os, g.tape, g.output, g.size, fun k hk => g.block k (Nat.lt_of_lt_of_le hk hb) fun e => own_lt row hk e.symm⟩
set_option maxHeartbeats 8000000 in
theorem law_parts (c : Gen.Cd) (A B : List (Int × Int)) (day : Int) (F : List Fd.Feed) (lab : ByteArray) (wh : Int) (vw vi va vb vf : Value) (w : World) (hc : CdAt w (.agg #[.int .i64 c.regs, vw, vi]) c) (hA : StampsAt w va A) (hB : StampsAt w vb B)
    (hAn : ∀ n k, va = .slice none n k → k = 0) (hBn : ∀ n k, vb = .slice none n k → k = 0) (hF : FeedsAt w vf F) (hlab : lab.size ≤ 2000000) (hAB : A.length + B.length ≤ 4000000) :
    Calls Tryd.prog 3 #[.agg #[.int .i64 c.regs, vw, vi], va, vb, .int .i64 day, vf, .agg #[.string lab, .int .i64 wh]] w (True1 w) := by
  have HCD := hid' hc
  have HA := hid' hA
  have HB := hid' hB
  have HSA := hid' (src_pairs hA hAn)
  have HSB := hid' (src_pairs hB hBn)
  have HFS := hid' hF
  have HLAB := hid' hlab
  have HAB := hid' hAB
  obtain ⟨wp, wk, rfl⟩ : ∃ wp wk, vw = .slice wp c.waits.length wk := by
    obtain ⟨vw', vi', e, ⟨p, cc, e2, h2, _⟩, _⟩ := hc
    simp only [Value.agg.injEq, Array.mk.injEq, List.cons.injEq, and_true, true_and] at e
    obtain ⟨rfl, rfl⟩ := e
    exact ⟨p, cc, e2⟩
  obtain ⟨ip, ic, rfl⟩ : ∃ ip ic, vi = .slice ip c.ins.length ic := by
    obtain ⟨vw', vi', e, _, ⟨p, cc, e2, _, _⟩, _⟩ := hc
    simp only [Value.agg.injEq, Array.mk.injEq, List.cons.injEq, and_true, true_and] at e
    obtain ⟨rfl, rfl⟩ := e
    exact ⟨p, cc, e2⟩
  obtain ⟨ap, ac, rfl, -, -⟩ := hA
  obtain ⟨bp, bc, rfl, -, -⟩ := hB
  obtain ⟨fp, fc, rfl, -, -⟩ := hF
  have HFA := hid' (show ∀ (i : Nat) x, A[i]? = some x → I64 x.1 ∧ I64 x.2 from by
    obtain ⟨p, k, e, _, h⟩ := HA.out
    intro i x hx
    obtain ⟨_, _, _, _, _, h1⟩ := h i x hx
    exact h1)
  have HFB := hid' (show ∀ (i : Nat) x, B[i]? = some x → I64 x.1 ∧ I64 x.2 from by
    obtain ⟨p, k, e, _, h⟩ := HB.out
    intro i x hx
    obtain ⟨_, _, _, _, _, h1⟩ := h i x hx
    exact h1)
  have B0 := ((Below.refl w.heap.size w).alloc (Nat.le_refl _) (.cells #[.int .i64 c.regs, .slice wp c.waits.length wk, .slice ip c.ins.length ic] 25)).alloc (by simp) (.cells #[.string lab, .int .i64 wh] 29)
  have HB0 := hid' B0
  have HC5 := hid' (show ((w.alloc (.cells #[.int .i64 c.regs, .slice wp c.waits.length wk, .slice ip c.ins.length ic] 25)).alloc (.cells #[.string lab, .int .i64 wh] 29)).heap[w.heap.size]? = some (.cells #[.int .i64 c.regs, .slice wp c.waits.length wk, .slice ip c.ins.length ic] 25 (0, 0)) from (two_boxes w _ _).1)
  have HC9 := hid' (show ((w.alloc (.cells #[.int .i64 c.regs, .slice wp c.waits.length wk, .slice ip c.ins.length ic] 25)).alloc (.cells #[.string lab, .int .i64 wh] 29)).heap[w.heap.size + 1]? = some (.cells #[.string lab, .int .i64 wh] 29 (0, 0)) from by
    have := heap_alloc_new (w.alloc (.cells #[.int .i64 c.regs, .slice wp c.waits.length wk, .slice ip c.ins.length ic] 25)) (.cells #[.string lab, .int .i64 wh] 29)
    rwa [World.size_alloc] at this)
  have HSH := hid' (fun W => shown18_any W)
  clear B0 hc hlab hAB hAn hBn
  go_enter Tryd.func3, Tryd.ntmps3
  go_upto_region 1 with (fail)
  obtain ⟨b6, hb6⟩ : ∃ b6, b6 = w.heap.size := ⟨_, rfl⟩
  rw [← hb6] at HC5 HC9 ⊢
  clear hb6
  generalize (w.alloc (.cells #[.int .i64 c.regs, .slice wp c.waits.length wk, .slice ip c.ins.length ic] 25)).alloc (.cells #[.string lab, .int .i64 wh] 29) = w2 at *
  go_upto_region 2 with (go_at_call 4; refine (HSH.out _).mono ?_; rintro e w3 ⟨rfl, b3⟩; have HB3 := hid' b3; clear b3)
  have HB03 := hid' (Below.more HB0.out HB3.out)
  have H5 := hid' (box_below HB3.out HC5.out)
  have H9 := hid' (box_below HB3.out HC9.out)
  clear HC5 HC9 HB0 HB3
  have HK := hid' (fun (W : World) (b : Below w3.heap.size w3 W) => And.intro (bcells (box_below b H5.out) 0 _ rfl) (And.intro (bcells (box_below b H5.out) 1 _ rfl) (And.intro (bcells (box_below b H5.out) 2 _ rfl) (And.intro (bcells (box_below b H9.out) 0 _ rfl) (bcells (box_below b H9.out) 1 _ rfl)))))
  have hbx := (Below.refl w3.heap.size w3).drew
  have HBX := hid' (((Below.refl w3.heap.size w3).drew).alloc (Nat.le_refl _) (.cells (madeCells (Value.agg #[.int .i64 0, .int .i64 0]).cells ((A.length + B.length) * 2)) 49))
  have vsum : IntKind.i64.wrap ((A.length : Int) + (B.length : Int)) = (A.length : Int) + (B.length : Int) := IntWalk.i64_in _ (by have := HAB.out; omega)
  have hmk : ∀ W : World, (Instr.makeSlice 26 (.int .i64 0) (.int .i64 ((A.length : Int) + (B.length : Int)))).run Tryd.prog W = .ok (.slice (some ⟨W.heap.size, 0, none⟩) 0 (A.length + B.length)) (W.alloc (.cells (madeCells (Value.agg #[.int .i64 0, .int .i64 0]).cells ((A.length + B.length) * 2)) 49)) := fun W => by have := make_holds W (A.length + B.length) HAB.out; rw [show ((A.length + B.length : Nat) : Int) = (A.length : Int) + (B.length : Int) by omega] at this; exact this
  have HMD := hid' (made_holds w3.drew (A.length + B.length) HAB.out)
  have HST := hid' (fun (v : Value) (W : World) (b : Below w3.heap.size w3 W) (row : HoldRow w3.heap.size W v (A ++ B)) => step_any c (A ++ B) day F lab wh _ _ v _ W ((HCD.out.below HB03.out).below b) (by
    obtain ⟨p, k, e, hcl⟩ := row_cells (f := hold2) (fun _ => rfl) row
    have hcap := row.2
    refine ⟨p, k, e, ?_, fun i x hx => ?_⟩
    · rcases row.2 with ⟨e1, hz⟩ | ⟨g, cap, cur, e1, _, _, h4, h5, _⟩
      · rw [e] at e1
        obtain ⟨-, e2, e3⟩ := Value.slice.inj e1
        rw [e2, e3]
        exact ⟨Nat.le_refl _, Nat.zero_le _⟩
      · rw [e] at e1
        obtain ⟨-, -, rfl⟩ := Value.slice.inj e1
        exact ⟨h4, h5⟩
    · obtain ⟨g, rfl, hg, hj⟩ := hcl i x hx
      have hi64 : I64 x.1 ∧ I64 x.2 := by
        rcases Nat.lt_or_ge i A.length with hlt | hge
        · rw [List.getElem?_append_left hlt] at hx; exact HFA.out i x hx
        · rw [List.getElem?_append_right hge] at hx; exact HFB.out _ x hx
      exact ⟨g, 0, rfl, hg, ⟨hj 0 _ (by omega) rfl, hj 1 _ (by omega) rfl⟩, hi64⟩) ((HFS.out.below HB03.out).below b) HLAB.out)
  have HWK := hid' (fun (L : List (Int × Int)) (v : Value) (W : World) (b : Below w3.heap.size w3 W) (h : StampsAt W v L) => (show Calls Tryd.prog 5 #[.agg #[.int .i64 c.regs, .slice wp c.waits.length wk, .slice ip c.ins.length ic], v, .int .i64 day, .slice fp F.length fc, .agg #[.string lab, .int .i64 wh]] W (fun e w' => (∃ hv ov n er, e = .returned (.tuple #[hv, ov, .int .i64 n, .int .i64 er])) ∧ Below W.heap.size W w') from
    (step_any c L day F lab wh _ _ v _ W ((HCD.out.below HB03.out).below b) h ((HFS.out.below HB03.out).below b) HLAB.out).mono (by
      rintro e w' ⟨hb, hp⟩
      refine ⟨?_, hb⟩
      cases hs : Vm.step c L day F lab wh with
      | none => rw [hs] at hp; exact ⟨_, _, _, _, hp⟩
      | some st => rw [hs] at hp; obtain ⟨_, vh, vo, he, _⟩ := hp; exact ⟨_, _, _, _, he⟩)))
  cases hR : Vm.step c (A ++ B) day F lab wh with
  | none =>
    rw [hR] at HST
    clear hR
    go_region_held3 (fun w' => w'.cell? ⟨b6, 0, none⟩ = some (.int .i64 c.regs) ∧ w'.cell? ⟨b6, 1, none⟩ = some (.slice wp c.waits.length wk) ∧ w'.cell? ⟨b6, 2, none⟩ = some (.slice ip c.ins.length ic) ∧ w'.cell? ⟨b6 + 1, 0, none⟩ = some (.string lab) ∧ w'.cell? ⟨b6 + 1, 1, none⟩ = some (.int .i64 wh) ∧ Below w3.heap.size w3 w')
      (first | exact ⟨(HK.out _ hbx).1, (HK.out _ hbx).2.1, (HK.out _ hbx).2.2.1, (HK.out _ hbx).2.2.2.1, (HK.out _ hbx).2.2.2.2, hbx⟩ | exact ⟨(HK.out _ HBX.out).1, (HK.out _ HBX.out).2.1, (HK.out _ HBX.out).2.2.1, (HK.out _ HBX.out).2.2.2.1, (HK.out _ HBX.out).2.2.2.2, HBX.out⟩)
      (first | (refine step_holds rfl _ _ (by rfl) w3.heap.size _ [] A (by rfl) HMD.out _ (by rfl) ((HSA.out.below HB03.out).below HBX.out) (by have := HAB.out; simp; omega) HBX.out.size ?_; intro v4 w4 h5 h6; have hbx := below_row HBX.out HMD.out HBX.out.size h6) | (refine step_holds rfl _ _ (by rfl) w3.heap.size v4 _ B (by rfl) h5 _ (by rfl) ((HSB.out.below HB03.out).below hbx) (by have := HAB.out; simp; omega) hbx.size ?_; intro v5 w5 h7 h8; have hbx := below_row hbx h5 hbx.size h8) | (go_at_call 5; refine (HST.out v5 _ hbx h7).mono ?_; rintro e w6 ⟨b6', he⟩; replace he := he.trans (show Ending.returned nilOut = Ending.returned (.tuple #[.slice none 0 0, .slice none 0 0, .int .i64 0, .int .i64 180]) from rfl); subst he; have hbx := Below.more hbx b6'))
    all_goals have HB6 := hid' hbx
    all_goals clear hbx
    all_goals obtain ⟨d0, d1, d2, p0, p1⟩ := HK.out _ HB6.out
    all_goals go_upto_region 4 with (go_at_call 5; refine (HWK.out A _ _ HB6.out ((HA.out.below HB03.out).below HB6.out)).mono ?_; rintro e w7 ⟨⟨hv1, ov1, n1, er1, rfl⟩, b7⟩; have HB7 := hid' (Below.more HB6.out b7); clear b7)
    all_goals clear d0 d1 d2 p0 p1
    all_goals obtain ⟨d0, d1, d2, p0, p1⟩ := HK.out _ HB7.out
    all_goals go_wp2_with (go_at_call 5; refine (HWK.out B _ _ HB7.out ((HB.out.below HB03.out).below HB7.out)).mono ?_; rintro e w8 ⟨⟨hv2, ov2, n2, er2, rfl⟩, b8⟩; have HB8 := hid' (Below.more HB7.out b8); clear b8)
    all_goals go_ret
    all_goals exact ⟨rfl, Below.more HB03.out HB8.out⟩
  | some st =>
    rw [hR] at HST
    obtain ⟨sA, sB, eA, eB, e1, e2, e3⟩ := Vm.step_parts hR
    have HE := hid' (And.intro e1 (And.intro e2 e3))
    have HEA := hid' eA
    have HEB := hid' eB
    clear hR e1 e2 e3 eA eB
    first
      | (go_region_held3 (fun w' => w'.cell? ⟨b6, 0, none⟩ = some (.int .i64 c.regs) ∧ w'.cell? ⟨b6, 1, none⟩ = some (.slice wp c.waits.length wk) ∧ w'.cell? ⟨b6, 2, none⟩ = some (.slice ip c.ins.length ic) ∧ w'.cell? ⟨b6 + 1, 0, none⟩ = some (.string lab) ∧ w'.cell? ⟨b6 + 1, 1, none⟩ = some (.int .i64 wh) ∧ Below w3.heap.size w3 w') (first | exact ⟨(HK.out _ hbx).1, (HK.out _ hbx).2.1, (HK.out _ hbx).2.2.1, (HK.out _ hbx).2.2.2.1, (HK.out _ hbx).2.2.2.2, hbx⟩ | exact ⟨(HK.out _ HBX.out).1, (HK.out _ HBX.out).2.1, (HK.out _ HBX.out).2.2.1, (HK.out _ HBX.out).2.2.2.1, (HK.out _ HBX.out).2.2.2.2, HBX.out⟩) (first | (refine step_holds rfl _ _ (by rfl) w3.heap.size _ [] A (by rfl) HMD.out _ (by rfl) ((HSA.out.below HB03.out).below HBX.out) (by have := HAB.out; simp; omega) HBX.out.size ?_; intro v4 w4 h5 h6; have hbx := below_row HBX.out HMD.out HBX.out.size h6) | (refine step_holds rfl _ _ (by rfl) w3.heap.size v4 _ B (by rfl) h5 _ (by rfl) ((HSB.out.below HB03.out).below hbx) (by have := HAB.out; simp; omega) hbx.size ?_; intro v5 w5 h7 h8; have hbx := below_row hbx h5 hbx.size h8) | (go_at_call 5; refine (HST.out v5 _ hbx h7).mono ?_; rintro e w6 ⟨b6', hok6, vh6, vo6, rfl, hh6, ht6⟩; obtain ⟨hp6, hc6, rfl⟩ := row_form hh6; obtain ⟨op6, oc6, rfl⟩ := row_form ht6; have hbx := Below.more hbx b6')))
      | fail
    all_goals
      have HB6 := hid' hbx
      have hl6 := hok6.holds
      have ho6 := hok6.out
      have hm6 := hok6.most
      have HH6 := hid' (hh6.seen (by omega))
      have HT6 := hid' (ht6.seen (by omega))
      have HLN := hid' (show st.holds.length ≤ 200000 ∧ st.out.length ≤ 200000 from ⟨by omega, by omega⟩)
      clear hbx hok6 hl6 ho6 hm6 hh6 ht6
      obtain ⟨d0, d1, d2, p0, p1⟩ := HK.out _ HB6.out
      have HA3 := hid' (step_any c A day F lab wh _ _ _ _ w6 ((HCD.out.below HB03.out).below HB6.out) ((HA.out.below HB03.out).below HB6.out) ((HFS.out.below HB03.out).below HB6.out) HLAB.out)
      rw [HEA.out] at HA3
      go_upto_region 4 with (go_at_call 5; refine HA3.out.mono ?_; rintro e w7 ⟨b7, hok7, vh7, vo7, rfl, hh7, ht7⟩; obtain ⟨hp7, hc7, rfl⟩ := row_form hh7; obtain ⟨op7, oc7, rfl⟩ := row_form ht7; have HB7 := hid' (Below.more HB6.out b7); have HH7 := hid' (HH6.out.below b7); have HT7 := hid' (HT6.out.below b7); have HSA7 := hid' (src_row (f := hold2) (fun _ => rfl) hh7); have HSO7 := hid' (src_row (f := tran3 day) (fun _ => rfl) ht7); have HM7 := hid' hok7; clear b7 hok7 hh7 ht7)
      clear d0 d1 d2 p0 p1 HA3 HH6 HT6
      obtain ⟨d0, d1, d2, p0, p1⟩ := HK.out _ HB7.out
      have HB3' := hid' (step_any c B day F lab wh _ _ _ _ w7 ((HCD.out.below HB03.out).below HB7.out) ((HB.out.below HB03.out).below HB7.out) ((HFS.out.below HB03.out).below HB7.out) HLAB.out)
      rw [HEB.out] at HB3'
      go_upto_region 5 with (go_at_call 5; refine HB3'.out.mono ?_; rintro e w8 ⟨b8, hok8, vh8, vo8, rfl, hh8, ht8⟩; obtain ⟨hp8, hc8, rfl⟩ := row_form hh8; obtain ⟨op8, oc8, rfl⟩ := row_form ht8; have HB8 := hid' (Below.more HB7.out b8); have HH8 := hid' (HH7.out.below b8); have HT8 := hid' (HT7.out.below b8); have HSA8 := hid' (HSA7.out.below b8); have HSO8 := hid' (HSO7.out.below b8); have HSB8 := hid' (src_row (f := hold2) (fun _ => rfl) hh8); have HSP8 := hid' (src_row (f := tran3 day) (fun _ => rfl) ht8); have HM8 := hid' hok8; clear b8 hok8 hh8 ht8)
      clear d0 d1 d2 p0 p1 HB3' HH7 HT7 HSA7 HSO7
      have HBR := hid' (Below.more HB03.out HB8.out)
      clear HB8 HB7 HB6 HK H5 H9
      have lA := HM7.out.holds
      have oA := HM7.out.out
      have sA1 := HM7.out.most
      have lB := HM8.out.holds
      have oB := HM8.out.out
      have sB1 := HM8.out.most
      have HBD := hid' (show sA.holds.length + sB.holds.length ≤ 4000000 ∧ sA.out.length + sB.out.length ≤ 4000000 ∧ sA.steps ≤ 200000 ∧ sB.steps ≤ 200000 from ⟨by omega, by omega, sA1, sB1⟩)
      clear lA oA sA1 lB oB sB1 hmk vsum HMD HBX HST HWK HSH HSA HSB HFA HFB
      have hmk : ∀ W : World, (Instr.makeSlice 26 (.int .i64 0) (.int .i64 (st.holds.length : Int))).run Tryd.prog W = .ok (.slice (some ⟨W.heap.size, 0, none⟩) 0 st.holds.length) (W.alloc (.cells (madeCells (Value.agg #[.int .i64 0, .int .i64 0]).cells (st.holds.length * 2)) 49)) := fun W => make_holds W st.holds.length (by have := HLN.out.1; omega)
      have HMD := hid' (made_holds w8 st.holds.length (by have := HLN.out.1; omega))
      have HBX := hid' ((Below.refl w8.heap.size w8).alloc (Nat.le_refl _) (.cells (madeCells (Value.agg #[.int .i64 0, .int .i64 0]).cells (st.holds.length * 2)) 49))
      go_upto_region 8 with (first | (refine wpList_step (fun K hK => ?_); refine step_holds rfl _ _ (by rfl) w8.heap.size _ [] sA.holds (by rfl) HMD.out _ (by rfl) (HSA8.out.below HBX.out) (by have := HBD.out.1; simp; omega) HBX.out.size ?_; intro v9 w9 h9 g9; obtain ⟨p9, c9, rfl⟩ := row_form h9; have HB9 := hid' (below_row HBX.out HMD.out HBX.out.size g9); refine hK _ _ ?_; clear hK K) | (refine wpList_step (fun K hK => ?_); refine step_holds rfl _ _ (by rfl) w8.heap.size _ _ sB.holds (by rfl) h9 _ (by rfl) (HSB8.out.below HB9.out) (by have := HBD.out.1; simp; omega) HB9.out.size ?_; intro va wa ha ga; obtain ⟨pa, ca, rfl⟩ := row_form ha; have HBA := hid' (below_row HB9.out h9 HB9.out.size ga); refine hK _ _ ?_; clear hK K))
      have HHA := hid' (ha.seen (by have := HBD.out.1; simp only [List.nil_append, List.length_append]; have := HE.out.1; have := HLN.out.1; rw [HE.out.1, List.length_append] at this; omega))
      have HBW := hid' HBA.out
      clear h9 g9 ha ga hmk HMD HBX
      have HOC := hid' (HSO8.out.below HBW.out)
      have HPC := hid' (HSP8.out.below HBW.out)
      have HT9 := hid' (HT8.out.below HBW.out)
      have HH9 := hid' (HH8.out.below HBW.out)
      have HBT := hid' (Below.more HBR.out HBW.out)
      clear HB9 HBA HSA8 HSB8 HSO8 HSP8 HH8 HT8
      have hmk : ∀ W : World, (Instr.makeSlice 31 (.int .i64 0) (.int .i64 (st.out.length : Int))).run Tryd.prog W = .ok (.slice (some ⟨W.heap.size, 0, none⟩) 0 st.out.length) (W.alloc (.cells (madeCells (Value.agg #[.int .i64 0, .string ⟨#[]⟩, .int .i64 0]).cells (st.out.length * 3)) 42)) := fun W => make_trans W st.out.length (by have := HLN.out.2; omega)
      have HMD := hid' (made_trans wa day st.out.length (by have := HLN.out.2; omega))
      have HBX := hid' ((Below.refl wa.heap.size wa).alloc (Nat.le_refl _) (.cells (madeCells (Value.agg #[.int .i64 0, .string ⟨#[]⟩, .int .i64 0]).cells (st.out.length * 3)) 42))
      go_upto_region 9 with (first | (refine wpList_step (fun K hK => ?_); refine step_trans rfl _ _ (by rfl) wa.heap.size _ day [] sA.out (by rfl) HMD.out _ (by rfl) (HOC.out.below HBX.out) (by have := HBD.out.2.1; simp; omega) HBX.out.size ?_; intro v9 w9 h9 g9; obtain ⟨p9, c9, rfl⟩ := row_form h9; have HB9 := hid' (below_row HBX.out HMD.out HBX.out.size g9); refine hK _ _ ?_; clear hK K) | (refine wpList_step (fun K hK => ?_); refine step_trans rfl _ _ (by rfl) wa.heap.size _ day _ sB.out (by rfl) h9 _ (by rfl) (HPC.out.below HB9.out) (by have := HBD.out.2.1; simp; omega) HB9.out.size ?_; intro vz wz hz gz; obtain ⟨pz, cz, rfl⟩ := row_form hz; have HBZ := hid' (below_row HB9.out h9 HB9.out.size gz); refine hK _ _ ?_; clear hK K))
      have HTA := hid' (hz.seen (by simp only [List.nil_append, List.length_append]; have := HLN.out.2; rw [HE.out.2.1, List.length_append] at this; omega))
      have HHZ := hid' (HHA.out.below HBZ.out)
      have HH10 := hid' (HH9.out.below HBZ.out)
      have HT10 := hid' (HT9.out.below HBZ.out)
      have HBU := hid' (Below.more HBT.out HBZ.out)
      clear h9 g9 hz gz hmk HMD HBX HB9 HBZ HBT HBW HHA HH9 HT9 HOC HPC
      simp only [List.nil_append] at HTA HHZ
      have hh := HH10.out
      rw [HE.out.1] at hh
      have ht := HT10.out
      rw [HE.out.2.1] at ht
      have HSH := hid' (show Calls Tryd.prog 6 #[.slice hp6 st.holds.length hc6, .slice pa (sA.holds.length + sB.holds.length) ca] wz (True1 wz) from by
        have := sameHolds_yes _ _ _ wz hh HHZ.out
        rw [List.length_append] at this
        rw [HE.out.1, List.length_append]
        exact this)
      have HST := hid' (fun (W : World) (b : Below wz.heap.size wz W) => show Calls Tryd.prog 7 #[.slice op6 st.out.length oc6, .slice pz (sA.out.length + sB.out.length) cz] W (True1 W) from by
        have := sameTrans_yes _ _ day _ W (ht.below b) (HTA.out.below b)
        rw [List.length_append] at this
        rw [HE.out.2.1, List.length_append]
        exact this)
      have gst : IntKind.i64.wrap ((sA.steps : Int) + (sB.steps : Int)) = (st.steps : Int) := by rw [HE.out.2.2, IntWalk.i64_in _ (by have := HBD.out.2.2; omega)]; omega
      have gst2 : ((st.steps : Int) == (st.steps : Int)) = true := beq_self_eq_true _
      clear hh ht HTA HHZ HH10 HT10
      go_wp2_with (first | (go_at_call 6; refine HSH.out.mono ?_; rintro e wy ⟨rfl, by1⟩; have HBY := hid' by1; clear by1) | (go_at_call 7; refine (HST.out _ HBY.out).mono ?_; rintro e wx ⟨rfl, bx1⟩; have HBX1 := hid' (Below.more HBY.out bx1); clear bx1))
      go_ret
      exact ⟨rfl, Below.more HBU.out HBX1.out⟩
end Go.Proofs.YtbpcgcmlpgdmbaaDoor

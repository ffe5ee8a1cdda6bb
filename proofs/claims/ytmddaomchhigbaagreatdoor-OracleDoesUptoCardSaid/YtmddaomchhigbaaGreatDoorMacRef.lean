/- The reference's Sum. -/
import Derived.Test.YtmddaomchhigbaaGreatDoorMacWords
import Derived.Test.YtmddaomchhigbaaGreatDoorMacPadded
import Derived.Deep.RegionHeld3
namespace Go.Proofs.YtmddaomchhigbaaGreatDoor
open Go.RowKit
set_option linter.unusedVariables false
set_option maxRecDepth 100000

theorem kcells_size : kcells.size = 64 := by rw [kcells, List.size_toArray, List.length_map]; rfl
theorem kcells_one : kcells.all (·.oneCell') = true := by simp [kcells, Value.oneCell']
set_option maxRecDepth 100000 in
set_option maxHeartbeats 2000000 in
theorem constants_any (w : World) : Calls Tryz.prog 63 #[] w fun e w' => e = .returned (.agg kcells) ∧ Below w.heap.size w w' := by
  go_enter Tryz.func63, Tryz.ntmps63
  go_wp2_with (first | (refine wpList_build rfl 113 _ rfl (by kernel_rfl) ?_; refine halt' ?_) | fail)
  refine hid' ?_
  generalize hg : Option.getD (Program.built _ _ _) _ = cs
  obtain rfl : cs = kcells := by
    rw [← hg]
    kernel_rfl
  clear hg
  go_wp2_with (first
    | (refine wpList_store_row rfl 113 (.tmp 0) (.tmp 1) rfl w.heap.size kcells rfl rfl 113 _ (heap_new_at _ _ rfl) (by kernel_rfl) (by rw [kcells_size]; rfl) kcells_one ?_)
    | fail)
  exact bodyPost_ret (results_cell_row rfl _ _ w.heap.size 113 kcells (0, 0) _ rfl (setRow_heap _ _ _ _ _ _ (heap_new_at _ _ rfl)) Tryz.underlying113 rfl (by kernel_rfl)) rfl ⟨rfl, below_setRow ((Below.refl _ _).alloc (Nat.le_refl _) _) (Nat.le_refl _) _⟩

/-- What stands at the head of the round n of the outer loop. -/
structure RefAt (w wr : World) (Bk Bh g : Nat) (L : List Int) (n : Nat) : Prop where
  bel : Below w.heap.size w wr
  bk : wr.heap[Bk]? = some (.cells kcells 113 (0, 0))
  bh : wr.heap[Bh]? = some (.cells (eight (Sha.st L n)) 115 (0, 0))
  cells : ∀ i, i < L.length → wr.cell? ⟨g, i, none⟩ = some (.int .u8 (L.getD i 0))
  gl : g < wr.heap.size
theorem RefAt.below {w wr w' : World} {Bk Bh g : Nat} {L : List Int} {n : Nat} (R : RefAt w wr Bk Bh g L n) (hb : Below wr.heap.size wr w') : RefAt w w' Bk Bh g L n :=
  ⟨R.bel.trans (hb.mono R.bel.size), (hb.block _ (lt_of_block R.bk)).trans R.bk, (hb.block _ (lt_of_block R.bh)).trans R.bh, fun i hi => (hb.cell (p := ⟨g, i, none⟩) R.gl).trans (R.cells i hi), Nat.lt_of_lt_of_le R.gl hb.size⟩
theorem be8_byte' (n : Int) : ∀ x ∈ Sha.be8 n, 0 ≤ x ∧ x ≤ 255 := by
  intro x hx
  simp only [Sha.be8, List.mem_cons, List.not_mem_nil, or_false] at hx
  rcases hx with rfl | rfl | rfl | rfl | rfl | rfl | rfl | rfl <;> omega
theorem padded_byte (l : List Int) (h : ∀ x ∈ l, 0 ≤ x ∧ x ≤ 255) : ∀ i, i < (Sha.padded l).length → 0 ≤ (Sha.padded l).getD i 0 ∧ (Sha.padded l).getD i 0 ≤ 255 := by
  intro i hi
  rw [List.getD_eq_getElem?_getD, List.getElem?_eq_getElem hi]
  have hm := List.getElem_mem hi
  show 0 ≤ (Sha.padded l)[i] ∧ (Sha.padded l)[i] ≤ 255
  generalize (Sha.padded l)[i] = x at hm
  simp only [Sha.padded, List.mem_append, List.mem_cons, List.mem_replicate] at hm
  rcases hm with hm | rfl | ⟨_, rfl⟩ | hm
  · exact h x hm
  · omega
  · omega
  · exact be8_byte' _ x hm
theorem RefAt.same {w w7 wr : World} {Bk Bh g Bv : Nat} {L : List Int} {n : Nat} (R : RefAt w w7 Bk Bh g L n) (hb : Below Bv w7 wr) (h1 : g < Bv) (h2 : Bk < Bv) (h3 : Bh < Bv) (h4 : w.heap.size ≤ Bv) : RefAt w wr Bk Bh g L n :=
  ⟨R.bel.trans (hb.mono h4), (hb.block _ h2).trans R.bk, (hb.block _ h3).trans R.bh, fun i hi => (hb.cell (p := ⟨g, i, none⟩) h1).trans (R.cells i hi), Nat.lt_of_lt_of_le R.gl hb.size⟩
/-- The inner loop's world. -/
structure Inner (Bk Bw Bv : Nat) (b : Nat → Int) (w7 wr : World) (v : Nat → Int) : Prop where
  bel : Below Bv w7 wr
  bk : wr.heap[Bk]? = some (.cells kcells 113 (0, 0))
  bw : wr.heap[Bw]? = some (.cells (wcells b) 113 (0, 0))
  bv : wr.heap[Bv]? = some (.cells (eight v) 115 (0, 0))
theorem Inner.cell {Bk Bw Bv : Nat} {b v : Nat → Int} {w7 wr : World} (T : Inner Bk Bw Bv b w7 wr v) (i : Nat) (hi : i < 8) : wr.cell? ⟨Bv, i, none⟩ = some (.int .u32 (v i)) := cell_of_eight T.bv i hi
theorem Inner.drawN {Bk Bw Bv : Nat} {b v : Nat → Int} {w7 wr : World} (T : Inner Bk Bw Bv b w7 wr v) (n : Nat) : Inner Bk Bw Bv b w7 (wr.drewN n) v :=
  ⟨⟨T.bel.os, T.bel.tape, T.bel.output, T.bel.size, T.bel.block⟩, T.bk, T.bw, T.bv⟩
/-- The world of the loop that adds. -/
structure AddAt (w8 wr : World) (Bh Bv : Nat) (h v : Nat → Int) (t : Nat) : Prop where
  gr : w8.grownBy wr (some Bh)
  bh : wr.rowIs Bh 115 8 (fun i => .int .u32 (foldTo h v t i))
theorem AddAt.step {w8 wr : World} {Bh Bv : Nat} {h v : Nat → Int} {t : Nat} (F : AddAt w8 wr Bh Bv h v t) {x : Int} (hx : x = (h t + v t) % 4294967296) :
    AddAt w8 (wr.setCell ⟨Bh, t, none⟩ (.int .u32 x)).drew Bh Bv h v (t + 1) := by
  refine ⟨⟨F.gr.os, F.gr.tape, F.gr.output, by simpa [World.setCell] using F.gr.size, fun k hk hne => (heap_setCell_other _ _ _ _ (fun e => hne (by rw [e]))).trans (F.gr.block k hk hne)⟩, World.rowIs.drew ((F.bh.set t _).congr ?_)⟩
  intro i hi
  subst hx
  unfold foldTo
  by_cases e : i = t
  · subst e
    rw [if_pos rfl, if_pos (by omega)]
  · rw [if_neg e]
    by_cases e2 : i < t
    · rw [if_pos e2, if_pos (by omega)]
    · rw [if_neg e2, if_neg (by omega)]
theorem RefAt.turn {w w8 wr : World} {Bk Bh g : Nat} {L : List Int} {n m : Nat} (R : RefAt w w8 Bk Bh g L n) (hg : w8.grownBy wr (some Bh)) (h1 : Bk ≠ Bh) (h2 : Bh ≠ g)
    (hb : wr.heap[Bh]? = some (.cells (eight (Sha.st L m)) 115 (0, 0))) (hw : w.heap.size ≤ Bh) : RefAt w wr Bk Bh g L m :=
  ⟨R.bel.grown hg R.bel.size (fun k hk => by injection hk with hk; omega), (hg.block _ (lt_of_block R.bk) (fun e => by injection e with e; exact h1 e)).trans R.bk, hb,
    fun i hi => (World.cell?_of_block (hg.block g R.gl (fun e => by injection e with e; exact h2 e.symm))).trans (R.cells i hi), Nat.lt_of_lt_of_le R.gl hg.size⟩
/-- The last loop's world. -/
structure OutAt (w wr : World) (Bh B : Nat) (v : Value) (u : Nat → Int) (k : Nat) : Prop where
  bel : Below w.heap.size w wr
  bh : wr.heap[Bh]? = some (.cells (eight u) 115 (0, 0))
  own : Owns B wr v (Sha.outs u k)
  siz : B ≤ wr.heap.size
theorem OutAt.kept {w wr w' : World} {Bh B : Nat} {v : Value} {u : Nat → Int} {k : Nat} {o : Obj} (O : OutAt w wr Bh B v u k) (h : (wr.drew.alloc o).grownBy w' v.ownBlock) (hB : Bh < B) (hk : k < 8) : w'.cell? ⟨Bh, k, none⟩ = some (.int .u32 (u k)) := by
  have hne : some Bh ≠ v.ownBlock := fun e => by have := O.own.block Bh e.symm; omega
  have hl : Bh < wr.heap.size := lt_of_block O.bh
  rw [World.cell?_of_block (w := wr.drew.alloc o) (h.block Bh (by simp; omega) hne), World.cell?_of_block (w := wr.drew) (Below.heap_alloc wr.drew o Bh hl)]
  exact cell_of_eight O.bh k hk
theorem OutAt.step {w wr w' : World} {Bh B : Nat} {v v' : Value} {u : Nat → Int} {k : Nat} {o : Obj} (O : OutAt w wr Bh B v u k) (h1 : Owns B w' v' (Sha.outs u k ++ Sha.be4 (u k))) (h : (wr.alloc o).drew.grownBy w' v.ownBlock) (hB : Bh < B) (hw : w.heap.size ≤ B) :
    OutAt w w' Bh B v' u (k + 1) := by
  have hne : some Bh ≠ v.ownBlock := fun e => by have := O.own.block Bh e.symm; omega
  have hl : Bh < wr.heap.size := lt_of_block O.bh
  have hz := h.size
  simp at hz
  exact ⟨(O.bel.alloc (Nat.le_trans hw O.siz) o).drew.grown h (by simp; have := O.siz; omega) (fun j hj => by have := O.own.block j hj; omega), (h.block Bh (by simp; omega) hne).trans ((Below.heap_alloc wr o Bh hl).trans O.bh), by rw [Sha.outs_succ]; exact h1, by have := O.siz; omega⟩
theorem four_at (w : World) (x0 x1 x2 x3 : Int) (t : TypeId) : ∀ i, i < 4 → (w.alloc (.cells #[.int .u8 x0, .int .u8 x1, .int .u8 x2, .int .u8 x3] t)).cell? ⟨w.heap.size, 0 + i, none⟩ = some (.int .u8 ([x0, x1, x2, x3].getD i 0)) := by
  intro i hi
  rw [Nat.zero_add, World.cell?_alloc_new]
  match i, hi with
  | 0, _ | 1, _ | 2, _ | 3, _ => rfl
def zeros32 : Array Value := Array.replicate 32 (.int .u8 0)
theorem make32 (w : World) : (Instr.makeSlice 24 (.int .i64 0) (.int .i64 32)).run Tryz.prog w = .ok (.slice (some ⟨w.heap.size, 0, none⟩) 0 32) (w.alloc (.cells zeros32 5)) := make_bytes w 0 32 (by omega) (by omega)
def RefSumPost (w : World) (l : List Int) (e : Ending) (w' : World) : Prop := ∃ v, e = .returned v ∧ Below w.heap.size w w' ∧ Owns w.heap.size w' v (Sha.sum l)

set_option maxRecDepth 100000 in
set_option maxHeartbeats 2000000 in
theorem refsum_any (w : World) (v : Value) (l : List Int) (hr : Reads w v l) (hl : l.length ≤ 100000000000000) (hby : ∀ x ∈ l, 0 ≤ x ∧ x ≤ 255) :
    Calls Tryz.prog 46 #[v] w (RefSumPost w l) := by
  have HR := hid' hr
  have HY := hid' hby
  clear hr hby
  go_enter Tryz.func46, Tryz.ntmps46
  go_wp2_with fail
  refine (constants_any w).mono ?_
  rintro e w1 ⟨rfl, hb1⟩
  go_wp2_with (first
    | (refine wpList_store_row rfl 113 (.tmp 3) (.tmp 17) rfl w1.heap.size kcells rfl rfl 113 _ (heap_new_at _ _ rfl) (by kernel_rfl) (by rw [kcells_size]; rfl) kcells_one ?_; refine halt' ?_)
    | fail)
  refine hid' ?_
  generalize hW : (w1.alloc _).setRow _ _ = w2
  have K0 : w2.heap[w1.heap.size]? = some (.cells kcells 113 (0, 0)) := by
    rw [← hW]
    exact setRow_heap _ _ _ _ _ _ (heap_new_at _ _ rfl)
  have KB : Below w.heap.size w w2 := by
    rw [← hW]
    exact below_setRow (hb1.alloc hb1.size _) hb1.size _
  clear hW hb1
  generalize w1.heap.size = Bk at *
  clear w1
  go_wp2_with fail
  have R3 := HR.out.below (w' := w2.alloc (.cells (eight fun i => Sha.iv.getD i 0) 115)) ((KB.alloc KB.size _))
  have HL3 := hl
  refine (padded_any _ v l R3 HL3).mono ?_
  rintro e w4 ⟨vp, rfl, hb4, own4⟩
  have hmod := Sha.padded_mod l
  have hlen := Sha.padded_length l
  have hby : ∀ i, i < (Sha.padded l).length → 0 ≤ (Sha.padded l).getD i 0 ∧ (Sha.padded l).getD i 0 ≤ 255 := padded_byte l HY.out
  have hsum : Sha.sum l = Sha.outs (Sha.st (Sha.padded l) ((Sha.padded l).length / 64)) 8 := rfl
  have hn63 : Sha.nought l.length ≤ 63 := by unfold Sha.nought; omega
  have hLb : (Sha.padded l).length ≤ 100000000000100 := by omega
  have hLp : 0 < (Sha.padded l).length := by omega
  clear R3 HL3 hlen hn63 HR HY
  generalize Sha.padded l = L at *
  obtain ⟨g, cap, rfl, hg, hgl, hcap, hcm, hcell, _⟩ : ∃ g cap, vp = .slice (some ⟨g, 0, none⟩) L.length cap ∧ w2.heap.size + 1 ≤ g ∧ g < w4.heap.size ∧ L.length ≤ cap ∧ cap ≤ maxLen ∧ (∀ i, i < L.length → w4.cell? ⟨g, i, none⟩ = some (.int .u8 (L.getD i 0))) ∧ True := by
    rcases own4.shape with ⟨_, h⟩ | ⟨g, cap, h1, h2, h3, h4, h5, h6, _⟩
    · rw [h] at hLp; simp at hLp
    · exact ⟨g, cap, h1, by simpa using h2, h3, h4, h5, h6, trivial⟩
  have hb4' : Below w2.heap.size w2 w4 := ((Below.refl _ _).alloc (Nat.le_refl _) _).trans (hb4.mono (by simp))
  have R0 : RefAt w w4 Bk w2.heap.size g L 0 := by
    refine ⟨KB.trans (hb4'.mono KB.size), (hb4'.block _ (lt_of_block K0)).trans K0, ?_, hcell, hgl⟩
    have e := hb4.block w2.heap.size (by simp)
    rw [e]
    exact heap_new_at _ _ rfl
  have HBY := hid' hby
  have HSUM := hid' hsum
  have HM := hid' hmod
  have hne : w2.heap.size ≠ g := by omega
  have hkne : Bk ≠ w2.heap.size := by have := lt_of_block K0; omega
  have hBh : w.heap.size ≤ w2.heap.size := KB.size
  clear hby hsum hmod own4 hb4 hb4' hcell KB K0 hg hgl hLp
  generalize w2.heap.size = Bh at *
  clear w2
  unfold maxLen at hcm
  go_wp2_with fail
  go_loopw [6] (fun vi wr => ∃ n : Nat, 64 * n ≤ L.length ∧ vi = .int .i64 (64 * (n : Int)) ∧ RefAt w wr Bk Bh g L n) (fun vi _ => L.length - (intOf vi).toNat)
  case atStart => exact ⟨0, by omega, rfl, R0⟩
  case round =>
    clear R0
    obtain ⟨n, hn, rfl, R⟩ := hrel
    by_cases hlt : 64 * n < L.length
    · --<<
      have hlt2 : 64 * n + 64 ≤ L.length := by have := HM.out; omega
      have i0 : (64 * (n : Int)) < (L.length : Int) := by omega
      have i1 : 0 ≤ (64 * (n : Int)) := by omega
      have i2 : (64 * (n : Int)) + 64 ≤ (cap : Int) := by omega
      have i3 : (64 * (n : Int)).toNat = 64 * n := by omega
      have i4 : (64 * (n : Int) + 64).toNat = 64 * n + 64 := by omega
      have i5 : ¬ cap = 64 * n := by omega
      have i6 : ¬ 64 * n = cap := by omega
      go_wp2_with fail
      have HWC := fun i (hi : i < 64) => (R.cells (64 * n + i) (by omega))
      refine (words_any wr g (64 * n) (cap - 64 * n) (fun i => L.getD (64 * n + i) 0) (by omega) (by unfold maxLen; omega) R.gl HWC (fun i hi => HBY.out _ (by omega))).mono ?_
      rintro e w5 ⟨rfl, hb5⟩
      have R5 := R.below hb5
      clear R hb5 HWC i0 i1 i2 i3 i4 i5 i6
      have hnext : Sha.st L (n + 1) = Sha.mixs (fun i => L.getD (64 * n + i) 0) (Sha.st L n) := rfl
      have hfit := Sha.st_fit L n
      generalize hbf : (fun i => L.getD (64 * n + i) 0) = b at *
      clear hbf
      have HN := hid' hnext
      clear hnext
      have G5 := hid' R5.bh
      have hbl : Bh < w5.heap.size := lt_of_block R5.bh
      have gB : (w5.alloc (.cells (cellsOf 64 fun _ => .int .u32 0) 113)).heap[Bh]? = some (.cells (eight (Sha.st L n)) 115 (0, 0)) := by
        rw [Below.heap_alloc _ _ _ hbl]; exact R5.bh
      go_wp2_with (first
        | (refine wpList_store_row rfl 113 (.tmp 7) (.tmp 32) rfl w5.heap.size (wcells b) rfl rfl 113 _ (heap_new_at _ _ rfl) (by kernel_rfl) (by rw [wcells, cellsOf_size]; rfl) (cellsOf_one _ _ _) ?_; refine halt' ?_)
        | fail)
      refine hid' ?_
      generalize hW : (w5.alloc _).setRow _ _ = w6
      have E1 : w6.heap[w5.heap.size]? = some (.cells (wcells b) 113 (0, 0)) := by
        rw [← hW]
        exact setRow_heap _ _ _ _ _ _ (heap_new_at _ _ rfl)
      have E2 : Below w5.heap.size w5 w6 := by
        rw [← hW]
        exact below_setRow ((Below.refl _ _).alloc (Nat.le_refl _) _) (Nat.le_refl _) _
      have R6 := R5.below E2
      have hne2 : g ≠ w5.heap.size := by have := R5.gl; omega
      clear hW R5 G5 gB E2
      generalize w5.heap.size = Bw at *
      clear w5
      have G6 := hid' R6.bh
      go_wp2_with (first
        | (refine wpList_load_row rfl 115 (.tmp 4) rfl Bh rfl 115 (eight (Sha.st L n)) (0, 0) _ G6.out Tryz.underlying115 rfl (by kernel_rfl) ?_)
        | (refine wpList_store_row rfl 115 (.tmp 8) (.tmp 33) rfl w6.heap.size (eight (Sha.st L n)) rfl rfl 115 _ (heap_new_at _ _ rfl) (by kernel_rfl) rfl (eight_one _) ?_; refine halt' ?_)
        | fail)
      refine hid' ?_
      generalize hW : (w6.alloc _).setRow _ _ = w7
      have E3 : w7.heap[w6.heap.size]? = some (.cells (eight (Sha.st L n)) 115 (0, 0)) := by
        rw [← hW]
        exact setRow_heap _ _ _ _ _ _ (heap_new_at _ _ rfl)
      have E4 : Below w6.heap.size w6 w7 := by
        rw [← hW]
        exact below_setRow ((Below.refl _ _).alloc (Nat.le_refl _) _) (Nat.le_refl _) _
      have R7 := R6.below E4
      have F1 := (E4.block Bw (lt_of_block E1)).trans E1
      have hv1 : Bw < w6.heap.size := lt_of_block E1
      have hv2 : g < w6.heap.size := R6.gl
      have hv3 : Bk < w6.heap.size := lt_of_block R6.bk
      have hv4 : Bh < w6.heap.size := lt_of_block R6.bh
      have hv5 : w.heap.size ≤ w6.heap.size := R6.bel.size
      clear hW R6 G6 E4 E1
      generalize w6.heap.size = Bv at *
      clear w6
      go_wp2_with fail
      go_loopw [9] (fun vi wr => ∃ t : Nat, t ≤ 64 ∧ vi = .int .i64 t ∧ Below Bv w7 wr ∧ wr.heap[Bv]? = some (.cells (eight (Sha.rounds b (Sha.st L n) t)) 115 (0, 0))) (fun vi _ => 64 - (intOf vi).toNat)
      case atStart => exact ⟨0, by omega, rfl, Below.refl _ _, E3⟩
      case round =>
        clear E3
        obtain ⟨t, ht, rfl, hbv, hv⟩ := hrel
        by_cases ht64 : t < 64
        · have hs0 : IntKind.u32.signed = false := rfl
          have t64 : (t : Int) < 64 := by omega
          have hkk := (hbv.block _ hv3).trans R7.bk
          have hww := (hbv.block _ hv1).trans F1
          have hfv := Sha.rounds_fit b (Sha.st L n) hfit t
          have v0 := hfv 0
          have v4 := hfv 4
          have ck : ∀ W : World, W.heap[Bk]? = some (.cells kcells 113 (0, 0)) → W.cell? ⟨Bk, t, none⟩ = some (.int .u32 (Sha.kk.getD t 0)) := fun W h => by rw [cell_of_row _ _ _ _ _ _ h, kcells_cell _ ht64]
          have cw : ∀ W : World, W.heap[Bw]? = some (.cells (wcells b) 113 (0, 0)) → W.cell? ⟨Bw, t, none⟩ = some (.int .u32 (Sha.W b t)) := fun W h => by rw [cell_of_row _ _ _ _ _ _ h, wcells, cellsOf_cell _ _ _ ht64]
          have CK := hid' ck
          have CW := hid' cw
          have T : Inner Bk Bw Bv b w7 wr (Sha.rounds b (Sha.st L n) t) := ⟨hbv, hkk, hww, hv⟩
          clear ck cw hkk hww hfv hv hbv
          have c0 := T.cell 0 (by omega)
          have c4 := T.cell 4 (by omega)
          have c5 := T.cell 5 (by omega)
          have c6 := T.cell 6 (by omega)
          have c7 := T.cell 7 (by omega)
          have k0 := CK.out _ T.bk
          have w0 := CW.out _ T.bw
          go_wp2_with fail
          go_quiet ((go_at_call 66; exact quiet_left (rotr_k _ _ _ (by omega) (by omega) (by omega) (by omega))))
          have T2 := T.drawN nq
          clear c0 c4 c5 c6 c7 k0 w0 T
          generalize wr.drewN nq = wr2 at T2 ⊢
          have c1 := T2.cell 1 (by omega)
          have c2 := T2.cell 2 (by omega)
          go_wp2_with fail
          go_quiet ((go_at_call 66; exact quiet_left (rotr_k _ _ _ (by omega) (by omega) (by omega) (by omega))))
          have T3 := T2.drawN nq
          clear c1 c2 T2
          generalize wr2.drewN nq = wr3 at T3 ⊢
          have c0 := T3.cell 0 (by omega)
          have c1 := T3.cell 1 (by omega)
          have c2 := T3.cell 2 (by omega)
          have c3 := T3.cell 3 (by omega)
          have c4 := T3.cell 4 (by omega)
          have c5 := T3.cell 5 (by omega)
          have c6 := T3.cell 6 (by omega)
          have HB3 := hid' T3.bv
          go_wp2_with (first
            | (refine wpList_store_row rfl 115 (.tmp 8) (.tmp 115) rfl Bv _ rfl rfl 115 _ HB3.out (by kernel_rfl) rfl (by simp [Value.oneCell']) ?_)
            | fail)
          clear c0 c1 c2 c3 c4 c5 c6
          go_roundw
          case rel => exact ⟨t + 1, by omega, by go_num, below_setRow T3.bel (Nat.le_refl _) _, (setRow_heap _ _ _ _ _ _ HB3.out).trans (by simp [eight, Sha.rounds, Sha.rnd, Sha.t1, Sha.t2, Sha.big0, Sha.big1, Sha.chs, Sha.maj])⟩
          case measure => simp [intOf]; omega
        · obtain rfl : t = 64 := by omega
          rw [show ((64 : Nat) : Int) = 64 from rfl]
          have hfh := eight_rowIs ((hbv.block _ hv4).trans R7.bh)
          have Rw : RefAt w wr Bk Bh g L n := R7.same hbv hv2 hv3 hv4 hv5
          have F0 : AddAt wr wr Bh Bv (Sha.st L n) (Sha.rounds b (Sha.st L n) 64) 0 := ⟨World.grownBy.refl _ _, by rw [fold_none]; exact hfh⟩
          have hv' := hid' hv
          clear hbv hv hfh R7 F1
          go_wp2_with fail
          obtain ⟨w8, rfl⟩ : ∃ w8 : World, w8 = wr := ⟨_, rfl⟩
          go_loopw [14] (fun vi w9 => ∃ t : Nat, t ≤ 8 ∧ vi = .int .i64 t ∧ AddAt w8 w9 Bh Bv (Sha.st L n) (Sha.rounds b (Sha.st L n) 64) t) (fun vi _ => 8 - (intOf vi).toNat)
          case atStart => exact ⟨0, by omega, rfl, F0⟩
          case round =>
            clear F0
            obtain ⟨t, ht, rfl, F⟩ := hrel
            by_cases ht8 : t < 8
            · have hs0 : IntKind.u32.signed = false := rfl
              have t8 : (t : Int) < 8 := by omega
              have c0 := F.bh.cell ht8
              have f0 := F.bh.frozen t
              have c3 := cell_of_eight ((F.gr.block Bv (lt_of_block hv'.out) (fun e => by injection e with e; omega)).trans hv'.out) t ht8
              go_wp2_with fail
              go_still_tail 9, (by kernel_rfl)
              change wpList _ _ _ _ _ wr.drew
              go_wp2_with fail
              go_roundw
              case rel => exact ⟨t + 1, by omega, by go_num, F.step (by simp [foldTo])⟩
              case measure => simp [intOf]; omega
            · obtain rfl : t = 8 := by omega
              rw [show ((8 : Nat) : Int) = 8 from rfl]
              have R9 : RefAt w wr Bk Bh g L (n + 1) := Rw.turn F.gr hkne hne (by
                rw [rowIs_eight F.bh, fold_all, HN.out]) hBh
              clear F Rw
              go_wp2_with fail
              go_roundw
              case rel => exact ⟨n + 1, by omega, by go_num, R9⟩
              case measure => simp [intOf]; omega
      -->>
    · have hn2 : n = L.length / 64 := by have := HM.out; omega
      have hfit := Sha.st_fit L n
      have HS := hid' (show Sha.sum l = Sha.outs (Sha.st L n) 8 by rw [hn2]; exact HSUM.out)
      have G0 := R.bh
      have bel := R.bel
      have hBl : Bh < wr.heap.size := lt_of_block R.bh
      have hge : ¬ (64 * (n : Int)) < (L.length : Int) := by omega
      clear hn2 HSUM HM HBY R hlt hcap hcm hLb hl hkne hne
      generalize Sha.st L n = u at *
      have hmk := fun w : World => make32 w
      obtain ⟨w8, rfl⟩ : ∃ w8 : World, w8 = wr := ⟨_, rfl⟩
      have O0 : OutAt w (w8.alloc (.cells zeros32 5)) Bh w8.heap.size (.slice (some ⟨w8.heap.size, 0, none⟩) 0 32) u 0 :=
        ⟨bel.alloc bel.size _, (Below.heap_alloc _ _ _ hBl).trans G0, Owns.made (Nat.le_refl _) zeros32 (by unfold maxLen; decide), by simp⟩
      have hB9 : w.heap.size ≤ w8.heap.size := bel.size
      clear bel G0
      generalize hb9 : w8.heap.size = B9 at *
      go_wp2_with fail
      clear hmk
      go_loopw [15, 16] (fun vo vi wr => ∃ k : Nat, k ≤ 8 ∧ vi = .int .i64 k ∧ OutAt w wr Bh B9 vo u k) (fun _ vi _ => 8 - (intOf vi).toNat)
      case atStart => exact ⟨0, by omega, rfl, O0⟩
      case round =>
        clear O0
        obtain ⟨k, hk, rfl, O⟩ := hrel
        by_cases hk8 : k < 8
        · have hs0 : IntKind.u32.signed = false := rfl
          have k8 : (k : Int) < 8 := by omega
          have f1 := (hfit k).1
          have f2 := (hfit k).2
          have c0 := cell_of_eight O.bh k hk8
          go_wp2_with fail
          have HO := hid' O.own
          have HL := hid' (Sha.outs_length u k)
          have HZ := O.siz
          go_region_held3 (fun w' => w'.cell? ⟨Bh, k, none⟩ = some (.int .u32 (u k))) (first | go_keep | exact O.kept h2 hBl hk8)
            ((refine step_bytes rfl _ _ (by rfl) B9 u15 (Sha.outs u k) (by rfl) (HO.out.drew.alloc _) wr.heap.size 0 4 4 (Sha.be4 (u k)) (by rfl) rfl (four_at _ _ _ _ _ _) (by rw [HL.out]; omega) (by simp; omega) ?_; intro v' w' h1 h2))
          have O2 := O.step h1 h2 hBl hB9
          clear h1 h2 HO HL O
          go_wp2_with fail
          go_roundw
          case rel => exact ⟨k + 1, by omega, by go_num, O2⟩
          case measure => simp [intOf]; omega
        · obtain rfl : k = 8 := by omega
          have HO := O.own
          rw [← HS.out] at HO
          go_wp2_with fail
          go_ret
          exact ⟨_, rfl, O.bel, HO.mono hB9⟩
end Go.Proofs.YtmddaomchhigbaaGreatDoor

/- Proved: held and Total of a ledger: all accounts in order with their balances; the sum of a currency's. -/
import Derived.Test.YtmmbhmlhenpgbaaDoorLedHeld
namespace Go.Proofs.YtmmbhmlhenpgbaaDoor
open Go.RowKit Go.Shelf Go.Maps
open Led
set_option linter.unusedVariables false
set_option linter.unusedSimpArgs false
set_option maxRecDepth 100000
attribute [local go_sem] Oper.semAt_some

theorem accM.size_le {b n : Nat} {D : DataW Unit} {W : World} (h : accM W b n D) : Maps.size D ≤ n := by
  obtain ⟨es, clock, h1, F, hs, hD⟩ := h
  rw [hD, Maps.size_eq, length_sorted]
  simpa using hs
theorem cell_three_new (w : World) (x y z : Value) (t : TypeId) : ∀ j u, [x, y, z][j]? = some u → (w.alloc (.cells #[x, y, z] t)).cell? ((⟨w.heap.size, 0, none⟩ : Addr).add j) = some u := by
  intro j u hj
  rw [add_gen, Nat.zero_add]
  match j, hj with
  | 0, hj => simp at hj; subst hj; exact new_cell rfl rfl
  | 1, hj => simp at hj; subst hj; exact new_cell rfl rfl
  | 2, hj => simp at hj; subst hj; exact new_cell rfl rfl
  | k + 3, hj => simp at hj
/-- A loop's variable of three cells in a block of its own. -/
def VarLeg (x : Led.Leg) (W : World) (Bx : Nat) : Prop := W.heap[Bx]? = some (.cells #[.string x.party, .string x.cur, .int .i64 x.amount] 41 (0, 0))
theorem varLeg_kept {x : Led.Leg} {W W' : World} {Bx : Nat} {row : Option Nat} (h : VarLeg x W Bx) (hg : W.grownBy W' row) (hr : ∀ r, row = some r → ∃ o : Obj, W.heap[r]? = some o ∧ o.isCells = false) : VarLeg x W' Bx :=
  (hg.block Bx (lt_of_block h) (fun e => by obtain ⟨o, ho, hc⟩ := hr Bx e.symm; rw [show W.heap[Bx]? = _ from h] at ho; cases ho; cases hc)).trans h
theorem heap_cells3 {W : World} {b : Nat} {x y z : Value} {t : TypeId} (h : W.heap[b]? = some (.cells #[x, y, z] t (0, 0))) :
    W.cell? ⟨b, 0, none⟩ = some x ∧ W.cell? ⟨b, 1, none⟩ = some y ∧ W.cell? ⟨b, 2, none⟩ = some z :=
  ⟨by simp [World.cell?, h], by simp [World.cell?, h], by simp [World.cell?, h]⟩
def HeldPost (M : DataW Unit) (w : World) (e : Ending) (w' : World) : Prop := ∃ v ks, e = .returned v ∧ HeldIs M ks ∧ LegRow w.heap.size w' v (ks.map (legOf M)) ∧ Below w.heap.size w w'

set_option maxHeartbeats 2000000 in
theorem held_any (base lb : Nat) (pv : Value) (mb nn : Nat) (q : List (Post × Value)) (M : DataW Unit) (w : World) (h : LedgerAt base lb pv mb nn q M w) (hnn : nn ≤ 1000000) :
    Calls Tryd.prog 18 #[.pointer (some ⟨lb, 0, none⟩)] w (HeldPost M w) := by
  refine callsIn_wide.1 (show CallsIn Fence.wide 7 _ _ _ _ _ from ?_)
  have h1 : 1 ≤ 7 := by omega
  have hsz : Maps.size M ≤ 1000000 := Nat.le_trans h.map.size_le hnn
  obtain ⟨i0, hi, hz0, hz1, hz2⟩ := info_parts info_leg
  have hlb := lt_of_block h.hb
  have hmb := h.map.lt
  refine callsIn_of_wp_marks Tryd.func18 rfl trivial ?_ rfl
  simp only [Tryd.ntmps18, List.size_toArray, List.length_cons, List.length_nil, Nat.reduceAdd, Nat.reduceSub, Array.replicate_succ, Array.replicate_zero, List.push_toArray, List.append_toArray, List.nil_append, List.cons_append]
  have hnn : ∀ (p : Value) (w : World), (binOp BinOp.eql 79 (.func (.func 56) #[] #[p]) .nilFunc).run Tryd.prog w = .ok (.bool false) w := fun _ _ => by kernel_rfl
  have f43 : Fence.wide.fn 43 := trivial
  have HH := hid' h
  clear h
  gi_wp2_with (gi_at_call 43; refine (heldIt_in Fence.wide 6 trivial rfl _ _).mono ?_; rintro e w' ⟨rfl, rfl⟩)
  have bO := (Boxed.new w 22 (.slice none 0 0)).alloc (.cells #[.pointer (some ⟨lb, 0, none⟩)] 36)
  have bP := Boxed.new (w.alloc (.cells #[.slice none 0 0] 22)) 36 (.pointer (some ⟨lb, 0, none⟩))
  simp only [World.size_alloc] at bP
  have hB0 : Below w.heap.size w ((w.alloc (.cells #[.slice none 0 0] 22)).alloc (.cells #[.pointer (some ⟨lb, 0, none⟩)] 36)) := ((Below.refl _ w).alloc (Nat.le_refl _) _).alloc (by simp) _
  have hsz2 : ((w.alloc (.cells #[.slice none 0 0] 22)).alloc (.cells #[.pointer (some ⟨lb, 0, none⟩)] 36)).heap.size = w.heap.size + 2 := by simp
  obtain ⟨W0, hW0⟩ : ∃ W0, (w.alloc (.cells #[.slice none 0 0] 22)).alloc (.cells #[.pointer (some ⟨lb, 0, none⟩)] 36) = W0 := ⟨_, rfl⟩
  rw [hW0] at bO bP hB0 hsz2 ⊢
  clear hW0
  have HA0 := HH.out.below hB0
  refine wpIn_rangeFunc_ownH (F := Fence.wide) rfl h1 (gf := 56) (lb := #[.pointer (some ⟨w.heap.size + 1, 0, none⟩)]) rfl trivial (enters_of Tryd.func56 (by kernel_rfl) rfl)
    (held1_stops 6 (by omega) lb mb nn (w.heap.size + 1) w.heap.size pv M W0 bP (by omega) hlb hmb HA0.hb HA0.map hsz) KpH.trans (kpH_b (by omega)) (Below.refl _ _) (fun _ => rfl)
    (fun pre W => (∃ v, Boxed W w.heap.size 22 v ∧ W.ownsRow w.heap.size 41 3 v pre.length (legCells pre) ∧ True) ∧ Below w.heap.size w W)
    (fun _ _ _ => False)
    (OwnFrom.and (Own.from (holdsRow_own w.heap.size w.heap.size 22 41 3 (fun pre => pre.length) (fun pre => legCells pre) (fun _ _ => True)) _) (ownFrom_below (Nat.le_refl _) (by omega)))
    (fun _ _ _ _ _ hs _ _ => hs)
    ⟨⟨_, bO, World.ownsRow_nil _ _ _ _, trivial⟩, hB0⟩
    (fun x a' W => ∃ Bx, VarLeg x W Bx ∧ a' = { tmps := #[.pointer (some ⟨lb, 0, none⟩), undef, .slice none 0 0, .pointer (some ⟨w.heap.size, 0, none⟩), .func (.func 56) #[] #[.pointer (some ⟨w.heap.size + 1, 0, none⟩)], .pointer (some ⟨Bx, 0, none⟩), .pointer (some ⟨lb, 0, none⟩), .func (.func 56) #[] #[.pointer (some ⟨w.heap.size + 1, 0, none⟩)], .func (.func 56) #[] #[.pointer (some ⟨w.heap.size + 1, 0, none⟩)], .bool false, .func (.func 56) #[] #[.pointer (some ⟨w.heap.size + 1, 0, none⟩)], .agg #[.string x.party, .string x.cur, .int .i64 x.amount], undef, undef, undef, undef, undef], defers := [] })
    (fun x a' s X Y row hs hg hr => by obtain ⟨Bx, h2, h3⟩ := hs; exact ⟨Bx, varLeg_kept h2 hg (fun r e => (hr r e).2), h3⟩)
    ?assign ?body ?done ?stop
  case assign =>
    rintro l pre x W K ⟨⟨v, hv, hrow, _⟩, hB⟩ hK
    have hen : legEnc x = #[.agg #[.string x.party, .string x.cur, .int .i64 x.amount]] := rfl
    rw [hen]
    gi_wp2
    refine hK _ _ ((KeepsOthers.alloc _ _).from _) ⟨(Below.refl _ W).alloc hB.size _, fun k cur t ht hk => Below.heap_alloc _ _ k (lt_of_block hk)⟩ ⟨⟨v, hv.alloc _, hrow.alloc _, trivial⟩, hB.trans ((Below.refl _ W).alloc hB.size _)⟩ ⟨W.heap.size, heap_alloc_new _ _, ?_⟩
    rfl
  case body =>
    rintro l pre x a' W hl ⟨r, hr⟩ ⟨⟨v, hv, hrow, _⟩, hB⟩ ⟨Bx, bX, rfl⟩ hlt
    have hc := hv.cell
    obtain ⟨x0, x1, x2⟩ := heap_cells3 bX
    gi_wp2_with (gi_at_builtin; refine wpListIn_append_own _ rfl _ _ 22 rfl w.heap.size 41 i0 (.agg #[.string ⟨#[]⟩, .string ⟨#[]⟩, .int .i64 0]) 3 40 Tryd.underlying22 hi hz0 hz1 hz2 rfl (by decide) _ _ _ rfl (hrow.alloc _) ⟨W.heap.size, 0, none⟩ 1 1 [.string x.party, .string x.cur, .int .i64 x.amount] rfl rfl (cell_three_new _ _ _ _ _) (by simp [Value.oneCell']) (by unfold maxLen; omega) (by omega) (by have := hB.size; simp; omega) ?_; intro v' w1 hown' hgrow _; obtain ⟨g', cap', rfl⟩ := ownsRow_succ hown'; obtain ⟨hv1, hv2, hr2, hk2, hb2⟩ := hv.appended (by decide) hrow hB.size (Nat.le_refl _) hown' hgrow; have hc1 := hv1.cell; have hf1 := hv1.frozen)
    refine ⟨hk2.from _, ⟨hb2, fun k cur t ht hk => ?_⟩, ⟨_, hv2, ?_, trivial⟩, hB.trans hb2⟩
    · have hkl := lt_of_block hk
      have e1 : k ≠ w.heap.size := by
        rintro rfl
        have e := hk.symm.trans (show W.heap[w.heap.size]? = _ from hv)
        simp at e
        rcases ht with h | h <;> exact absurd (h.symm.trans e.2) (by decide)
      have e2 : some k ≠ v.ownBlock := by
        rcases hrow.2 with ⟨rfl, _⟩ | ⟨g2, cap2, cur2, rfl, _, hgb, _⟩
        · intro e; cases e
        · intro e
          cases e
          have e := hk.symm.trans hgb
          simp at e
          rcases ht with h | h <;> exact absurd (h.symm.trans e.2) (by decide)
      exact (Below.heap_setCell _ _ _ k e1).trans ((hgrow.block k (by simp; omega) e2).trans (Below.heap_alloc _ _ k hkl))
    · rw [legCells_append, List.length_append]
      exact hr2
  case done =>
    rintro D ys W hD ⟨ks, hks, rfl⟩ ⟨⟨v, hv, hrow, _⟩, hB⟩ hK
    have hc := hv.cell
    gi_wp2
    refine ⟨by simp, .inl ⟨_, _, rfl, run_takeDeferred hK, ?_⟩⟩
    exact ⟨_, results_tmp rfl _ _ _, v, ks, rfl, hks, ownsRow_putObj hrow _ hK rfl, hB.trans (belowK_b (w := w) (Nat.le_refl _) W D _ _ (by omega) hK rfl rfl)⟩
  case stop =>
    rintro D c pre W _ _ h _
    exact h.elim

/-- A currency's balances, summed up as 64 bits do. -/
def sumCur (c : ByteArray) (L : List Led.Leg) : Int := L.foldl (fun s x => if x.cur = c then wrap64 (s + x.amount) else s) 0
theorem sumCur_snoc (c : ByteArray) (L : List Led.Leg) (x : Led.Leg) : sumCur c (L ++ [x]) = if x.cur = c then wrap64 (sumCur c L + x.amount) else sumCur c L := by
  unfold sumCur; rw [List.foldl_append]; rfl
def TotalPost (M : DataW Unit) (c : ByteArray) (w : World) (e : Ending) (w' : World) : Prop := ∃ ks, e = .returned (.int .i64 (sumCur c (ks.map (legOf M)))) ∧ HeldIs M ks ∧ Below w.heap.size w w'
set_option maxHeartbeats 2000000 in
theorem total_any (base lb : Nat) (pv : Value) (mb nn : Nat) (q : List (Post × Value)) (M : DataW Unit) (c : ByteArray) (w : World) (h : LedgerAt base lb pv mb nn q M w) (hnn : nn ≤ 1000000) :
    Calls Tryd.prog 24 #[.pointer (some ⟨lb, 0, none⟩), .string c] w (TotalPost M c w) := by
  refine callsIn_wide.1 (show CallsIn Fence.wide 7 _ _ _ _ _ from ?_)
  have h1 : 1 ≤ 7 := by omega
  have hsz : Maps.size M ≤ 1000000 := Nat.le_trans h.map.size_le hnn
  have hlb := lt_of_block h.hb
  have hmb := h.map.lt
  refine callsIn_of_wp_marks Tryd.func24 rfl trivial ?_ rfl
  simp only [Tryd.ntmps24, List.size_toArray, List.length_cons, List.length_nil, Nat.reduceAdd, Nat.reduceSub, Array.replicate_succ, Array.replicate_zero, List.push_toArray, List.append_toArray, List.nil_append, List.cons_append]
  have f43 : Fence.wide.fn 43 := trivial
  have HH := hid' h
  clear h
  gi_wp2_with (gi_at_call 43; refine (heldIt_in Fence.wide 6 trivial rfl _ _).mono ?_; rintro e w' ⟨rfl, rfl⟩)
  have bC := ((Boxed.new w 9 (.string c)).alloc (.cells #[.int .i64 0] 2)).alloc (.cells #[.pointer (some ⟨lb, 0, none⟩)] 36)
  have bO := (Boxed.new (w.alloc (.cells #[.string c] 9)) 2 (.int .i64 0)).alloc (.cells #[.pointer (some ⟨lb, 0, none⟩)] 36)
  have bP := Boxed.new ((w.alloc (.cells #[.string c] 9)).alloc (.cells #[.int .i64 0] 2)) 36 (.pointer (some ⟨lb, 0, none⟩))
  simp only [World.size_alloc] at bO bP
  have hB0 : Below w.heap.size w (((w.alloc (.cells #[.string c] 9)).alloc (.cells #[.int .i64 0] 2)).alloc (.cells #[.pointer (some ⟨lb, 0, none⟩)] 36)) := (((Below.refl _ w).alloc (Nat.le_refl _) _).alloc (by simp) _).alloc (by simp; omega) _
  have hsz2 : (((w.alloc (.cells #[.string c] 9)).alloc (.cells #[.int .i64 0] 2)).alloc (.cells #[.pointer (some ⟨lb, 0, none⟩)] 36)).heap.size = w.heap.size + 3 := by simp
  obtain ⟨W0, hW0⟩ : ∃ W0, ((w.alloc (.cells #[.string c] 9)).alloc (.cells #[.int .i64 0] 2)).alloc (.cells #[.pointer (some ⟨lb, 0, none⟩)] 36) = W0 := ⟨_, rfl⟩
  rw [hW0] at bC bO bP hB0 hsz2 ⊢
  clear hW0
  have HA0 := HH.out.below hB0
  refine wpIn_rangeFunc_ownH (F := Fence.wide) rfl h1 (gf := 56) (lb := #[.pointer (some ⟨w.heap.size + 1 + 1, 0, none⟩)]) rfl trivial (enters_of Tryd.func56 (by kernel_rfl) rfl)
    (held1_stops 6 (by omega) lb mb nn (w.heap.size + 1 + 1) w.heap.size pv M W0 bP (by omega) hlb hmb HA0.hb HA0.map hsz) KpH.trans (kpH_b (by omega)) (Below.refl _ _) (fun _ => rfl)
    (fun pre W => (Boxed W (w.heap.size + 1) 2 (.int .i64 (sumCur c pre)) ∧ Boxed W w.heap.size 9 (.string c)) ∧ Below w.heap.size w W)
    (fun _ _ _ => False)
    (OwnFrom.and (OwnFrom.and (Own.from (boxed_own _ _ (fun pre => .int .i64 (sumCur c pre))) _) (Own.from (boxed_own _ _ (fun _ => .string c)) _)) (ownFrom_below (Nat.le_refl _) (by omega)))
    (fun _ _ _ _ _ hs _ _ => hs)
    ⟨⟨bO, bC⟩, hB0⟩
    (fun x a' W => ∃ Bx, VarLeg x W Bx ∧ a' = { tmps := #[.pointer (some ⟨lb, 0, none⟩), .string c, undef, .pointer (some ⟨w.heap.size, 0, none⟩), .int .i64 0, .pointer (some ⟨w.heap.size + 1, 0, none⟩), .pointer (some ⟨Bx, 0, none⟩), .pointer (some ⟨lb, 0, none⟩), .func (.func 56) #[] #[.pointer (some ⟨w.heap.size + 1 + 1, 0, none⟩)], .agg #[.string x.party, .string x.cur, .int .i64 x.amount], undef, undef, undef, undef, undef, undef, undef, undef, undef], defers := [] })
    (fun x a' s X Y row hs hg hr => by obtain ⟨Bx, h2, h3⟩ := hs; exact ⟨Bx, varLeg_kept h2 hg (fun r e => (hr r e).2), h3⟩)
    ?assign ?body ?done ?stop
  case assign =>
    rintro l pre x W K ⟨⟨hv, hc⟩, hB⟩ hK
    have hen : legEnc x = #[.agg #[.string x.party, .string x.cur, .int .i64 x.amount]] := rfl
    rw [hen]
    gi_wp2
    refine hK _ _ ((KeepsOthers.alloc _ _).from _) ⟨(Below.refl _ W).alloc hB.size _, fun k cur t ht hk => Below.heap_alloc _ _ k (lt_of_block hk)⟩ ⟨⟨hv.alloc _, hc.alloc _⟩, hB.trans ((Below.refl _ W).alloc hB.size _)⟩ ⟨W.heap.size, heap_alloc_new _ _, ?_⟩
    rfl
  case body =>
    rintro l pre x a' W hl ⟨r, hr⟩ ⟨⟨hv, hcb⟩, hB⟩ ⟨Bx, bX, rfl⟩ hlt
    have hc := hv.cell
    have hc2 := hcb.cell
    have hf := hv.frozen
    obtain ⟨x0, x1, x2⟩ := heap_cells3 bX
    have HS := hid' (sumCur_snoc c pre x)
    have HBW := hid' hB
    have hbx : ∀ v' : Value, ∀ (k : Nat) (cur : Array Value) (t : TypeId), (t = 75 ∨ t = 36) → W.heap[k]? = some (.cells cur t (0, 0)) → (W.setCell ⟨w.heap.size + 1, 0, none⟩ v').heap[k]? = W.heap[k]? := by
      intro v' k cur t ht hk
      refine Below.heap_setCell _ _ _ k ?_
      rintro rfl
      have e := hk.symm.trans (show W.heap[w.heap.size + 1]? = _ from hv)
      simp at e
      rcases ht with h | h <;> exact absurd (h.symm.trans e.2) (by decide)
    have HBX := hid' hbx
    have HV := hid' hv
    have HC := hid' hcb
    clear hbx hB hv hcb hr bX
    by_cases hxc : x.cur = c
    · rw [if_pos hxc] at HS
      rw [hxc] at x1
      clear hxc
      gi_wp2
      refine ⟨(KeepsOthers.setCell _ _ _).from _, ⟨(Below.refl _ W).setCell (p := ⟨w.heap.size + 1, 0, none⟩) (by simp) _, HBX.out _⟩, ⟨?_, HC.out.other (by omega) _⟩, HBW.out.setCell (p := ⟨w.heap.size + 1, 0, none⟩) (by simp) _⟩
      rw [HS.out]
      exact HV.out.set _
    · rw [if_neg hxc] at HS
      have hxe : (x.cur.toList == c.toList) = false := by
        rw [beq_eq_false_iff_ne]
        intro e
        rw [ByteArray.toList_eq, ByteArray.toList_eq] at e
        exact hxc (ba_ext e)
      gi_wp2
      exact ⟨KeepsFrom.refl _ _, ⟨Below.refl _ _, fun k cur t _ _ => rfl⟩, ⟨by rw [HS.out]; exact HV.out, HC.out⟩, HBW.out⟩
  case done =>
    rintro D ys W hD ⟨ks, hks, rfl⟩ ⟨⟨hv, hcb⟩, hB⟩ hK
    have hc := hv.cell
    gi_wp2
    refine ⟨by simp, .inl ⟨_, _, rfl, run_takeDeferred hK, ?_⟩⟩
    exact ⟨_, results_tmp rfl _ _ _, ks, rfl, hks, hB.trans (belowK_b (w := w) (Nat.le_refl _) W D _ _ (by omega) hK rfl rfl)⟩
  case stop =>
    rintro D c pre W _ _ h _
    exact h.elim
end Go.Proofs.YtmmbhmlhenpgbaaDoor

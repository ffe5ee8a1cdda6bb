/- Proved: the reference's table when a tip is taken (no walk). -/
import Derived.Test.YtmddaomchhigbaaGreatDoorOrcRefSet
namespace Go.Proofs.YtmddaomchhigbaaGreatDoor
open Go.RowKit Go.Maps
open Led Orc
set_option linter.unusedVariables false
set_option linter.unusedSimpArgs false
set_option maxRecDepth 100000
theorem knCells_set4 (l : List Rk) : ∀ (i : Nat) (x y : Rk), l[i]? = some x → knCells (l.set i y) = ((((knCells l).set (i * 4) (.string y.kn.name)).set (i * 4 + 1) y.sv).set (i * 4 + 2) (.string y.kn.key)).set (i * 4 + 3) (.int .i64 y.kn.seq) := by
  induction l with
  | nil => intro i x y h; simp at h
  | cons a t ih =>
    intro i x y h
    cases i with
    | zero => rfl
    | succ i =>
      simp at h
      rw [show (i + 1) * 4 = i * 4 + 1 + 1 + 1 + 1 by omega]
      simp only [List.set_cons_succ, knCells, ih i x y h]
theorem setCell_other (w : World) (a : Addr) (v : Value) (k : Nat) (h : k ≠ a.block) : (w.setCell a v).heap[k]? = w.heap[k]? := Below.heap_setCell _ _ _ _ h
/-- An entry is put over another one of the same name. -/
theorem RfTab.put {base rb : Nat} {R : List Rk} {w W : World} {g n c : Nat} (h0 : RfTab base rb (.slice (some ⟨g, 0, none⟩) n c) R w) (hbase : base ≤ w.heap.size) (B : Below w.heap.size w W) {i : Nat} {x y : Rk} (hx : R[i]? = some x) (hn : y.kn.name = x.kn.name) (hfit : KnFits y.kn) (hrow : StampRow w.heap.size W y.sv y.kn.stamps) :
    RfStep base rb (.slice (some ⟨g, 0, none⟩) n c) R ((R.map (·.kn)).map (Orc.updK x.kn.name y.kn)) w ((((W.setCell ⟨g, i * 4, none⟩ (.string y.kn.name)).setCell ⟨g, i * 4 + 1, none⟩ y.sv).setCell ⟨g, i * 4 + 2, none⟩ (.string y.kn.key)).setCell ⟨g, i * 4 + 3, none⟩ (.int .i64 y.kn.seq)) := by
  have h := h0.below B
  have hnn : n = R.length := by
    obtain ⟨_, ⟨e1, _⟩ | ⟨g', cap, cur, e, _⟩⟩ := h.row
    · cases e1
    · simp only [Value.slice.injEq] at e; exact e.2.1
  subst hnn
  have hgl : g < w.heap.size := (h0.foot (.inr (.inl rfl))).2
  have hne : ∀ {k : Nat} {o : Obj}, W.heap[k]? = some o → (∀ (cur : Array Value) (fr : Nat × Nat), o ≠ Obj.cells cur 85 fr) → k ≠ g := by
    intro k o hk' ho e
    subst e
    obtain ⟨_, ⟨e1, _⟩ | ⟨g', cap, cur, e, _, h4, _⟩⟩ := h.row
    · cases e1
    · obtain rfl : k = g' := by simp only [Value.slice.injEq, Option.some.injEq, Addr.mk.injEq] at e; exact e.1.1
      rw [hk'] at h4
      cases h4
      exact ho _ _ rfl
  have r1 := (World.ownsRow.stored h.row (i * 4) (.string y.kn.name)).1
  have r2 := (World.ownsRow.stored r1 (i * 4 + 1) y.sv).1
  have r3 := (World.ownsRow.stored r2 (i * 4 + 2) (.string y.kn.key)).1
  have r4 := (World.ownsRow.stored r3 (i * 4 + 3) (.int .i64 y.kn.seq)).1
  obtain ⟨W', hW'⟩ : ∃ W', W' = (((W.setCell ⟨g, i * 4, none⟩ (.string y.kn.name)).setCell ⟨g, i * 4 + 1, none⟩ y.sv).setCell ⟨g, i * 4 + 2, none⟩ (.string y.kn.key)).setCell ⟨g, i * 4 + 3, none⟩ (.int .i64 y.kn.seq) := ⟨_, rfl⟩
  rw [← hW'] at r4 ⊢
  have hoth : ∀ k, k ≠ g → W'.heap[k]? = W.heap[k]? := by
    intro k hk
    rw [hW', setCell_other _ _ _ _ hk, setCell_other _ _ _ _ hk, setCell_other _ _ _ _ hk, setCell_other _ _ _ _ hk]
  have hrest : W'.os = W.os ∧ W'.tape = W.tape ∧ W'.output = W.output ∧ W'.heap.size = W.heap.size := by rw [hW']; exact ⟨rfl, rfl, rfl, by simp⟩
  have hst : ∀ p ∈ R, ∀ k, p.sv.ownBlock = some k → k ≠ g := by
    intro p hp k hk' e
    subst e
    obtain ⟨_, ⟨e1, _⟩ | ⟨g', cap, cur, e, _, h4, _⟩⟩ := h.st p hp
    · rw [e1] at hk'; cases hk'
    · rw [e] at hk'
      obtain rfl : g' = k := by simpa [Value.ownBlock] using hk'
      exact hne h4 (fun _ _ e => by cases e) rfl
  refine ⟨.slice (some ⟨g, 0, none⟩) R.length c, R.set i y, map_updK h.rise hx y, ⟨?_, ?_, fun p hp => ?_, rise_set h.rise hx hn, fun p hp => ?_, h.lo, by rw [List.length_set]; exact h.room⟩, ⟨hrest.1.trans B.os, hrest.2.1.trans B.tape, hrest.2.2.1.trans B.output, by rw [hrest.2.2.2]; exact B.size, fun k hk hF => ?_⟩, fun k hk' => ?_⟩
  · rw [hoth rb (hne h.hb (fun _ _ e => by cases e))]; exact h.hb
  · rw [List.length_set, knCells_set4 R i x y hx]; exact r4
  · rcases mem_set hp with rfl | hp
    · exact ownsRow_less (ownsRow_same hrow fun k hk => hoth k (by have := (World.ownsRow.lt hrow k hk).1; omega)) hbase
    · exact (h.st p hp).same fun k hk' => hoth k (hst p hp k hk')
  · rcases mem_set hp with rfl | hp
    · exact hfit
    · exact h.fits p hp
  · rw [hoth k (fun e => hF (.inr (.inl (by show some g = _; rw [e]))))]
    exact B.block k hk
  · rcases hk' with rfl | hk' | ⟨p, hp, hk'⟩
    · exact .inl (.inl rfl)
    · exact .inl (.inr (.inl hk'))
    · rcases mem_set hp with rfl | hp
      · exact .inr (World.ownsRow.lt hrow k hk').1
      · exact .inl (.inr (.inr ⟨p, hp, hk'⟩))
/-- Boxes of other types are none of its blocks. -/
theorem RfTab.notFoot {base rb : Nat} {lv : Value} {R : List Rk} {W : World} (h : RfTab base rb lv R W) {k : Nat} {cs : Array Value} {fr : Nat × Nat} (hk : W.heap[k]? = some (.cells cs 23 fr)) : ¬ RFoot rb lv R k := by
  rintro (rfl | h1 | ⟨p, hp, h1⟩)
  · rw [h.hb] at hk; cases hk
  · obtain ⟨_, ⟨e1, _⟩ | ⟨g', cap, cur, e, _, h4, _⟩⟩ := h.row
    · rw [e1] at h1; cases h1
    · rw [e] at h1
      obtain rfl : g' = k := by simpa [Value.ownBlock] using h1
      rw [h4] at hk; cases hk
  · exact (h.st p hp).ne hk (fun _ _ e => by cases e) h1
/-- A step, and what turns the answer's box alone behind it. -/
theorem RfStep.after {base rb : Nat} {lv : Value} {R : List Rk} {L' : List Orc.Kn} {w W1 W2 : World} {zb : Nat} (s : RfStep base rb lv R L' w W1) (hS : SameBut W1 W2 zb) (hz : w.heap.size ≤ zb) {cs : Array Value} {fr : Nat × Nat} (hk : W1.heap[zb]? = some (.cells cs 23 fr)) : RfStep base rb lv R L' w W2 := by
  obtain ⟨lv', R', e, t, o, f⟩ := s
  refine ⟨lv', R', e, t.keep fun k hk' => hS.block k (fun e => ?_), ⟨hS.os.trans o.os, hS.tape.trans o.tape, hS.output.trans o.output, by rw [hS.size]; exact o.size, fun k hk' hF => (hS.block k (by omega)).trans (o.block k hk' hF)⟩, f⟩
  subst e
  exact t.notFoot hk hk'
/-- While a tip is taken. -/
structure RTk (w : World) (zb xb kb : Nat) (t : Orc.Tip) (x : Rk) (W : World) : Prop where
  bel : Below w.heap.size w W
  kr : W.heap[zb]? = some (.cells #[.string ⟨#[]⟩, .int .i64 0, .int .i64 0, .int .i64 0, .string ⟨#[]⟩] 23 (0, 0))
  kx : TipBox W xb t
  kk : W.heap[kb]? = some (.cells #[.string x.kn.name, x.sv, .string x.kn.key, .int .i64 x.kn.seq] 85 (0, 0))
  lo : w.heap.size ≤ zb ∧ w.heap.size ≤ xb ∧ w.heap.size ≤ kb ∧ zb ≠ xb
theorem RTk.below {w : World} {zb xb kb : Nat} {t : Orc.Tip} {x : Rk} {W W' : World} (h : RTk w zb xb kb t x W) (B : Below W.heap.size W W') : RTk w zb xb kb t x W' :=
  ⟨Below.more h.bel B, block_kept B h.kr, h.kx.below B, block_kept B h.kk, h.lo⟩
theorem zero_cells {W : World} {zb : Nat} (h : W.heap[zb]? = some (.cells #[.string ⟨#[]⟩, .int .i64 0, .int .i64 0, .int .i64 0, .string ⟨#[]⟩] 23 (0, 0))) : W.cell? ⟨zb, 0, none⟩ = some (.string ⟨#[]⟩) ∧ W.cell? ⟨zb, 1, none⟩ = some (.int .i64 0) ∧ W.cell? ⟨zb, 2, none⟩ = some (.int .i64 0) ∧ W.cell? ⟨zb, 3, none⟩ = some (.int .i64 0) ∧ W.cell? ⟨zb, 4, none⟩ = some (.string ⟨#[]⟩) ∧
    W.frozen? ⟨zb, 0, none⟩ = false ∧ W.frozen? ⟨zb, 1, none⟩ = false ∧ W.frozen? ⟨zb, 2, none⟩ = false ∧ W.frozen? ⟨zb, 3, none⟩ = false ∧ W.frozen? ⟨zb, 4, none⟩ = false := by
  obtain ⟨c, f⟩ := block_cells h
  exact ⟨c 0 _ rfl, c 1 _ rfl, c 2 _ rfl, c 3 _ rfl, c 4 _ rfl, f 0, f 1, f 2, f 3, f 4⟩
def RTakeOut (base rb : Nat) (lv : Value) (R : List Rk) (l : List UInt8) (today : Int) (w : World) (e : Ending) (w' : World) : Prop :=
  e = .returned (.tuple #[.agg #[.string (Orc.tfTip (R.map (·.kn)) l today).feed, .int .i64 (Orc.tfTip (R.map (·.kn)) l today).day, .int .i64 (Orc.tfTip (R.map (·.kn)) l today).n, .int .i64 (Orc.tfTip (R.map (·.kn)) l today).seq, .string (Orc.tfTip (R.map (·.kn)) l today).tag], .int .i64 (Orc.tfCode (R.map (·.kn)) l today)]) ∧
  RfStep base rb lv R (Orc.tfNext (R.map (·.kn)) l today) w w'
theorem tf_bad {L : List Orc.Kn} {l : List UInt8} {today c : Int} (hc : Orc.tfCode L l today = c) (h0 : c ≠ 0) : Orc.tfTip L l today = tip0 ∧ Orc.tfNext L l today = L := by
  unfold Orc.tfTip Orc.tfNext
  unfold Orc.tfCode at hc
  split
  · exact ⟨by first | rfl | trivial, by first | rfl | trivial⟩
  · rename_i ht
    rw [if_neg ht] at hc
    cases hd : Orc.dec l with
    | none => exact ⟨rfl, rfl⟩
    | some t =>
      rw [hd] at hc
      simp only at hc ⊢
      exact ⟨if_neg (by rw [hc]; exact h0), Orc.tkNext_no (by rw [hc]; exact h0)⟩
theorem RTakeOut.bad {base rb : Nat} {lv : Value} {R : List Rk} {l : List UInt8} {today c : Int} {w w' : World} (h : RfTab base rb lv R w) (hc : Orc.tfCode (R.map (·.kn)) l today = c) (h0 : c ≠ 0) (B : Below w.heap.size w w') : RTakeOut base rb lv R l today w (.returned (.tuple #[.agg #[.string ⟨#[]⟩, .int .i64 0, .int .i64 0, .int .i64 0, .string ⟨#[]⟩], .int .i64 c])) w' := by
  obtain ⟨e1, e2⟩ := tf_bad hc h0
  refine ⟨?_, by rw [e2]; exact RfStep.no h B⟩
  rw [e1, hc]
  rfl
theorem tf_code {L : List Orc.Kn} {l : List UInt8} {today : Int} (ht : ¬ (today < 0 ∨ 73048 < today)) {t : Orc.Tip} (hd : Orc.dec l = some t) : Orc.tfCode L l today = Orc.tkCode L t today := by
  unfold Orc.tfCode; rw [if_neg ht, hd]
theorem tf_none {L : List Orc.Kn} {l : List UInt8} {today : Int} (ht : ¬ (today < 0 ∨ 73048 < today)) (hd : Orc.dec l = none) : Orc.tfCode L l today = 210 := by
  unfold Orc.tfCode; rw [if_neg ht, hd]
theorem rk_code {L : List Orc.Kn} {t : Orc.Tip} {today : Int} {k : Orc.Kn} (h : Orc.findK L t.feed = some k) : Orc.tkCode L t today = if Orc.sign t k.key ≠ t.tag then 212 else if t.seq ≤ k.seq then 213 else if today < t.day ∨ t.day ≤ Orc.lastDay k.stamps then 214 else if k.stamps.length = 4096 then 215 else 0 := by
  unfold Orc.tkCode; rw [h]
theorem tf_ok {L : List Orc.Kn} {l : List UInt8} {today : Int} (ht : ¬ (today < 0 ∨ 73048 < today)) {t : Orc.Tip} (hd : Orc.dec l = some t) {k : Orc.Kn} (hf : Orc.findK L t.feed = some k) (hc : Orc.tkCode L t today = 0) : Orc.tfCode L l today = 0 ∧ Orc.tfTip L l today = t ∧ Orc.tfNext L l today = L.map (Orc.updK t.feed (Orc.tkKn k t)) := by
  unfold Orc.tfCode Orc.tfTip Orc.tfNext
  rw [if_neg ht, if_neg ht, if_neg ht, hd]
  simp only
  rw [if_pos hc]
  unfold Orc.tkNext
  rw [hf]
  simp only
  rw [if_pos hc]
  refine ⟨hc, ?_, ?_⟩ <;> first | rfl | trivial
/-- Stamps that are appended to a row of stamps. -/
theorem step_stamps {w : World} {ops : Array Oper} {o : Oper} {a : Act} {K : Act → World → Prop} {Q : Exit → Act → World → Prop} {E : Prop} (hgd : o.guard = none) (s x : Operand)
    (ho : o.op = .call { callee := .builtin .append, args := #[s, x], argTypes := #[50, 50] })
    (base : Nat) (v : Value) (L M : List (Int × Int)) (hs : a.eval s = v) (hown : StampRow base w v L) (ad : Addr) (m c : Nat) (hm : M.length = m) (hx : a.eval x = .slice (some ad) m c) (hM : ∀ j u, (stampCells M)[j]? = some u → w.cell? (ad.add j) = some u)
    (hbound : L.length + M.length ≤ 300000) (hbase : base ≤ w.heap.size)
    (h : ∀ v' w', StampRow base w' v' (L ++ M) → w.grownBy w' v.ownBlock → K (a.put o.dst v') w') :
    if Region.wanted o (yielded ops a.tmps) = true then Oper.wp Tryz.prog o a w K Q else E := by
  have hw : Region.wanted o (yielded ops a.tmps) = true := by simp [Region.wanted, hgd]
  rw [if_pos hw]
  subst hm
  obtain ⟨i, hi, hz, hsz, hby⟩ := info_parts info_stamp
  refine wp_append_own _ s x 50 ho base 54 i _ 2 16 Tryz.underlying50 hi hz hsz hby rfl (by decide) v L.length _ hs hown ad M.length c (stampCells M) hx (stampCells_len M) hM (stampCells_one M)
    (by unfold maxLen; omega) (by omega) hbase (fun v' w' h1 h2 _ => h v' w' ?_ h2)
  show World.ownsRow w' base _ 2 v' (L ++ M).length (stampCells (L ++ M))
  rw [List.length_append, stampCells_append]
  exact h1
theorem step_stamps_none {w : World} {ops : Array Oper} {o : Oper} {a : Act} {K : Act → World → Prop} {Q : Exit → Act → World → Prop} {E : Prop} (hgd : o.guard = none) (s x : Operand)
    (ho : o.op = .call { callee := .builtin .append, args := #[s, x], argTypes := #[50, 50] })
    (base : Nat) (v : Value) (L : List (Int × Int)) (hs : a.eval s = v) (hown : StampRow base w v L) (hx : a.eval x = .slice none 0 0) (h : K (a.put o.dst v) w) :
    if Region.wanted o (yielded ops a.tmps) = true then Oper.wp Tryz.prog o a w K Q else E := by
  have hw : Region.wanted o (yielded ops a.tmps) = true := by simp [Region.wanted, hgd]
  rw [if_pos hw]
  obtain ⟨i, hi, hz, hsz, hby⟩ := info_parts info_stamp
  have hrun := run_append_owned_none (P := Tryz.prog) (w := w) base 50 o.type 54 i 2 Tryz.underlying50 hi v L.length (stampCells L) hown
  unfold Oper.wp
  simp [execOp, ho, resolve, invoke, builtin, hs, hx, hrun, Result.andThen]
  exact h
theorem make_stamps (W : World) (n : Nat) (hn : n ≤ 100000) : (Instr.makeSlice 50 (.int .i64 0) (.int .i64 ((n : Int) + 1))).run Tryz.prog W = .ok (.slice (some ⟨W.heap.size, 0, none⟩) 0 (n + 1)) (W.alloc (.cells (madeCells (Value.agg #[.int .i64 0, .int .i64 0]).cells ((n + 1) * 2)) 54)) := by
  obtain ⟨i0, q1, q2, q3, q4⟩ := info_parts info_stamp
  have := run_make (P := Tryz.prog) (w := W) 50 54 i0 _ Tryz.underlying50 q1 q2 .i64 .i64 0 ((n : Int) + 1) (by omega) (by omega) (by rw [q4]; omega) (by omega)
  rw [q3] at this
  have e1 : ((n : Int) + 1).toNat = n + 1 := by omega
  rw [e1] at this
  exact this
theorem made_stamps (W : World) (n : Nat) (hn : n ≤ 100000) : StampRow W.heap.size (W.alloc (.cells (madeCells (Value.agg #[.int .i64 0, .int .i64 0]).cells ((n + 1) * 2)) 54)) (.slice (some ⟨W.heap.size, 0, none⟩) 0 (n + 1)) [] :=
  World.ownsRow_made W _ (n + 1) (Nat.le_refl _) (by unfold maxLen; omega) (by simp [madeCells])
theorem stamps_cells {base : Nat} {W : World} {v : Value} {g n c : Nat} {l : List (Int × Int)} (h : StampRow base W v l) (hv : v = .slice (some ⟨g, 0, none⟩) n c) : ∀ W', Below W.heap.size W W' → ∀ j u, (stampCells l)[j]? = some u → W'.cell? ((⟨g, 0, none⟩ : Addr).add j) = some u := by
  intro W' B j u hj
  subst hv
  obtain ⟨_, ⟨e1, e2⟩ | ⟨g', cap, cur, e, h2, h3, h4, h5, h6, h7⟩⟩ := h
  · cases e1
  · obtain rfl : g = g' := by simp only [Value.slice.injEq, Option.some.injEq, Addr.mk.injEq] at e; exact e.1.1
    have hlt := (List.getElem?_eq_some_iff.1 hj).1
    rw [stampCells_len] at hlt
    rw [add_gen, Nat.zero_add, B.cell (p := ⟨g, j, none⟩) (lt_of_block h3)]
    rw [← h7, List.getElem?_take_of_lt hlt, Array.getElem?_toList] at hj
    simp [World.cell?, h3, hj]
theorem RTk.ne {w : World} {zb xb kb : Nat} {t : Orc.Tip} {x : Rk} {W : World} (h : RTk w zb xb kb t x W) : zb ≠ kb ∧ xb ≠ kb := by
  constructor
  · intro e; have h1 := h.kr; rw [e, h.kk] at h1; injection h1 with h1; injection h1 with _ h2 _; exact absurd h2 (by decide)
  · intro e; have h1 : W.heap[xb]? = _ := h.kx; rw [e, h.kk] at h1; injection h1 with h1; injection h1 with _ h2 _; exact absurd h2 (by decide)
theorem RTk.setStamps {w : World} {zb xb kb : Nat} {t : Orc.Tip} {x : Rk} {W : World} (h : RTk w zb xb kb t x W) (v5 : Value) (S : List (Int × Int)) : RTk w zb xb kb t ⟨⟨x.kn.name, x.kn.key, x.kn.seq, S⟩, v5⟩ (W.setCell ⟨kb, 1, none⟩ v5) := by
  obtain ⟨n1, n2⟩ := h.ne
  exact ⟨h.bel.setCell (p := ⟨kb, 1, none⟩) h.lo.2.2.1 _, (setCell_other _ _ _ _ n1).trans h.kr, (setCell_other _ _ _ _ n2).trans h.kx, heap_setCell_same _ _ _ _ _ _ h.kk, h.lo⟩
theorem RTk.setSeq {w : World} {zb xb kb : Nat} {t : Orc.Tip} {x : Rk} {W : World} (h : RTk w zb xb kb t x W) (q : Int) : RTk w zb xb kb t ⟨⟨x.kn.name, x.kn.key, q, x.kn.stamps⟩, x.sv⟩ (W.setCell ⟨kb, 3, none⟩ (.int .i64 q)) := by
  obtain ⟨n1, n2⟩ := h.ne
  exact ⟨h.bel.setCell (p := ⟨kb, 3, none⟩) h.lo.2.2.1 _, (setCell_other _ _ _ _ n1).trans h.kr, (setCell_other _ _ _ _ n2).trans h.kx, heap_setCell_same _ _ _ _ _ _ h.kk, h.lo⟩
theorem row_block_ne {w : World} {base : Nat} {v : Value} {l : List (Int × Int)} (h : StampRow base w v l) {k : Nat} {cs : Array Value} {fr : Nat × Nat} (hk : w.heap[k]? = some (.cells cs 85 fr)) : ∀ g, v.ownBlock = some g → g ≠ k := by
  intro g hg e
  subst e
  exact h.ne hk (fun _ _ e => by cases e) hg
end Go.Proofs.YtmddaomchhigbaaGreatDoor

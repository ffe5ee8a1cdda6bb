/- Proved: the reference's SetKey as a contract. -/
import Derived.Test.YtmddaomchhigbaaGreatDoorOrcRefTab
import Derived.Laws.AppendOwnNone
import Derived.Laws.OwnMore
namespace Go.Proofs.YtmddaomchhigbaaGreatDoor
open Go.RowKit Go.Maps
open Led Orc
set_option linter.unusedVariables false
set_option linter.unusedSimpArgs false
set_option maxRecDepth 100000
theorem info_known : (Tryz.prog.info? 85).map (fun i => (i.zero, i.size, i.bytes)) = some (some (.agg #[.string ⟨#[]⟩, .slice none 0 0, .string ⟨#[]⟩, .int .i64 0]), 4, 64) := by kernel_rfl
/-- The reference's table turned. -/
def RfStep (base rb : Nat) (lv : Value) (R : List Rk) (L' : List Orc.Kn) (w w' : World) : Prop :=
  ∃ lv' R', R'.map (·.kn) = L' ∧ RfTab base rb lv' R' w' ∧ OnlyF (RFoot rb lv R) w w' ∧ ∀ k, RFoot rb lv' R' k → RFoot rb lv R k ∨ w.heap.size ≤ k
theorem RfStep.no {base rb : Nat} {lv : Value} {R : List Rk} {w w' : World} (h : RfTab base rb lv R w) (B : Below w.heap.size w w') : RfStep base rb lv R (R.map (·.kn)) w w' :=
  ⟨lv, R, rfl, h.below B, OnlyF.of_below B, fun k hk => .inl hk⟩
theorem knCells_set (l : List Rk) : ∀ (i : Nat) (x y : Rk), l[i]? = some x → y.kn.name = x.kn.name → y.sv = x.sv → y.kn.seq = x.kn.seq → knCells (l.set i y) = (knCells l).set (i * 4 + 2) (.string y.kn.key) := by
  induction l with
  | nil => intro i x y h; simp at h
  | cons a t ih =>
    intro i x y h hn hs hq
    cases i with
    | zero =>
      simp at h; subst h
      simp only [List.set_cons_zero, knCells, hn, hs, hq]
      rfl
    | succ i =>
      simp at h
      rw [show (i + 1) * 4 + 2 = i * 4 + 2 + 1 + 1 + 1 + 1 by omega]
      simp only [List.set_cons_succ, knCells, ih i x y h hn hs hq]
theorem findK_pair {L : List Orc.Kn} (h : L.Pairwise fun a b => a.name ≠ b.name) {k k' : Orc.Kn} (hk : k ∈ L) (hk' : k' ∈ L) (e : k.name = k'.name) : k = k' := by
  by_cases ek : k = k'
  · exact ek
  · exfalso
    have hp := List.pairwise_iff_getElem.1 h
    obtain ⟨i, hi, rfl⟩ := List.getElem_of_mem hk
    obtain ⟨j, hj, rfl⟩ := List.getElem_of_mem hk'
    rcases Nat.lt_trichotomy i j with hij | rfl | hij
    · exact hp i j hi hj hij e
    · exact ek rfl
    · exact hp j i hj hi hij e.symm
/-- One feed's entry turned is that entry set. -/
theorem map_updK {R : List Rk} (h : R.Pairwise fun a b => Op.bytesLess a.kn.name.toList b.kn.name.toList = true) {i : Nat} {x : Rk} (hx : R[i]? = some x) (y : Rk) : (R.set i y).map (·.kn) = (R.map (·.kn)).map (Orc.updK x.kn.name y.kn) := by
  have hn := rise_ne h
  apply List.ext_getElem?
  intro j
  rw [List.getElem?_map, List.getElem?_map, List.getElem?_map, List.getElem?_set]
  by_cases hij : i = j
  · subst hij
    have hi := (List.getElem?_eq_some_iff.1 hx).1
    rw [if_pos rfl, if_pos hi, hx]
    simp [Orc.updK]
  · rw [if_neg hij]
    cases hj : R[j]? with
    | none => rfl
    | some z =>
      simp only [Option.map_some]
      unfold Orc.updK
      rw [if_neg]
      intro e
      have hp := List.pairwise_iff_getElem.1 hn
      obtain ⟨hi, rfl⟩ := List.getElem?_eq_some_iff.1 hx
      obtain ⟨hj', rfl⟩ := List.getElem?_eq_some_iff.1 hj
      rcases Nat.lt_or_ge i j with h1 | h1
      · exact hp i j (by simpa using hi) (by simpa using hj') h1 (by simpa using e.symm)
      · exact hp j i (by simpa using hj') (by simpa using hi) (by omega) (by simpa using e)
theorem rise_set {R : List Rk} (h : R.Pairwise fun a b => Op.bytesLess a.kn.name.toList b.kn.name.toList = true) {i : Nat} {x y : Rk} (hx : R[i]? = some x) (hn : y.kn.name = x.kn.name) : (R.set i y).Pairwise fun a b => Op.bytesLess a.kn.name.toList b.kn.name.toList = true := by
  have e : (R.set i y).map (fun a => a.kn.name) = R.map (fun a => a.kn.name) := by
    rw [List.map_set, hn]
    apply List.ext_getElem?
    intro j
    rw [List.getElem?_set]
    by_cases hij : i = j
    · subst hij
      have hi := (List.getElem?_eq_some_iff.1 hx).1
      rw [if_pos rfl, if_pos (by simpa using hi), List.getElem?_map, hx]
      rfl
    · rw [if_neg hij]
  have h1 : (R.map (fun a => a.kn.name)).Pairwise fun a b => Op.bytesLess a.toList b.toList = true := List.pairwise_map.2 h
  rw [← e] at h1
  exact List.pairwise_map.1 h1
theorem mem_set {α : Type} {l : List α} {i : Nat} {y z : α} (h : z ∈ l.set i y) : z = y ∨ z ∈ l := by
  rcases List.mem_or_eq_of_mem_set h with h | h
  · exact .inr h
  · exact .inl h
/-- A key is laid over another one. -/
theorem RfTab.over {base rb : Nat} {R : List Rk} {W : World} {g n c : Nat} (h : RfTab base rb (.slice (some ⟨g, 0, none⟩) n c) R W) {i : Nat} {x : Rk} (hx : R[i]? = some x) {key : ByteArray} (hk : 0 < key.size ∧ key.size ≤ 64) :
    RfStep base rb (.slice (some ⟨g, 0, none⟩) n c) R ((R.map (·.kn)).map (Orc.updK x.kn.name { x.kn with key := key })) W (W.setCell ⟨g, i * 4 + 2, none⟩ (.string key)) := by
  obtain ⟨y, hy⟩ : ∃ y : Rk, y = ⟨{ x.kn with key := key }, x.sv⟩ := ⟨_, rfl⟩
  have hn : n = R.length := by
    obtain ⟨_, ⟨e1, _⟩ | ⟨g', cap, cur, e, _⟩⟩ := h.row
    · cases e1
    · simp only [Value.slice.injEq] at e; exact e.2.1
  subst hn
  have hne : ∀ {k : Nat} {o : Obj}, W.heap[k]? = some o → (∀ (cur : Array Value) (fr : Nat × Nat), o ≠ Obj.cells cur 85 fr) → k ≠ g := by
    intro k o hk' ho e
    subst e
    obtain ⟨_, ⟨e1, _⟩ | ⟨g', cap, cur, e, _, h4, _⟩⟩ := h.row
    · cases e1
    · obtain rfl : k = g' := by simp only [Value.slice.injEq, Option.some.injEq, Addr.mk.injEq] at e; exact e.1.1
      rw [hk'] at h4
      cases h4
      exact ho _ _ rfl
  obtain ⟨r1, r2⟩ := World.ownsRow.stored h.row (i * 4 + 2) (.string key)
  have hst : ∀ p ∈ R, ∀ k, p.sv.ownBlock = some k → k ≠ g := by
    intro p hp k hk' e
    subst e
    obtain ⟨_, ⟨e1, _⟩ | ⟨g', cap, cur, e, _, h4, _⟩⟩ := h.st p hp
    · rw [e1] at hk'; cases hk'
    · rw [e] at hk'
      obtain rfl : g' = k := by simpa [Value.ownBlock] using hk'
      exact hne h4 (fun _ _ e => by cases e) rfl
  have e1 : (R.set i y).map (·.kn) = (R.map (·.kn)).map (Orc.updK x.kn.name { x.kn with key := key }) := by rw [map_updK h.rise hx y, hy]
  refine ⟨.slice (some ⟨g, 0, none⟩) R.length c, R.set i y, e1, ⟨?_, ?_, fun p hp => ?_, rise_set h.rise hx (by rw [hy]), fun p hp => ?_, h.lo, by rw [List.length_set]; exact h.room⟩, ⟨rfl, rfl, rfl, by simp, fun k _ hF => ?_⟩, fun k hk' => ?_⟩
  · rw [Below.heap_setCell _ _ _ _ (show rb ≠ g from hne h.hb (fun _ _ e => by cases e))]; exact h.hb
  · rw [List.length_set, knCells_set R i x y hx (by rw [hy]) (by rw [hy]) (by rw [hy]), hy]; exact r1
  · have hold : ∀ q ∈ R, StampRow base (W.setCell ⟨g, i * 4 + 2, none⟩ (.string key)) q.sv q.kn.stamps := fun q hq => (h.st q hq).same fun k hk' => Below.heap_setCell _ _ _ _ (show k ≠ g from hst q hq k hk')
    rcases mem_set hp with rfl | hp
    · rw [hy]; exact hold x (List.mem_of_getElem? hx)
    · exact hold p hp
  · rcases mem_set hp with rfl | hp
    · have hf := h.fits x (List.mem_of_getElem? hx)
      rw [hy]
      exact ⟨hf.name, hk, hf.seq, hf.stamps, hf.days⟩
    · exact h.fits p hp
  · exact Below.heap_setCell _ _ _ _ (fun e => hF (.inr (.inl (by show some g = _; rw [e]))))
  · rcases hk' with rfl | hk' | ⟨p, hp, hk'⟩
    · exact .inl (.inl rfl)
    · exact .inl (.inr (.inl hk'))
    · rcases mem_set hp with rfl | hp
      · exact .inl (.inr (.inr ⟨x, List.mem_of_getElem? hx, by rw [hy] at hk'; exact hk'⟩))
      · exact .inl (.inr (.inr ⟨p, hp, hk'⟩))
/-- A place for a new feed. -/
structure InsAt (R : List Rk) (s : ByteArray) (a : Nat) : Prop where
  le : a ≤ R.length
  lo : ∀ j, j < a → ∀ x, R[j]? = some x → Op.bytesLess x.kn.name.toList s.toList = true
  hi : ∀ x, R[a]? = some x → Op.bytesLess x.kn.name.toList s.toList = false
def insL (R : List Rk) (a : Nat) (y : Rk) : List Rk := R.take a ++ y :: R.drop a
theorem insL_perm (R : List Rk) (a : Nat) (y : Rk) : (insL R a y).Perm (R ++ [y]) := by
  unfold insL
  have h1 : (R.take a ++ y :: R.drop a).Perm (y :: (R.take a ++ R.drop a)) := List.perm_middle
  rw [List.take_append_drop] at h1
  exact h1.trans (List.perm_append_comm (l₁ := [y]) (l₂ := R))
theorem InsAt.rise {R : List Rk} {s : ByteArray} {a : Nat} (h : InsAt R s a) (hr : R.Pairwise fun a b => Op.bytesLess a.kn.name.toList b.kn.name.toList = true) (hf : Orc.findK (R.map (·.kn)) s = none) {y : Rk} (hy : y.kn.name = s) : (insL R a y).Pairwise fun a b => Op.bytesLess a.kn.name.toList b.kn.name.toList = true := by
  have hgt : ∀ z ∈ R.drop a, Op.bytesLess s.toList z.kn.name.toList = true := by
    intro z hz
    have hne : ∀ z ∈ R, z.kn.name ≠ s := by
      intro z hz e
      unfold Orc.findK at hf
      have := List.find?_eq_none.1 hf z.kn (List.mem_map_of_mem hz)
      simp [e] at this
    have hd := List.Pairwise.sublist (List.drop_sublist a R) hr
    cases hda : R.drop a with
    | nil => rw [hda] at hz; cases hz
    | cons b t =>
      have hb : R[a]? = some b := by
        have : (R.drop a)[0]? = some b := by rw [hda]; rfl
        simpa using this
      have hbs := h.hi b hb
      have hbm : b ∈ R := List.mem_of_getElem? hb
      have h0 : Op.bytesLess s.toList b.kn.name.toList = true := by
        rw [bytesLess_eq] at hbs ⊢
        have h1 := of_decide_eq_false hbs
        refine decide_eq_true ?_
        exact Std.lt_of_le_of_ne h1 (fun h2 => (hne b hbm) (ba_ext (by rw [← ByteArray.toList_eq, ← ByteArray.toList_eq]; exact h2.symm)))
      rw [hda] at hd hz
      rcases List.mem_cons.1 hz with rfl | hz
      · exact h0
      · have h1 := (List.pairwise_cons.1 hd).1 z hz
        rw [bytesLess_eq] at h0 h1 ⊢
        exact decide_eq_true (List.lt_trans (of_decide_eq_true h0) (of_decide_eq_true h1))
  have hlt : ∀ z ∈ R.take a, Op.bytesLess z.kn.name.toList s.toList = true := by
    intro z hz
    obtain ⟨j, hj⟩ := List.getElem?_of_mem hz
    have hja := (List.getElem?_eq_some_iff.1 hj).1
    rw [List.length_take] at hja
    rw [List.getElem?_take_of_lt (by omega)] at hj
    exact h.lo j (by omega) z hj
  unfold insL
  rw [List.pairwise_append]
  refine ⟨List.Pairwise.sublist (List.take_sublist a R) hr, List.pairwise_cons.2 ⟨fun z hz => by rw [hy]; exact hgt z hz, List.Pairwise.sublist (List.drop_sublist a R) hr⟩, fun u hu z hz => ?_⟩
  rcases List.mem_cons.1 hz with rfl | hz
  · rw [hy]; exact hlt u hu
  · have h0 := hlt u hu
    have h1 := hgt z hz
    rw [bytesLess_eq] at h0 h1 ⊢
    exact decide_eq_true (List.lt_trans (of_decide_eq_true h0) (of_decide_eq_true h1))
/-- A feed is added. -/
theorem RfTab.add {base rb : Nat} {lv v' : Value} {R : List Rk} {W W1 : World} (h : RfTab base rb lv R W) (hbase : base ≤ W.heap.size) {s key : ByteArray} {a : Nat} (ha : InsAt R s a) (hf : Orc.findK (R.map (·.kn)) s = none) (hl : R.length ≠ 64) (hn : Led.isName s = true) (hk : 0 < key.size ∧ key.size ≤ 64)
    (B : Below W.heap.size W W1) (hr : W1.ownsRow W.heap.size 85 4 v' (insL R a ⟨⟨s, key, 0, []⟩, .slice none 0 0⟩).length (knCells (insL R a ⟨⟨s, key, 0, []⟩, .slice none 0 0⟩))) :
    RfStep base rb lv R ((insL R a ⟨⟨s, key, 0, []⟩, .slice none 0 0⟩).map (·.kn)) W (W1.setCell ⟨rb, 0, none⟩ v') := by
  have hlt := lt_of_block h.hb
  have hmem : ∀ {p : Rk}, p ∈ insL R a ⟨⟨s, key, 0, []⟩, .slice none 0 0⟩ → p = ⟨⟨s, key, 0, []⟩, .slice none 0 0⟩ ∨ p ∈ R := by
    intro p hp
    have := (insL_perm R a _).mem_iff.1 hp
    rcases List.mem_append.1 this with h1 | h1
    · exact .inr h1
    · exact .inl (List.mem_singleton.1 h1)
  have hoth : ∀ k, k ≠ rb → (W1.setCell ⟨rb, 0, none⟩ v').heap[k]? = W1.heap[k]? := fun k hk' => Below.heap_setCell _ _ _ _ (show k ≠ rb from hk')
  have hst : ∀ p ∈ R, ∀ k, p.sv.ownBlock = some k → k ≠ rb := by
    intro p hp k hk' e
    subst e
    exact (h.st p hp).ne h.hb (fun _ _ e => by cases e) hk'
  refine ⟨v', _, rfl, ⟨heap_setCell_same _ _ _ _ _ _ ((B.block rb hlt).trans h.hb), ?_, fun p hp => ?_, ha.rise h.rise hf rfl, fun p hp => ?_, h.lo, ?_⟩, ⟨B.os, B.tape, B.output, by have := B.size; simpa using this, fun k hk' hF => ?_⟩, fun k hk' => ?_⟩
  · refine ownsRow_less (ownsRow_same hr fun g hg => hoth g ?_) hbase
    have := (World.ownsRow.lt hr g hg).1
    omega
  · rcases hmem hp with rfl | hp
    · exact StampRow.nil _ _
    · exact (h.st p hp).same fun k hk' => (hoth k (hst p hp k hk')).trans (B.block k (World.ownsRow.lt (h.st p hp) k hk').2)
  · rcases hmem hp with rfl | hp
    · exact ⟨hn, hk, ⟨Int.le_refl _, by show (0 : Int) ≤ 4611686018427387904; omega⟩, by simp, fun x hx => by cases hx⟩
    · exact h.fits p hp
  · rw [(insL_perm R a _).length_eq, List.length_append]
    have := h.room
    show R.length + 1 ≤ 64
    omega
  · exact (hoth k (fun e => hF (.inl e))).trans (B.block k hk')
  · rcases hk' with rfl | hk' | ⟨p, hp, hk'⟩
    · exact .inl (.inl rfl)
    · exact .inr (World.ownsRow.lt hr k hk').1
    · rcases hmem hp with rfl | hp
      · cases hk'
      · exact .inl (.inr (.inr ⟨p, hp, hk'⟩))
/-- Feeds that are appended to a row of feeds. -/
theorem step_kns {w : World} {ops : Array Oper} {o : Oper} {a : Act} {K : Act → World → Prop} {Q : Exit → Act → World → Prop} {E : Prop} (hgd : o.guard = none) (s x : Operand)
    (ho : o.op = .call { callee := .builtin .append, args := #[s, x], argTypes := #[38, 38] })
    (base : Nat) (v : Value) (L M : List Rk) (hs : a.eval s = v) (hown : w.ownsRow base 85 4 v L.length (knCells L)) (ad : Addr) (m c : Nat) (hm : M.length = m) (hx : a.eval x = .slice (some ad) m c) (hM : ∀ j u, (knCells M)[j]? = some u → w.cell? (ad.add j) = some u) (h1 : ∀ u ∈ knCells M, u.oneCell' = true)
    (hbound : L.length + M.length ≤ 300000) (hbase : base ≤ w.heap.size)
    (h : ∀ v' w', w'.ownsRow base 85 4 v' (L ++ M).length (knCells (L ++ M)) → w.grownBy w' v.ownBlock → K (a.put o.dst v') w') :
    if Region.wanted o (yielded ops a.tmps) = true then Oper.wp Tryz.prog o a w K Q else E := by
  have hw : Region.wanted o (yielded ops a.tmps) = true := by simp [Region.wanted, hgd]
  rw [if_pos hw]
  subst hm
  obtain ⟨i, hi, hz, hsz, hby⟩ := info_parts info_known
  refine wp_append_own _ s x 38 ho base 85 i _ 4 64 Tryz.underlying38 hi hz hsz hby rfl (by decide) v L.length _ hs hown ad M.length c (knCells M) hx (knCells_len M) hM h1
    (by unfold maxLen; omega) (by omega) hbase (fun v' w' h1 h2 _ => h v' w' ?_ h2)
  rw [List.length_append, knCells_append]
  exact h1
theorem step_kns_none {w : World} {ops : Array Oper} {o : Oper} {a : Act} {K : Act → World → Prop} {Q : Exit → Act → World → Prop} {E : Prop} (hgd : o.guard = none) (s x : Operand)
    (ho : o.op = .call { callee := .builtin .append, args := #[s, x], argTypes := #[38, 38] })
    (base : Nat) (v : Value) (L : List Rk) (hs : a.eval s = v) (hown : w.ownsRow base 85 4 v L.length (knCells L)) (hx : a.eval x = .slice none 0 0) (h : K (a.put o.dst v) w) :
    if Region.wanted o (yielded ops a.tmps) = true then Oper.wp Tryz.prog o a w K Q else E := by
  have hw : Region.wanted o (yielded ops a.tmps) = true := by simp [Region.wanted, hgd]
  rw [if_pos hw]
  obtain ⟨i, hi, hz, hsz, hby⟩ := info_parts info_known
  have hrun := run_append_owned_none (P := Tryz.prog) (w := w) base 38 o.type 85 i 4 Tryz.underlying38 hi v L.length (knCells L) hown
  unfold Oper.wp
  simp [execOp, ho, resolve, invoke, builtin, hs, hx, hrun, Result.andThen]
  exact h
def RSetPost (base rb : Nat) (lv : Value) (R : List Rk) (s key : ByteArray) (w : World) (e : Ending) (w' : World) : Prop :=
  e = .returned (.int .i64 (Orc.skCode (R.map (·.kn)) s key)) ∧ ∃ L', L'.Perm (Orc.skNext (R.map (·.kn)) s key) ∧ RfStep base rb lv R L' w w'
theorem RSetPost.bad {base rb : Nat} {lv : Value} {R : List Rk} {s key : ByteArray} {w w' : World} (h : RfTab base rb lv R w) (hk : Orc.skOk s key = false) (B : Below w.heap.size w w') : RSetPost base rb lv R s key w (.returned (.int .i64 210)) w' := by
  have e1 : Orc.skCode (R.map (·.kn)) s key = 210 := if_neg (by rw [hk]; simp)
  have e2 : Orc.skNext (R.map (·.kn)) s key = R.map (·.kn) := if_neg (by rw [hk]; simp)
  exact ⟨by rw [e1], _, by rw [e2], RfStep.no h B⟩
theorem RSetPost.full {base rb : Nat} {lv : Value} {R : List Rk} {s key : ByteArray} {w w' : World} (h : RfTab base rb lv R w) (hk : Orc.skOk s key = true) (hf : Orc.findK (R.map (·.kn)) s = none) (hl : R.length = 64) (B : Below w.heap.size w w') : RSetPost base rb lv R s key w (.returned (.int .i64 215)) w' := by
  have e1 : Orc.skCode (R.map (·.kn)) s key = 215 := by unfold Orc.skCode; rw [if_pos hk, hf]; simp only []; rw [if_pos (by rw [List.length_map]; exact hl)]
  have e2 : Orc.skNext (R.map (·.kn)) s key = R.map (·.kn) := by unfold Orc.skNext; rw [if_pos hk, hf]; simp only []; rw [if_pos (by rw [List.length_map]; exact hl)]
  exact ⟨by rw [e1], _, by rw [e2], RfStep.no h B⟩
theorem RSetPost.over {base rb : Nat} {R : List Rk} {s key : ByteArray} {w : World} {g n c : Nat} {i : Nat} {x : Rk} (h : RfTab base rb (.slice (some ⟨g, 0, none⟩) n c) R w) (hk : Orc.skOk s key = true) (hx : R[i]? = some x) (hn : x.kn.name = s) (hf : Orc.findK (R.map (·.kn)) s = some x.kn) :
    RSetPost base rb (.slice (some ⟨g, 0, none⟩) n c) R s key w (.returned (.int .i64 0)) (w.setCell ⟨g, i * 4 + 2, none⟩ (.string key)) := by
  have e1 : Orc.skCode (R.map (·.kn)) s key = 0 := by unfold Orc.skCode; rw [if_pos hk, hf]
  have e2 : Orc.skNext (R.map (·.kn)) s key = (R.map (·.kn)).map (Orc.updK s { x.kn with key := key }) := by unfold Orc.skNext; rw [if_pos hk, hf]
  exact ⟨by rw [e1], _, by rw [e2, ← hn], h.over hx (skOk_parts hk).2⟩
theorem RSetPost.add {base rb : Nat} {lv v' : Value} {R : List Rk} {s key : ByteArray} {a : Nat} {w w1 : World} (h : RfTab base rb lv R w) (hbase : base ≤ w.heap.size) (hk : Orc.skOk s key = true) (ha : InsAt R s a) (hf : Orc.findK (R.map (·.kn)) s = none) (hl : R.length ≠ 64) (B : Below w.heap.size w w1)
    (hr : w1.ownsRow w.heap.size 85 4 v' (insL R a ⟨⟨s, key, 0, []⟩, .slice none 0 0⟩).length (knCells (insL R a ⟨⟨s, key, 0, []⟩, .slice none 0 0⟩))) :
    RSetPost base rb lv R s key w (.returned (.int .i64 0)) (w1.setCell ⟨rb, 0, none⟩ v') := by
  have e1 : Orc.skCode (R.map (·.kn)) s key = 0 := by unfold Orc.skCode; rw [if_pos hk, hf]; simp only []; rw [if_neg (by rw [List.length_map]; exact hl)]
  have e2 : Orc.skNext (R.map (·.kn)) s key = R.map (·.kn) ++ [⟨s, key, 0, []⟩] := by unfold Orc.skNext; rw [if_pos hk, hf]; simp only []; rw [if_neg (by rw [List.length_map]; exact hl)]
  obtain ⟨n1, k1⟩ := skOk_parts hk
  refine ⟨by rw [e1], _, ?_, h.add hbase ha hf hl n1 k1 B hr⟩
  rw [e2]
  have := (insL_perm R a ⟨⟨s, key, 0, []⟩, .slice none 0 0⟩).map (·.kn)
  rw [List.map_append] at this
  exact this
theorem make_known (W : World) (n : Nat) (hn : n ≤ 100000) : (Instr.makeSlice 38 (.int .i64 0) (.int .i64 ((n : Int) + 1))).run Tryz.prog W = .ok (.slice (some ⟨W.heap.size, 0, none⟩) 0 (n + 1)) (W.alloc (.cells (madeCells (Value.agg #[.string ⟨#[]⟩, .slice none 0 0, .string ⟨#[]⟩, .int .i64 0]).cells ((n + 1) * 4)) 85)) := by
  obtain ⟨i0, q1, q2, q3, q4⟩ := info_parts info_known
  have := run_make (P := Tryz.prog) (w := W) 38 85 i0 _ Tryz.underlying38 q1 q2 .i64 .i64 0 ((n : Int) + 1) (by omega) (by omega) (by rw [q4]; omega) (by omega)
  rw [q3] at this
  have e1 : ((n : Int) + 1).toNat = n + 1 := by omega
  rw [e1] at this
  exact this
theorem made_known (W : World) (n : Nat) (hn : n ≤ 100000) : (W.alloc (.cells (madeCells (Value.agg #[.string ⟨#[]⟩, .slice none 0 0, .string ⟨#[]⟩, .int .i64 0]).cells ((n + 1) * 4)) 85)).ownsRow W.heap.size 85 4 (.slice (some ⟨W.heap.size, 0, none⟩) 0 (n + 1)) ([] : List Rk).length (knCells []) :=
  World.ownsRow_made W _ (n + 1) (Nat.le_refl _) (by unfold maxLen; omega) (by simp [madeCells])
theorem knCells_one {l : List Rk} (h : ∀ p ∈ l, ∃ a n c, p.sv = .slice a n c) : ∀ u ∈ knCells l, u.oneCell' = true := by
  induction l with
  | nil => intro u hu; cases hu
  | cons x t ih =>
    intro u hu
    simp only [knCells, List.mem_cons] at hu
    obtain ⟨a, n, c, e⟩ := h x (List.mem_cons_self ..)
    rcases hu with rfl | rfl | rfl | rfl | hu
    · rfl
    · rw [e]; rfl
    · rfl
    · rfl
    · exact ih (fun p hp => h p (List.mem_cons_of_mem _ hp)) u hu
theorem RfTab.svSlice {base rb : Nat} {lv : Value} {R : List Rk} {W : World} (h : RfTab base rb lv R W) : ∀ p ∈ R, ∃ a n c, p.sv = .slice a n c := fun p hp => by
  obtain ⟨a, c, e, _⟩ := (h.st p hp).form
  exact ⟨a, _, c, e⟩
theorem RfTab.cellAt {base rb : Nat} {R : List Rk} {W : World} {g n c : Nat} (h : RfTab base rb (.slice (some ⟨g, 0, none⟩) n c) R W) (W' : World) (B : Below W.heap.size W W') (j : Nat) (u : Value) (hj : (knCells R)[j]? = some u) : W'.cell? ⟨g, j, none⟩ = some u := by
  obtain ⟨_, ⟨e1, e2⟩ | ⟨g', cap, cur, e, h2, h3, h4, h5, h6, h7⟩⟩ := h.row
  · cases e1
  · obtain rfl : g = g' := by simp only [Value.slice.injEq, Option.some.injEq, Addr.mk.injEq] at e; exact e.1.1
    have hlt := (List.getElem?_eq_some_iff.1 hj).1
    rw [knCells_len] at hlt
    rw [B.cell (p := ⟨g, j, none⟩) (lt_of_block h3)]
    rw [← h7, List.getElem?_take_of_lt hlt, Array.getElem?_toList] at hj
    simp [World.cell?, h3, hj]
end Go.Proofs.YtmddaomchhigbaaGreatDoor

/- Proved: the reference's Post: its code is the ledger's, its list of postings and its list of accounts are those of what stands. -/
import Derived.Test.YtmmbhmlhenpgbaaDoorRefAdd
import Derived.Test.YtmmbhmlhenpgbaaDoorLedTwo
import Derived.Laws.AppendOwnNone
import Derived.Deep.AppendLies
namespace Go.Proofs.YtmmbhmlhenpgbaaDoor
open Go.RowKit
open Led
set_option linter.unusedVariables false
set_option linter.unusedSimpArgs false
set_option maxRecDepth 100000

theorem wide_addR (x : Leg) (hx : Wide x) : ∀ L : List Leg, (∀ y ∈ L, Wide y) → ∀ z ∈ addR L x, Wide z
  | [], _, z, hz => by simp [addR] at hz; subst hz; exact hx
  | y :: t, h, z, hz => by
    have hy := h y (List.mem_cons_self ..)
    have ht : ∀ u ∈ t, Wide u := fun u hu => h u (List.mem_cons_of_mem _ hu)
    unfold addR at hz
    split at hz
    · rcases List.mem_cons.1 hz with rfl | hz
      · exact hy
      · exact wide_addR x hx t ht z hz
    · split at hz
      · rcases List.mem_cons.1 hz with rfl | hz
        · exact ⟨hx.1, hx.2.1, by show _ ≤ wrap64 _; unfold wrap64; omega, by show wrap64 _ ≤ _; unfold wrap64; omega⟩
        · exact ht z hz
      · rcases List.mem_cons.1 hz with rfl | hz
        · exact hx
        · exact h z hz
theorem wide_fold : ∀ (M L : List Leg), (∀ x ∈ M, Wide x) → (∀ y ∈ L, Wide y) → ∀ z ∈ M.foldl addR L, Wide z
  | [], L, _, h => h
  | x :: t, L, hM, h => wide_fold t (addR L x) (fun y hy => hM y (List.mem_cons_of_mem _ hy)) (wide_addR x (hM x (List.mem_cons_self ..)) L h)
theorem len_addR (x : Leg) : ∀ L : List Leg, (addR L x).length ≤ L.length + 1
  | [] => by simp [addR]
  | y :: t => by
    unfold addR
    split
    · have := len_addR x t; simp; omega
    · split <;> simp
theorem len_fold : ∀ (M L : List Leg), (M.foldl addR L).length ≤ L.length + M.length
  | [], L => by simp
  | x :: t, L => by
    have h1 := len_fold t (addR L x)
    have h2 := len_addR x L
    rw [List.foldl_cons, List.length_cons]; omega
theorem fits_wide {x : Leg} (h : Fits x) : Wide x := by
  have h24 : (24 : Nat) ≤ maxLen := by decide
  exact ⟨Nat.le_trans h.party h24, Nat.le_trans h.cur h24, h.lo, h.hi⟩
theorem legs_64 {p : Post} (h : right p = true) : p.legs.length ≤ 64 := (head_parts (right_parts h).1).2.2.2.2.2
theorem legsOf_len : ∀ S : List Post, S.all right = true → (legsOf S).length ≤ 64 * S.length
  | [], _ => by simp [legsOf]
  | x :: t, h => by
    rw [List.all_cons, Bool.and_eq_true] at h
    have h1 := legsOf_len t h.2
    have h2 := legs_64 h.1
    show (x.legs ++ legsOf t).length ≤ _
    rw [List.length_append, List.length_cons]; omega
theorem legsOf_snoc (ps : List Post) (i : Nat) (x : Post) (h : ps[i]? = some x) : legsOf (ps.take (i + 1)) = legsOf (ps.take i) ++ x.legs := by
  rw [take_snoc ps i x h]; unfold legsOf; rw [List.flatMap_append]; simp

/-- The reference's ledger in memory; its postings' legs came in. -/
structure RefIs (base rb : Nat) (w0 : World) (pv : Value) (S : List Post) (W : World) : Prop where
  at' : ∃ hv q, W.heap[rb]? = some (.cells #[pv, hv] 50 (0, 0)) ∧ PostRow base W pv q ∧ q.map Prod.fst = S ∧ (∀ x ∈ q, LegsAt w0 x.2 x.1.legs) ∧ LegRow base W hv (heldR S)
  lo : base ≤ rb
  ok : S.all right = true
  room : S.length ≤ 4096
  held : (heldR S).length ≤ 256
theorem RefIs.below {base rb : Nat} {w0 : World} {pv : Value} {S : List Post} {W W' : World} (h : RefIs base rb w0 pv S W) (B : Below W.heap.size W W') : RefIs base rb w0 pv S W' := by
  obtain ⟨hv, q, h1, h2, h3, h4, h5⟩ := h.at'
  exact ⟨⟨hv, q, (B.block _ (lt_of_block h1)).trans h1, h2.ofBlock (fun g _ hg => B.block g hg), h3, h4, h5.under B⟩, h.lo, h.ok, h.room, h.held⟩
theorem RefIs.wide {base rb : Nat} {w0 : World} {pv : Value} {S : List Post} {W : World} (h : RefIs base rb w0 pv S W) : ∀ x ∈ heldR S, Wide x :=
  wide_fold _ _ (fun x hx => fits_wide (fits_all h.ok x hx)) (fun x hx => by cases hx)
/-- A call on the other ledger leaves it. -/
theorem RefIs.only {base rb lb : Nat} {w0 : World} {pv pv2 : Value} {S : List Post} {w w' : World} (h : RefIs base rb w0 pv S w) (ho : Only lb pv2 w w') (hne : rb ≠ lb) (hsep : ∀ g, pv.ownBlock = some g → pv2.ownBlock ≠ some g)
    (hrow : ∀ {k : Nat} {o : Obj}, w.heap[k]? = some o → (∀ (cur : Array Value) (fr : Nat × Nat), o ≠ Obj.cells cur 24 fr) → some k ≠ pv2.ownBlock) {v2 : Value} {m2 : Nat} (hl2 : w.heap[lb]? = some (.cells #[v2, .map (some m2)] 71 (0, 0))) : RefIs base rb w0 pv S w' := by
  obtain ⟨hv, q, h1, h2, h3, h4, h5⟩ := h.at'
  have keep : ∀ {k : Nat} {o : Obj}, w.heap[k]? = some o → k ≠ lb → some k ≠ pv2.ownBlock → w'.heap[k]? = w.heap[k]? := fun hk a b => ho.block _ (lt_of_block hk) a b
  refine ⟨⟨hv, q, (keep h1 hne (hrow h1 (fun cur fr e => by cases e))).trans h1, ?_, h3, h4, ?_⟩, h.lo, h.ok, h.room, h.held⟩
  · obtain ⟨a0, a1 | ⟨g, cap, cur, hv, a3, a4, a5⟩⟩ := h2
    · exact ⟨a0, Or.inl a1⟩
    · refine ⟨a0, Or.inr ⟨g, cap, cur, hv, a3, ?_, a5⟩⟩
      rw [keep a4 (by rintro rfl; rw [hl2] at a4; cases a4) (fun e => hsep g (by rw [hv]; rfl) e.symm)]
      exact a4
  · refine h5.other fun g cur fr hg => keep hg ?_ (hrow hg (fun cur fr e => by cases e))
    rintro rfl; rw [hl2] at hg; cases hg
theorem RefIs.lt {base rb : Nat} {w0 : World} {pv : Value} {S : List Post} {W : World} (h : RefIs base rb w0 pv S W) : rb < W.heap.size ∧ ∀ g, pv.ownBlock = some g → base ≤ g ∧ g < W.heap.size := by
  obtain ⟨hv, q, h1, h2, h3, h4, h5⟩ := h.at'
  exact ⟨lt_of_block h1, fun g hg => World.ownsRow.lt h2 g hg⟩
theorem RefIs.row {base rb : Nat} {w0 : World} {pv : Value} {S : List Post} {W : World} (h : RefIs base rb w0 pv S W) {k : Nat} {o : Obj} (hk : W.heap[k]? = some o) (ho : ∀ (cur : Array Value) (fr : Nat × Nat), o ≠ Obj.cells cur 24 fr) : some k ≠ pv.ownBlock := by
  obtain ⟨hv, q, h1, h2, h3, h4, h5⟩ := h.at'
  exact h2.ne hk ho
/-- Postings that came in, with their legs' slices. -/
theorem posts_cells {w : World} {b : Nat} : ∀ (ps : List Post) (off : Nat), PostCells w b off ps → ∃ q : List (Post × Value), q.map Prod.fst = ps ∧ (∀ x ∈ q, LegsAt w x.2 x.1.legs) ∧ ∀ j u, (postCells q)[j]? = some u → w.cell? ⟨b, off + j, none⟩ = some u
  | [], off, _ => ⟨[], rfl, fun x hx => (by cases hx), fun j u hj => (by simp [postCells] at hj)⟩
  | x :: t, off, h => by
    obtain ⟨h1, h2, ⟨lv, h3, h4⟩, _⟩ := h 0 x rfl
    rw [Nat.zero_mul, Nat.add_zero] at h1 h2 h3
    obtain ⟨q, q1, q2, q3⟩ := posts_cells t (off + 3) (fun i y hy => by
      have := h (i + 1) y (by simpa using hy)
      rw [show off + (i + 1) * 3 = off + 3 + i * 3 by omega] at this
      exact this)
    refine ⟨(x, lv) :: q, by rw [List.map_cons, q1], fun y hy => ?_, fun j u hj => ?_⟩
    · rcases List.mem_cons.1 hy with rfl | hy
      · exact h4
      · exact q2 y hy
    · match j, hj with
      | 0, hj => simp [postCells] at hj; subst hj; exact h1
      | 1, hj => simp [postCells] at hj; subst hj; exact h2
      | 2, hj => simp [postCells] at hj; subst hj; exact h3
      | j + 3, hj =>
        have := q3 j u (by simpa [postCells] using hj)
        rw [show off + 3 + j = off + (j + 3) by omega] at this
        exact this
theorem postCells_len : ∀ q : List (Post × Value), (postCells q).length = q.length * 3
  | [] => rfl
  | x :: t => by simp [postCells, postCells_len t]; omega
theorem postCells_one : ∀ (q : List (Post × Value)), (∀ x ∈ q, ∃ p n c, x.2 = .slice p n c) → ∀ u ∈ postCells q, u.oneCell' = true
  | [], _, u, h => by simp [postCells] at h
  | x :: t, hq, u, h => by
    simp only [postCells, List.mem_cons] at h
    rcases h with rfl | rfl | rfl | h
    · rfl
    · rfl
    · obtain ⟨p, n, c, e⟩ := hq x (List.mem_cons_self ..)
      rw [e]; rfl
    · exact postCells_one t (fun y hy => hq y (List.mem_cons_of_mem _ hy)) u h

/-- An append of postings that came in, or of none. -/
theorem wpList_posts {w : World} {ops : Array Oper} {rest : List Oper} {o : Oper} {a : Act} {Q : Exit → Act → World → Prop} (hgd : o.guard = none) (s x : Operand)
    (ho : o.op = .call { callee := .builtin .append, args := #[s, x], argTypes := #[33, 33] })
    (base : Nat) (v : Value) (q : List (Post × Value)) (ps : List Post) (hs : a.eval s = v) (hown : PostRow base w v q) (w0 : World) (p : Option Addr) (c : Nat) (hx : a.eval x = .slice p ps.length c) (hp : PostsAt w0 (.slice p ps.length c) ps) (B : Below w0.heap.size w0 w)
    (h63 : q.length + ps.length ≤ 3000000000000) (hbase : base ≤ w.heap.size)
    (h : ∀ v' w' r, PostRow base w' v' (q ++ r) → r.map Prod.fst = ps → (∀ y ∈ r, LegsAt w0 y.2 y.1.legs) → w.grownBy w' v.ownBlock → (∀ g, v'.ownBlock = some g → v.ownBlock = some g ∨ w.heap.size ≤ g) → wpList Tryd.prog ops Q rest (a.put o.dst v') w') : wpList Tryd.prog ops Q (o :: rest) a w := by
  obtain ⟨i, hi, hz, hsz, hby⟩ := info_parts info_post
  have hmt : ps = [] → wpList Tryd.prog ops Q (o :: rest) a w := by
    rintro rfl
    rcases hp with ⟨⟨p0, hv⟩, _⟩ | ⟨b, off, cap, hv, h1, h2, h3, h4⟩
    all_goals
      cases p with
      | none =>
        obtain rfl : c = 0 := by first | (simp at hv; exact hv.2) | (simp at hv)
        exact wpList_append_own_none hgd s x _ ho base 24 i 3 Tryd.underlying33 hi v q.length (postCells q) hs hown hx (h v w [] (by rw [List.append_nil]; exact hown) rfl (fun y hy => (by cases hy)) (World.grownBy.refl _ _) (fun g hg => .inl hg))
      | some ad =>
        obtain ⟨pp, pc, hpv, _, _⟩ := hown.form
        rcases hown with ⟨h0, ⟨hnil, hq0⟩ | ⟨g, cap', cur, hv', hrest⟩⟩
        · have hown : PostRow base w v q := ⟨h0, .inl ⟨hnil, hq0⟩⟩
          refine wpList_append_own w hgd s x _ ho base 24 i _ 3 40 Tryd.underlying33 hi hz hsz hby rfl (by decide) v q.length (postCells q) hs hown ad 0 c [] hx rfl (fun j u hj => (by simp at hj)) (fun u hu => (by cases hu)) (by unfold maxLen; simp at h63 ⊢; omega) (by simp at h63 ⊢; omega) hbase (fun v' w' e1 e2 e3 => ?_)
          obtain rfl := e3.2 ⟨hnil, rfl⟩
          refine h _ w' [] ?_ rfl (fun y hy => (by cases hy)) e2 (fun g hg => by cases hg)
          rw [List.append_nil] at e1 ⊢
          exact e1
        · have hown : PostRow base w v q := ⟨h0, .inr ⟨g, cap', cur, hv', hrest⟩⟩
          have hcap := hrest.2.2.1
          subst hv'
          refine wpList_append_fits w hgd s x _ ho base 24 i 3 Tryd.underlying33 hi hsz g q.length cap' (postCells q) hs hown ad 0 c [] hx rfl (fun j u hj => (by simp at hj)) (fun u hu => (by cases hu)) hcap (fun w' e1 e2 => ?_)
          refine h _ w' [] ?_ rfl (fun y hy => (by cases hy)) e2 (fun g hg => .inl hg)
          rw [List.append_nil] at e1 ⊢
          exact e1
  by_cases hps : ps = []
  · exact hmt hps
  · rcases hp with ⟨_, e⟩ | ⟨b, off, cap, hv, h1, h2, h3, h4⟩
    · exact absurd e hps
    · obtain ⟨rfl, rfl⟩ : p = some ⟨b, off, none⟩ ∧ c = cap := by simp at hv; exact hv
      obtain ⟨r, r1, r2, r3⟩ := posts_cells ps off h4
      have hrl : r.length = ps.length := by rw [← r1, List.length_map]
      refine wpList_append_lies w hgd s x _ ho base 24 i _ 3 40 Tryd.underlying33 hi hz hsz hby rfl (by decide) v q.length (postCells q) hs hown ⟨b, off, none⟩ ps.length c (postCells r) hx (by rw [postCells_len, hrl])
        (fun j u hj => by rw [add_gen, B.cell (p := ⟨b, off + j, none⟩) h3]; exact r3 j u hj) (postCells_one r (fun y hy => by obtain ⟨p1, c1, e, _⟩ := LegsAt.row (r2 y hy); exact ⟨p1, _, c1, e⟩)) (List.length_pos_iff.2 hps) (by unfold maxLen; omega) (by omega) hbase _ rfl (fun g cap' w' e1 e2 e3 _ => h _ w' r ?_ r1 r2 e2 (fun g' hg' => ?_))
      · show World.ownsRow w' base _ 3 _ (q ++ r).length (postCells (q ++ r))
        rw [List.length_append, postCells_append, hrl]
        exact e1
      · cases hg'
        rcases e3 with e3 | rfl
        · exact .inl e3
        · exact .inr (Nat.le_refl _)
def RefPosted (base rb : Nat) (w0 : World) (pv : Value) (S ps : List Post) (w : World) (e : Ending) (w' : World) : Prop :=
  e = .returned (.int .i64 (postCode S.length (mapOf S) ps)) ∧ ∃ pv', RefIs base rb w0 pv' (nextP S ps) w' ∧ Only rb pv w w' ∧ ∀ g, pv'.ownBlock = some g → pv.ownBlock = some g ∨ w.heap.size ≤ g
/-- It was refused. -/
theorem RefPosted.no {base rb : Nat} {w0 : World} {pv : Value} {S ps : List Post} {w w' : World} {c : Int} (h : RefIs base rb w0 pv S w) (hb : Below w.heap.size w w') (hc : postCode S.length (mapOf S) ps = c) (h0 : c ≠ 0) : RefPosted base rb w0 pv S ps w (.returned (.int .i64 c)) w' := by
  have e : nextP S ps = S := if_neg (by rw [hc]; exact h0)
  refine ⟨by rw [hc], pv, by rw [e]; exact h.below hb, Only.of_below hb, fun g hg => .inl hg⟩
/-- The stores behind the append. -/
theorem refStored {base rb : Nat} {w0 : World} {pv hv hv' v' : Value} {S ps : List Post} {w wr w' : World} {q r : List (Post × Value)} (h : RefIs base rb w0 pv S w) (hbk : w.heap[rb]? = some (.cells #[pv, hv] 50 (0, 0))) (hb : Below w.heap.size w wr)
    (hq : q.map Prod.fst = S ∧ ∀ x ∈ q, LegsAt w0 x.2 x.1.legs) (hpw : PostRow base wr pv q) (hl : LegRow base wr hv' (heldR (S ++ ps))) (e1 : PostRow base w' v' (q ++ r)) (e2 : r.map Prod.fst = ps) (e3 : ∀ y ∈ r, LegsAt w0 y.2 y.1.legs) (e4 : wr.grownBy w' pv.ownBlock)
    (e5 : ∀ g, v'.ownBlock = some g → pv.ownBlock = some g ∨ wr.heap.size ≤ g) (hall : ps.all right = true) (hc : postCode S.length (mapOf S) ps = 0) (hrm : S.length + ps.length ≤ 4096 ∧ (heldR (S ++ ps)).length ≤ 256) :
    (w'.cell? ⟨rb, 0, none⟩ = some pv ∧ w'.frozen? ⟨rb, 0, none⟩ = false) ∧ (w'.cell? ⟨rb, 1, none⟩ = some hv ∧ w'.frozen? ⟨rb, 1, none⟩ = false) ∧
    RefPosted base rb w0 pv S ps w (.returned (.int .i64 0)) ((w'.setCell ⟨rb, 0, none⟩ v').setCell ⟨rb, 1, none⟩ hv') := by
  have hlt := lt_of_block hbk
  have k1 : wr.heap[rb]? = some (.cells #[pv, hv] 50 (0, 0)) := (hb.block _ hlt).trans hbk
  have k2 : w'.heap[rb]? = some (.cells #[pv, hv] 50 (0, 0)) := (e4.block rb (lt_of_block k1) (hpw.ne k1 (fun cur fr e => by cases e))).trans k1
  have k3 : (w'.setCell ⟨rb, 0, none⟩ v').heap[rb]? = some (.cells #[v', hv] 50 (0, 0)) := heap_setCell_same _ _ _ _ _ _ k2
  have k4 : ((w'.setCell ⟨rb, 0, none⟩ v').setCell ⟨rb, 1, none⟩ hv').heap[rb]? = some (.cells #[v', hv'] 50 (0, 0)) := heap_setCell_same _ _ _ _ _ _ k3
  have ho : ∀ j, j ≠ rb → ((w'.setCell ⟨rb, 0, none⟩ v').setCell ⟨rb, 1, none⟩ hv').heap[j]? = w'.heap[j]? := fun j hj => (Below.heap_setCell _ _ _ _ hj).trans (Below.heap_setCell _ _ _ _ hj)
  have c2 := heap_cells2 k2
  have c3 := heap_cells2 k3
  have hn : nextP S ps = S ++ ps := if_pos hc
  refine ⟨⟨c2.1, c2.2.2 0⟩, ⟨c2.2.1, c2.2.2 1⟩, by rw [hc], v', ?_, ?_, ?_⟩
  · rw [hn]
    refine ⟨⟨hv', q ++ r, k4, ?_, by rw [List.map_append, hq.1, e2], fun x hx => ?_, ?_⟩, h.lo, by rw [List.all_append, h.ok, hall]; rfl, by rw [List.length_append]; exact hrm.1, hrm.2⟩
    · have hne : ∀ g cap cur fr, v' = .slice (some ⟨g, 0, none⟩) (q ++ r).length cap → w'.heap[g]? = some (.cells cur 24 fr) → g ≠ rb := by
        rintro g cap cur fr _ hg rfl
        rw [k2] at hg; cases hg
      obtain ⟨a0, a1 | ⟨g, cap, cur, hv2, a3, a4, a5⟩⟩ := e1
      · exact ⟨a0, Or.inl a1⟩
      · exact ⟨a0, Or.inr ⟨g, cap, cur, hv2, a3, by rw [ho g (hne g cap cur _ hv2 a4)]; exact a4, a5⟩⟩
    · rcases List.mem_append.1 hx with hx | hx
      · exact hq.2 x hx
      · exact e3 x hx
    · refine hl.other fun g cur fr hg => ?_
      rw [ho g (by rintro rfl; rw [k1] at hg; cases hg)]
      exact e4.block g (lt_of_block hg) (hpw.ne hg (fun cur fr e => by cases e))
  · refine ⟨e4.os.trans hb.os, e4.tape.trans hb.tape, e4.output.trans hb.output, ?_, fun k hk h1 h2 => ?_⟩
    · have := hb.size; have := e4.size; simp; omega
    · rw [ho k h1, e4.block k (Nat.lt_of_lt_of_le hk hb.size) h2, hb.block k hk]
  · intro g hg
    rcases e5 g hg with h1 | h1
    · exact .inl h1
    · exact .inr (Nat.le_trans hb.size h1)
set_option maxHeartbeats 4000000 in
theorem refPost_any (base rb : Nat) (w0 : World) (pv : Value) (S : List Post) (w : World) (h : RefIs base rb w0 pv S w) (hb : base ≤ w.heap.size) (v : Value) (ps : List Post) (hp0 : PostsAt w0 v ps) (B0 : Below w0.heap.size w0 w) (hw0 : w0.heap.size ≤ base) (hps : ps.length ≤ 1000000000) :
    Calls Tryd.prog 22 #[.pointer (some ⟨rb, 0, none⟩), v] w (RefPosted base rb w0 pv S ps w) := by
  have HR := hid' h
  have HP := hid' (fun W (B : Below w.heap.size w W) => hp0.below (B0.trans (B.mono B0.size)))
  obtain ⟨vp, vc, rfl, _, _⟩ := PostsAt.row hp0
  have HP0 := hid' hp0
  have HB0 := hid' B0
  obtain ⟨hv, q, h1, h2, h3, h4, h5⟩ := h.at'
  obtain ⟨pp, pc, hpv, _⟩ := h2.form
  obtain ⟨hp, hc, hhv⟩ := h5.form
  have hql : q.length = S.length := by rw [← h3, List.length_map]
  rw [hql] at hpv
  subst hpv; subst hhv
  have HBK := hid' h1
  have HPR := hid' h2
  have HQ := hid' (And.intro h3 h4)
  have HL := hid' h5
  have HN := hid' hps
  have HBS := hid' hb
  have HW0 := hid' hw0
  have hSl : (S.length : Int) ≤ 4096 := by have := h.room; omega
  have hPl : (ps.length : Int) ≤ 1000000000 := by omega
  have hHl : ((heldR S).length : Int) ≤ 256 := by have := h.held; omega
  obtain ⟨c0, c1, cf⟩ := heap_cells2 h1
  have HW := hid' (Below.refl w.heap.size w)
  clear h h1 h2 h3 h4 h5 hql hp0 B0 hw0 hps hb
  go_enter Tryd.func22, Tryd.ntmps22
  go_wp2_with fail
  have HALL0 := hid' (show (ps.take 0).all right = true by simp)
  clear cf
  go_loopw [6] (fun iv wr => ∃ i : Nat, iv = .int .i64 (i : Int) ∧ i ≤ ps.length ∧ Hid ((ps.take i).all right = true) ∧ Hid (Below w.heap.size w wr)) (fun iv _ => ps.length - (intOf iv).toNat)
  case atStart => exact ⟨0, rfl, Nat.zero_le _, HALL0, HW⟩
  case round =>
    obtain ⟨i, rfl, hi, HA, HB⟩ := hrel
    by_cases hin : i < ps.length
    · obtain ⟨x, hx⟩ : ∃ x, ps[i]? = some x := ⟨_, List.getElem?_eq_getElem hin⟩
      obtain ⟨b, off, lv, rfl, hb, x1, x2, x3, x4, d1, d2, d3, d4⟩ := PostsAt.at (HP.out wr HB.out) hx (Below.refl _ _)
      have g1 : decide ((i : Int) < (ps.length : Int)) = true := by simp; omega
      have j1 : (0 : Int) ≤ (i : Int) := by omega
      have j2 : (i : Int) < (ps.length : Int) := by omega
      have HX := hid' hx
      have HRT := hid' (refRight_any x lv wr x4 ⟨d1, d2⟩ ⟨d3, d4⟩)
      obtain ⟨lp, lc, hlv, _⟩ := LegsAt.row x4
      subst hlv
      clear hx x4 d1 d2 d3 d4 hin c0 c1
      go_wp2_with fail
      refine HRT.out.mono ?_
      rintro e w5 ⟨rfl, hb5⟩
      have HB5 := hid' (Below.more HB.out hb5)
      clear hb5 x1 x2 x3
      cases hr : right x with
      | true =>
        have HA5 := hid' (show (ps.take (i + 1)).all right = true by rw [take_snoc ps i x HX.out, List.all_append, HA.out]; simp [hr])
        clear hr
        go_wp2_with fail
        go_roundw
        case rel => exact ⟨i + 1, by go_num, by omega, HA5, HB5⟩
        case measure => simp [intOf]; omega
      | false =>
        have HC := hid' (show postCode S.length (mapOf S) ps = 200 by
          unfold postCode
          rw [if_pos]
          rw [List.all_eq_false]
          exact ⟨x, List.mem_of_getElem? HX.out, by rw [hr]; simp⟩)
        clear hr
        go_wp2_with fail
        go_ret
        exact RefPosted.no HR.out HB5.out HC.out (by decide)
    · obtain rfl : i = ps.length := by omega
      have g9 : decide (ps.length < ps.length) = false := by simp
      have HALL := hid' (show ps.all right = true by have := HA.out; rwa [List.take_length] at this)
      have HL1 := hid' (show LegRow base wr (.slice hp (heldR S).length hc) ((legsOf (ps.take 0)).foldl addR (heldR S)) from HL.out.ofBlock (fun g _ hg => HB.out.block g hg))
      clear hin HA c0 c1
      go_wp2_with fail
      obtain ⟨wo, rfl⟩ : ∃ wo : World, wo = wr := ⟨_, rfl⟩
      go_loopw [5, 8] (fun hvv iv wr => ∃ (i : Nat) (p : Option Addr) (c n : Nat), iv = .int .i64 (i : Int) ∧ i ≤ ps.length ∧ hvv = .slice p n c ∧ Hid (n = ((legsOf (ps.take i)).foldl addR (heldR S)).length) ∧ Hid (LegRow base wr (.slice p n c) ((legsOf (ps.take i)).foldl addR (heldR S))) ∧ Hid (Below w.heap.size w wr)) (fun _ iv _ => ps.length - (intOf iv).toNat)
      case atStart => exact ⟨0, hp, hc, _, rfl, Nat.zero_le _, rfl, hid' rfl, HL1, HB⟩
      case round =>
        obtain ⟨i, p, c, n, rfl, hi, rfl, HNN, HLR, HB⟩ := hrel
        by_cases hin : i < ps.length
        · obtain ⟨x, hx⟩ : ∃ x, ps[i]? = some x := ⟨_, List.getElem?_eq_getElem hin⟩
          have g1 : decide ((i : Int) < (ps.length : Int)) = true := by simp; omega
          have j1 : (0 : Int) ≤ (i : Int) := by omega
          have j2 : (i : Int) < (ps.length : Int) := by omega
          have HX := hid' hx
          have HRX := hid' (List.all_eq_true.1 HALL.out x (List.mem_of_getElem? hx))
          have HLI := hid' (show LegRow base wr (.slice p n c) ((x.legs.take 0).foldl addR ((legsOf (ps.take i)).foldl addR (heldR S))) from HLR.out)
          have HNI := hid' (show n = ((x.legs.take 0).foldl addR ((legsOf (ps.take i)).foldl addR (heldR S))).length from HNN.out)
          clear hx hin HLR HNN
          go_wp2_with fail
          obtain ⟨wi, rfl⟩ : ∃ wi : World, wi = wr := ⟨_, rfl⟩
          go_loopw [5, 9] (fun hvv jv wr => ∃ (j : Nat) (p : Option Addr) (c n : Nat), jv = .int .i64 (j : Int) ∧ j ≤ x.legs.length ∧ hvv = .slice p n c ∧ Hid (n = ((x.legs.take j).foldl addR ((legsOf (ps.take i)).foldl addR (heldR S))).length) ∧ Hid (LegRow base wr (.slice p n c) ((x.legs.take j).foldl addR ((legsOf (ps.take i)).foldl addR (heldR S)))) ∧ Hid (Below w.heap.size w wr)) (fun _ jv _ => x.legs.length - (intOf jv).toNat)
          case atStart => exact ⟨0, p, c, n, rfl, Nat.zero_le _, rfl, HNI, HLI, HB⟩
          case round =>
            obtain ⟨j, p, c, n, rfl, hj, rfl, HNN, HLR, HB⟩ := hrel
            obtain ⟨b, off, lv, hxp0, hb, x1, x2, x3, x4, _⟩ := PostsAt.at (HP.out wr HB.out) HX.out (Below.refl _ _)
            subst hxp0
            obtain ⟨lp, lc, hlv, hll, _⟩ := LegsAt.row x4
            subst hlv
            by_cases hjn : j < x.legs.length
            · obtain ⟨y, hy⟩ : ∃ y, x.legs[j]? = some y := ⟨_, List.getElem?_eq_getElem hjn⟩
              obtain ⟨yb, yo, yc, hv, y0, y1, y2⟩ := LegsAt.cells x4 (Below.refl _ _) hy
              obtain ⟨rfl, rfl⟩ : lp = some ⟨yb, yo, none⟩ ∧ lc = yc := by simp at hv; exact hv
              have m0 : decide ((j : Int) < (x.legs.length : Int)) = true := by simp; omega
              have m1 : (0 : Int) ≤ (j : Int) := by omega
              have m2 : (j : Int) < (x.legs.length : Int) := by omega
              have HY := hid' hy
              have HWD := hid' (show ∀ z ∈ (x.legs.take j).foldl addR ((legsOf (ps.take i)).foldl addR (heldR S)), Wide z from wide_fold _ _ (fun z hz => fits_wide (fits_right HRX.out z (List.mem_of_mem_take hz))) (wide_fold _ _ (fun z hz => fits_wide (fits_all (List.all_eq_true.2 (fun u hu => List.all_eq_true.1 HALL.out u (List.mem_of_mem_take hu))) z hz)) HR.out.wide))
              have HLN := hid' (show ((x.legs.take j).foldl addR ((legsOf (ps.take i)).foldl addR (heldR S))).length ≤ 1000000000000 by
                have e1 := len_fold (x.legs.take j) ((legsOf (ps.take i)).foldl addR (heldR S))
                have e2 := len_fold (legsOf (ps.take i)) (heldR S)
                have e3 := legsOf_len (ps.take i) (List.all_eq_true.2 (fun u hu => List.all_eq_true.1 HALL.out u (List.mem_of_mem_take hu)))
                have e4 := legs_64 HRX.out
                have e5 := HR.out.held
                have e6 := HN.out
                rw [List.length_take] at e1 e3
                omega)
              have HADD := hid' (add_any base _ _ y wr HLR.out HWD.out HLN.out)
              have HST := hid' (show ∀ H : List Leg, (x.legs.take (j + 1)).foldl addR H = addR ((x.legs.take j).foldl addR H) y from fun H => by rw [take_snoc x.legs j y HY.out, List.foldl_append]; rfl)
              clear hv hy hjn x4
              go_wp2_with fail
              refine HADD.out.mono ?_
              rintro e w5 ⟨v5, rfl, hr5, hb5⟩
              have HB5 := hid' (Below.more HB.out hb5)
              obtain ⟨p5, c5, hv5⟩ := hr5.form
              obtain ⟨n5, hn5⟩ : ∃ n5, Hid (n5 = (addR ((x.legs.take j).foldl addR ((legsOf (ps.take i)).foldl addR (heldR S))) y).length) := ⟨_, hid' rfl⟩
              rw [← hn5.out] at hv5
              subst hv5
              have HL5 := hid' (show LegRow base w5 (.slice p5 n5 c5) ((x.legs.take (j + 1)).foldl addR ((legsOf (ps.take i)).foldl addR (heldR S))) by rw [HST.out]; exact hr5.lower (Nat.le_trans HBS.out HB.out.size))
              have HN5 := hid' (show n5 = ((x.legs.take (j + 1)).foldl addR ((legsOf (ps.take i)).foldl addR (heldR S))).length by rw [HST.out]; exact hn5.out)
              clear hr5 hb5 y0 y1 y2 x1 x2 x3
              go_wp2_with fail
              go_roundw
              case rel => exact ⟨j + 1, p5, c5, n5, by go_num, by omega, rfl, HN5, HL5, HB5⟩
              case measure => simp [intOf]; omega
            · obtain rfl : j = x.legs.length := by omega
              have m9 : decide (x.legs.length < x.legs.length) = false := by simp
              have HST := hid' (show ∀ H : List Leg, (legsOf (ps.take (i + 1))).foldl addR H = (x.legs.take x.legs.length).foldl addR ((legsOf (ps.take i)).foldl addR H) from fun H => by rw [legsOf_snoc ps i x HX.out, List.foldl_append, List.take_length])
              have HL5 := hid' (show LegRow base wr (.slice p n c) ((legsOf (ps.take (i + 1))).foldl addR (heldR S)) by rw [HST.out]; exact HLR.out)
              have HN5 := hid' (show n = ((legsOf (ps.take (i + 1))).foldl addR (heldR S)).length by rw [HST.out]; exact HNN.out)
              clear hjn x4
              go_wp2_with fail
              go_roundw
              case rel => exact ⟨i + 1, p, c, n, by go_num, by omega, rfl, HN5, HL5, HB⟩
              case measure => simp [intOf]; omega
        · obtain rfl : i = ps.length := by omega
          have g9 : decide (ps.length < ps.length) = false := by simp
          have e0 : (legsOf (ps.take ps.length)).foldl addR (heldR S) = heldR (S ++ ps) := by rw [List.take_length, heldR_append]
          rw [e0] at HLR HNN
          obtain ⟨_, k1, k2⟩ := heap_cells2 ((HB.out.block _ (lt_of_block HBK.out)).trans HBK.out)
          have k0 := (HB.out.cell (p := ⟨rb, 0, none⟩) (lt_of_block HBK.out)).trans (heap_cells2 HBK.out).1
          have kf := k2 0
          have kf1 := k2 1
          have HPC := hid' (postCode_R HR.out.ok HALL.out)
          clear hin e0 k1 k2
          have hnl : (0 : Int) ≤ (n : Int) := by omega
          have HPRW := hid' (show PostRow base wr (.slice pp S.length pc) q from HPR.out.ofBlock (fun g _ hg => HB.out.block g hg))
          have HSZ := hid' (Nat.le_trans HBS.out HB.out.size)
          have HBW0 := hid' (show Below w0.heap.size w0 wr from HB0.out.trans (HB.out.mono HB0.out.size))
          have hqe : q.length = S.length := by rw [← HQ.out.1, List.length_map]
          have HQS := hid' (show q.length + ps.length ≤ 3000000000000 by have := HR.out.room; have := HN.out; omega)
          clear hqe
          by_cases hf1 : (4096 : Int) < (S.length : Int) + (ps.length : Int)
          · have f1 : decide ((4096 : Int) < (S.length : Int) + (ps.length : Int)) = true := decide_eq_true hf1
            have HC := hid' (show postCode S.length (mapOf S) ps = 201 by rw [HPC.out, if_pos]; exact .inl (by omega))
            clear hf1
            go_wp2_with fail
            go_ret
            exact RefPosted.no HR.out HB.out HC.out (by decide)
          · have f1 : decide ((4096 : Int) < (S.length : Int) + (ps.length : Int)) = false := decide_eq_false hf1
            by_cases hf2 : (256 : Int) < (n : Int)
            · have f2 : decide ((256 : Int) < (n : Int)) = true := decide_eq_true hf2
              have HC := hid' (show postCode S.length (mapOf S) ps = 201 by rw [HPC.out, if_pos]; exact .inr (by rw [← HNN.out]; omega))
              clear hf1 hf2
              go_wp2_with fail
              go_ret
              exact RefPosted.no HR.out HB.out HC.out (by decide)
            · have f2 : decide ((256 : Int) < (n : Int)) = false := decide_eq_false hf2
              have HC := hid' (show postCode S.length (mapOf S) ps = 0 by rw [HPC.out, if_neg]; rw [← HNN.out]; omega)
              have HRM := hid' (show S.length + ps.length ≤ 4096 ∧ n ≤ 256 from ⟨by omega, by omega⟩)
              clear hf1 hf2
              go_wp2_with (refine wpList_posts rfl _ _ rfl base _ q ps rfl HPRW.out w0 _ _ rfl HP0.out HBW0.out HQS.out HSZ.out (fun v' w' r e1 e2 e3 e4 e5 => ?_); refine halt' ?_)
              have HST := hid' (refStored HR.out HBK.out HB.out HQ.out HPRW.out HLR.out e1 e2 e3 e4 e5 HALL.out HC.out (by rw [← HNN.out]; exact HRM.out))
              obtain ⟨p9, c9, hv9, _⟩ := e1.form
              obtain ⟨n9, hn9⟩ : ∃ n9, n9 = (q ++ r).length := ⟨_, rfl⟩
              rw [← hn9] at hv9
              clear hn9
              subst hv9
              obtain ⟨⟨t0, t1⟩, ⟨t2, t3⟩, _⟩ := HST.out
              clear e1 e2 e3 e4 e5 k0 kf kf1
              refine hid' ?_
              go_wp2_with fail
              go_ret
              exact HST.out.2.2
end Go.Proofs.YtmmbhmlhenpgbaaDoor

/- Proved: ledger.Posts at a ledger: its iterator hands out every posting in its place, its legs in a new row; posts gives them all. -/
import Derived.Test.YtmmbhmlhenpgbaaDoorLedHeld2
import Derived.Test.YtmmbhmlhenpgbaaDoorTells
namespace Go.Proofs.YtmmbhmlhenpgbaaDoor
open Go.RowKit Go.Shelf
open Led
set_option linter.unusedVariables false
set_option linter.unusedSimpArgs false
set_option maxRecDepth 100000
attribute [local go_sem] Oper.semAt_some

/-- A posting that is handed out: its place, what it is, its legs as a value. -/
structure PostV where
  i : Nat
  p : Led.Post
  lv : Value
def postEnc (x : PostV) : Array Value := #[.int .i64 (x.i : Int), .agg #[.int .i64 x.p.day, .int .i64 x.p.id, x.lv]]
/-- What is told of it. -/
def PostTold (n₀ : Nat) (pre : List PostV) (x : PostV) (W : World) : Prop := x.i = pre.length ∧ LegRow n₀ W x.lv x.p.legs ∧ right x.p = true
theorem LegRow.lower {base base' : Nat} {w : World} {v : Value} {L : List Leg} (h : LegRow base w v L) (hb : base' ≤ base) : LegRow base' w v L := by
  obtain ⟨h0, h1 | ⟨g, cap, cur, hv, h3, h4⟩⟩ := h
  · exact ⟨h0, Or.inl h1⟩
  · exact ⟨h0, Or.inr ⟨g, cap, cur, hv, by omega, h4⟩⟩
theorem grown_below {W W2 : World} (hb : Below W.heap.size W W2) : W.grownBy W2 none := ⟨hb.os, hb.tape, hb.output, hb.size, fun k hk _ => hb.block k hk⟩
/-- One posting of a row. -/
theorem PostRow.at {base : Nat} {W : World} {v : Value} {q : List (Post × Value)} (h : PostRow base W v q) {k : Nat} {x : Post × Value} (hx : q[k]? = some x) :
    ∃ g cap, v = .slice (some ⟨g, 0, none⟩) q.length cap ∧ W.cell? ⟨g, k * 3, none⟩ = some (.int .i64 x.1.day) ∧ W.cell? ⟨g, k * 3 + 1, none⟩ = some (.int .i64 x.1.id) ∧ W.cell? ⟨g, k * 3 + 2, none⟩ = some x.2 := by
  have hk : k < q.length := (List.getElem?_eq_some_iff.1 hx).1
  obtain ⟨h0, ⟨_, hz⟩ | ⟨g, cap, cur, rfl, h2, h3, h4, h5, h6, h7⟩⟩ := h
  · omega
  · obtain ⟨c0, c1, c2⟩ := postCells_at q k x hx
    rw [← h7, List.getElem?_take_of_lt (by omega), Array.getElem?_toList] at c0 c1 c2
    exact ⟨g, cap, rfl, by simp [World.cell?, h3, c0], by simp [World.cell?, h3, c1], by simp [World.cell?, h3, c2]⟩
theorem PostRow.form {base : Nat} {W : World} {v : Value} {q : List (Post × Value)} (h : PostRow base W v q) : ∃ p c, v = .slice p q.length c ∧ q.length ≤ c ∧ c ≤ maxLen := by
  obtain ⟨h0, ⟨rfl, hz⟩ | ⟨g, cap, cur, rfl, h2, h3, h4, h5, _⟩⟩ := h
  · exact ⟨none, 0, by rw [hz], by omega, Nat.zero_le _⟩
  · exact ⟨_, cap, rfl, h4, h5⟩
def PostsAll (q : List (Post × Value)) (xs : List PostV) : Prop := xs.map (·.p) = q.map Prod.fst
/-- Between two rounds of Posts' loop. -/
structure PostsIt (J : List PostV → World → Prop) (w0 : World) (q : List (Post × Value)) (k : Nat) (pre : List PostV) (W : World) : Prop where
  J : J pre W
  bel : Below w0.heap.size w0 W
  fst : pre.map (·.p) = (q.take k).map Prod.fst
  len : pre.length = k

theorem posts_round {J : List PostV → World → Prop} {B : Nat} {w0 wr w2 : World} {q : List (Post × Value)} {k : Nat} {pre : List PostV} {day id : Int} {lv lv2 : Value} {legs : List Led.Leg} (h : PostsIt J w0 q k pre wr) (hJ : AbidesFrom B J)
    (bl : Below (wr.alloc (.cells #[.int .i64 day, .int .i64 id, lv] 24)).heap.size (wr.alloc (.cells #[.int .i64 day, .int .i64 id, lv] 24)) w2) (ol : LegRow (wr.alloc (.cells #[.int .i64 day, .int .i64 id, lv] 24)).heap.size w2 lv2 legs) :
    (w2.cell? ⟨wr.heap.size, 2, none⟩ = some lv ∧ w2.frozen? ⟨wr.heap.size, 2, none⟩ = false) ∧
    ((w2.setCell ⟨wr.heap.size, 2, none⟩ lv2).cell? ⟨wr.heap.size, 0, none⟩ = some (.int .i64 day) ∧ (w2.setCell ⟨wr.heap.size, 2, none⟩ lv2).cell? ⟨wr.heap.size, 1, none⟩ = some (.int .i64 id) ∧ (w2.setCell ⟨wr.heap.size, 2, none⟩ lv2).cell? ⟨wr.heap.size, 2, none⟩ = some lv2) ∧
    PostsIt J w0 q k pre (w2.setCell ⟨wr.heap.size, 2, none⟩ lv2) ∧ LegRow w0.heap.size (w2.setCell ⟨wr.heap.size, 2, none⟩ lv2) lv2 legs := by
  have hs : (wr.alloc (.cells #[.int .i64 day, .int .i64 id, lv] 24)).heap.size = wr.heap.size + 1 := by simp
  have hb : w2.heap[wr.heap.size]? = some (.cells #[.int .i64 day, .int .i64 id, lv] 24 (0, 0)) := (bl.block wr.heap.size (by omega)).trans (heap_alloc_new wr _)
  have hb3 := heap_setCell_same _ _ 2 _ _ lv2 hb
  have hB : Below wr.heap.size wr (w2.setCell ⟨wr.heap.size, 2, none⟩ lv2) := (((Below.refl _ wr).alloc (Nat.le_refl _) _).trans (bl.mono (by omega))).setCell (p := ⟨wr.heap.size, 2, none⟩) (Nat.le_refl _) _
  refine ⟨⟨by simp [World.cell?, hb], by simp [World.frozen?, hb]⟩, ?_, ⟨hJ _ _ _ none h.J (grown_below hB) (fun r e => by cases e), h.bel.trans (hB.mono h.bel.size), h.fst, h.len⟩, ?_⟩
  · simp only [List.setIfInBounds_toArray, List.set_cons_succ, List.set_cons_zero] at hb3
    exact ⟨by simp [World.cell?, hb3], by simp [World.cell?, hb3], by simp [World.cell?, hb3]⟩
  · have hlow := h.bel.size
    rw [hs] at ol
    obtain ⟨h0, h1 | ⟨g, cap, cur, hv, h3, h4, h5⟩⟩ := ol
    · exact ⟨h0, Or.inl h1⟩
    · exact ⟨h0, Or.inr ⟨g, cap, cur, hv, by omega, (Below.heap_setCell _ _ _ _ (by simp; omega)).trans h4, h5⟩⟩
set_option maxHeartbeats 2000000 in
theorem posts1_tells (n : Nat) (hn : 5 ≤ n) (base lb : Nat) (pv : Value) (mb nn : Nat) (q : List (Post × Value)) (M : DataW Unit) (Bm : Nat) (w0 w : World) (hL : LedgerAt base lb pv mb nn q M w0) (hB : Below w0.heap.size w0 w)
    (hBm : w.heap[Bm]? = some (.cells #[.pointer (some ⟨lb, 0, none⟩)] 36 (0, 0))) (hq : q.length ≤ 1000000) :
    SeqTells Fence.wide n Tryd.prog 59 #[.pointer (some ⟨Bm, 0, none⟩)] postEnc (PostTold w0.heap.size) (Below w0.heap.size) (PostsAll q) q.length w := by
  intro l J W hW hJ hY h0
  have hbox := (hW.block Bm (lt_of_block hBm)).trans hBm
  have hBW : Below w0.heap.size w0 W := hB.trans (hW.mono hB.size)
  have hLW := hL.below hBW
  have hm : W.cell? ⟨Bm, 0, none⟩ = some (.pointer (some ⟨lb, 0, none⟩)) := by simp [World.cell?, hbox]
  obtain ⟨c0, c1, _⟩ := heap_cells2 hLW.hb
  obtain ⟨vp, vc, hv, hvc, hvm⟩ := hLW.own.form
  subst hv
  have hql : (q.length : Int) ≤ 1000000 := by omega
  have f42 : Fence.wide.fn 42 := trivial
  have h1 : 1 ≤ n := by omega
  have HY := hid' hY
  have HJ := hid' hJ
  have H0 := hid' (show PostsIt J w0 q 0 [] W from ⟨h0, hBW, rfl, rfl⟩)
  have HL := hid' hL
  have HV := hid' (And.intro hvc hvm)
  clear hY hJ h0 hW hBm hL hbox hLW hBW hB hvc hvm
  refine callsIn_of_wp Tryd.func59 rfl trivial ?_ rfl
  simp only [Tryd.ntmps59, List.size_toArray, List.length_cons, List.length_nil, Nat.reduceAdd, Nat.reduceSub, Array.replicate_succ, Array.replicate_zero, List.push_toArray, List.append_toArray, List.nil_append, List.cons_append]
  gi_wp2
  clear hm c0 c1
  gi_loopw [12] (fun iv wr => ∃ (k : Nat) (pre : List PostV), iv = .int .i64 (k : Int) ∧ k ≤ q.length ∧ Hid (PostsIt J w0 q k pre wr)) (fun iv _ => q.length - (intOf iv).toNat)
  case atStart => exact ⟨0, [], rfl, Nat.zero_le _, H0⟩
  case round =>
    obtain ⟨k, pre, rfl, hk, HK⟩ := hrel
    by_cases hkn : k < q.length
    · obtain ⟨x, hx⟩ : ∃ x, q[k]? = some x := ⟨_, List.getElem?_eq_getElem hkn⟩
      have hLr := HL.out.below HK.out.bel
      obtain ⟨g, cap, hv, x0, x1, x2⟩ := hLr.own.at hx
      obtain ⟨rfl, rfl⟩ : vp = some ⟨g, 0, none⟩ ∧ vc = cap := by simp at hv; exact hv
      clear hv
      obtain ⟨hxl, hxr⟩ := hLr.legs x (List.mem_of_getElem? hx)
      obtain ⟨lp, lc, hlv⟩ := hxl.form
      have hfit : ∀ y ∈ x.1.legs, Fits y := fun y hy => legOk_fits (List.all_eq_true.1 (right_parts hxr).2.1 y hy)
      have h64 := (head_parts (right_parts hxr).1).2.2.2.2.2
      have HLL := hid' (And.intro (hxl.legs hfit) h64)
      have HXR := hid' hxr
      have HX := hid' hx
      have g0 : decide ((k : Int) < (q.length : Int)) = true := by simp; omega
      have j1 : (0 : Int) ≤ (k : Int) := by omega
      have j2 : (k : Int) < (q.length : Int) := by omega
      obtain ⟨⟨day, id, legs⟩, lv⟩ := x
      simp only at hlv x0 x1 x2 HLL HXR
      subst hlv
      clear hLr hxl hxr hfit h64 hx
      gi_wp2_with (gi_at_call 42; refine (callsIn_wide.2 (cloneLegs_any _ legs _ (HLL.out.1.below ((Below.refl _ _).alloc (Nat.le_refl _) _)) (right_ne (p := ⟨day, id, legs⟩) HXR.out) (by have := HLL.out.2; omega))).mono ?_; rintro e w2 ⟨lv2, rfl, ol, bl⟩; obtain ⟨lp2, lc2, hlv2⟩ := ol.form; subst hlv2; obtain ⟨⟨p2, pf⟩, ⟨q0, q1, q2⟩, hK3, hR3⟩ := posts_round HK.out HJ.out bl ol; obtain ⟨fn, tmps, assign, body, hy, hR⟩ := HY.out pre ⟨k, ⟨day, id, legs⟩, .slice lp2 legs.length lc2⟩ _ hK3.J ⟨HK.out.len.symm, hR3, HXR.out⟩ (by rw [HK.out.len]; exact hkn); have HRR := hid' hR; have HK3 := hid' hK3; have hen : postEnc ⟨k, ⟨day, id, legs⟩, .slice lp2 legs.length lc2⟩ = #[.int .i64 (k : Int), .agg #[.int .i64 day, .int .i64 id, .slice lp2 legs.length lc2]] := rfl; rw [hen] at hy; clear hen hR hK3 hR3 ol bl)
      refine HRR.out.mono ?_
      rintro e W3 ⟨rfl, hJ3, hk3⟩
      have HN := hid' (show PostsIt J w0 q (k + 1) (pre ++ [⟨k, ⟨day, id, legs⟩, .slice lp2 legs.length lc2⟩]) W3 from ⟨hJ3, HK3.out.bel.trans hk3, by rw [List.map_append, HK3.out.fst, take_snoc q k _ HX.out, List.map_append]; rfl, by simp [HK3.out.len]⟩)
      clear hJ3 hk3
      gi_wp2
      go_roundw
      case rel => exact ⟨k + 1, _, by go_num, by omega, HN⟩
      case measure => simp [intOf]; omega
    · obtain rfl : k = q.length := by omega
      have g9 : decide (q.length < q.length) = false := by simp
      clear hkn
      gi_wp2
      go_end0
      exact ⟨⟨_, rfl⟩, pre, by have := HK.out.fst; rwa [List.take_length] at this, HK.out.J⟩

theorem legRow_kept {n0 : Nat} {W W' : World} {v : Value} {L : List Led.Leg} {row : Option Nat} (h : LegRow n0 W v L) (hg : W.grownBy W' row) (hr : ∀ r, row = some r → ∃ o : Obj, W.heap[r]? = some o ∧ o.isCells = false) : LegRow n0 W' v L := by
  refine World.ownsRow.kept h hg ?_
  rcases h.2 with ⟨rfl, _⟩ | ⟨g, cap, cur, rfl, _, hgb, _⟩
  · exact .inl rfl
  · refine .inr fun e' => ?_
    obtain ⟨o, ho, hc⟩ := hr g (by simpa [Value.ownBlock] using e'.symm)
    rw [hgb] at ho; cases ho; cases hc
def pairOf (x : PostV) : Post × Value := (x.p, x.lv)
def VarPost (x : PostV) (W : World) (Bx : Nat) : Prop := W.heap[Bx]? = some (.cells #[.int .i64 x.p.day, .int .i64 x.p.id, x.lv] 24 (0, 0))
theorem varPost_kept {x : PostV} {W W' : World} {Bx : Nat} {row : Option Nat} (h : VarPost x W Bx) (hg : W.grownBy W' row) (hr : ∀ r, row = some r → ∃ o : Obj, W.heap[r]? = some o ∧ o.isCells = false) : VarPost x W' Bx :=
  (hg.block Bx (lt_of_block h) (fun e => by obtain ⟨o, ho, hc⟩ := hr Bx e.symm; rw [show W.heap[Bx]? = _ from h] at ho; cases ho; cases hc)).trans h
/-- What posts gives: all postings, in rows of its own. -/
def PostsPost (q : List (Post × Value)) (w : World) (e : Ending) (w' : World) : Prop := ∃ v q', e = .returned (.tuple #[v, .bool true]) ∧ q'.map Prod.fst = q.map Prod.fst ∧ PostRow w.heap.size w' v q' ∧ (∀ x ∈ q', LegRow w.heap.size w' x.2 x.1.legs ∧ right x.1 = true) ∧ Below w.heap.size w w'
theorem legs_step {W w1 : World} {bk bo n0 n : Nat} {a b kv nv v : Value} {o : Obj} {xs : List Value} (hk : Boxed W bk 4 a) (ho : Boxed W bo 33 b) (hrow : W.ownsRow n0 24 3 v n xs)
    (hg : ((W.setCell ⟨bk, 0, none⟩ kv).alloc o).grownBy w1 v.ownBlock) : ∀ (g : Nat) (cur : Array Value) (fr : Nat × Nat), W.heap[g]? = some (Obj.cells cur 41 fr) → (w1.setCell ⟨bo, 0, none⟩ nv).heap[g]? = W.heap[g]? := by
  intro g cur fr h
  have h1 : g ≠ bk := by rintro rfl; have := h.symm.trans (show W.heap[g]? = _ from hk); simp at this
  have h2 : g ≠ bo := by rintro rfl; have := h.symm.trans (show W.heap[g]? = _ from ho); simp at this
  have h3 : some g ≠ v.ownBlock := by
    rcases hrow.2 with ⟨rfl, _⟩ | ⟨g2, cap2, cur2, rfl, _, hgb, _⟩
    · intro e; cases e
    · intro e; cases e
      have := h.symm.trans hgb; simp at this
  have hlt := lt_of_block h
  rw [Below.heap_setCell _ _ _ _ h2, hg.block g (by simp; omega) h3, Below.heap_alloc _ _ _ (by simpa using hlt), Below.heap_setCell _ _ _ _ h1]
set_option maxHeartbeats 2000000 in
theorem posts_any (base lb : Nat) (pv : Value) (mb nn : Nat) (q : List (Post × Value)) (M : DataW Unit) (w : World) (h : LedgerAt base lb pv mb nn q M w) (hq : q.length ≤ 1000000) :
    Calls Tryd.prog 21 #[.pointer (some ⟨lb, 0, none⟩)] w (PostsPost q w) := by
  refine callsIn_wide.1 (show CallsIn Fence.wide 7 _ _ _ _ _ from ?_)
  have h1 : 1 ≤ 7 := by omega
  obtain ⟨i0, hi, hz0, hz1, hz2⟩ := info_parts info_post
  refine callsIn_of_wp_marks Tryd.func21 rfl trivial ?_ rfl
  simp only [Tryd.ntmps21, List.size_toArray, List.length_cons, List.length_nil, Nat.reduceAdd, Nat.reduceSub, Array.replicate_succ, Array.replicate_zero, List.push_toArray, List.append_toArray, List.nil_append, List.cons_append]
  have hnn : ∀ (p : Value) (w : World), (binOp BinOp.eql 82 (.func (.func 59) #[] #[p]) .nilFunc).run Tryd.prog w = .ok (.bool false) w := fun _ _ => by kernel_rfl
  have f44 : Fence.wide.fn 44 := trivial
  have HH := hid' h
  clear h
  gi_wp2_with (gi_at_call 44; refine (postsIt_in Fence.wide 6 trivial rfl _ _).mono ?_; rintro e w' ⟨rfl, rfl⟩)
  have bO := ((Boxed.new w 33 (.slice none 0 0)).alloc (.cells #[.pointer (some ⟨lb, 0, none⟩)] 36)).alloc (.cells #[.bool true] 4)
  have bP := (Boxed.new (w.alloc (.cells #[.slice none 0 0] 33)) 36 (.pointer (some ⟨lb, 0, none⟩))).alloc (.cells #[.bool true] 4)
  have bK := Boxed.new ((w.alloc (.cells #[.slice none 0 0] 33)).alloc (.cells #[.pointer (some ⟨lb, 0, none⟩)] 36)) 4 (.bool true)
  simp only [World.size_alloc] at bP bK
  have hB0 : Below w.heap.size w (((w.alloc (.cells #[.slice none 0 0] 33)).alloc (.cells #[.pointer (some ⟨lb, 0, none⟩)] 36)).alloc (.cells #[.bool true] 4)) := (((Below.refl _ w).alloc (Nat.le_refl _) _).alloc (by simp) _).alloc (by simp; omega) _
  have hsz : (((w.alloc (.cells #[.slice none 0 0] 33)).alloc (.cells #[.pointer (some ⟨lb, 0, none⟩)] 36)).alloc (.cells #[.bool true] 4)).heap.size = w.heap.size + 3 := by simp
  obtain ⟨W0, hW0⟩ : ∃ W0, ((w.alloc (.cells #[.slice none 0 0] 33)).alloc (.cells #[.pointer (some ⟨lb, 0, none⟩)] 36)).alloc (.cells #[.bool true] 4) = W0 := ⟨_, rfl⟩
  rw [hW0] at bO bP bK hB0 hsz ⊢
  clear hW0
  refine wpIn_tells (F := Fence.wide) rfl h1 (gf := 59) (lb := #[.pointer (some ⟨w.heap.size + 1, 0, none⟩)]) rfl trivial (enters_of Tryd.func59 (by kernel_rfl) rfl)
    (posts1_tells 6 (by omega) base lb pv mb nn q M (w.heap.size + 1) w W0 HH.out hB0 bP hq) belowK_t (belowK_b (by omega)) (fun _ => rfl)
    (fun pre W => ((∃ v, Boxed W w.heap.size 33 v ∧ W.ownsRow w.heap.size 24 3 v pre.length (postCells (pre.map pairOf)) ∧ True) ∧ (Boxed W (w.heap.size + 1 + 1) 4 (.bool true) ∧ ∀ x ∈ pre, LegRow w.heap.size W x.lv x.p.legs ∧ right x.p = true)) ∧ Below w.heap.size w W)
    (OwnFrom.and (OwnFrom.and (Own.from (holdsRow_own w.heap.size w.heap.size 33 24 3 (fun pre : List PostV => pre.length) (fun pre : List PostV => postCells (pre.map pairOf)) (fun _ _ => True)) _)
      (OwnFrom.and (Own.from (boxed_own _ _ (fun _ => .bool true)) _) (fun s A B row hs hg hr x hx => ⟨legRow_kept (hs x hx).1 hg (fun r e => (hr r e).2), (hs x hx).2⟩))) (ownFrom_below (Nat.le_refl _) (by omega)))
    ⟨⟨⟨_, bO, World.ownsRow_nil _ _ _ _, trivial⟩, bK, fun x hx => by cases hx⟩, hB0⟩
    (fun pre x a' W => PostTold w.heap.size pre x W ∧ ∃ Bx, VarPost x W Bx ∧ a' = { tmps := #[.pointer (some ⟨lb, 0, none⟩), undef, .slice none 0 0, .bool false, .pointer (some ⟨w.heap.size, 0, none⟩), .func (.func 59) #[] #[.pointer (some ⟨w.heap.size + 1, 0, none⟩)], .pointer (some ⟨w.heap.size + 1 + 1, 0, none⟩), .int .i64 (x.i : Int), .pointer (some ⟨Bx, 0, none⟩), .pointer (some ⟨lb, 0, none⟩), .func (.func 59) #[] #[.pointer (some ⟨w.heap.size + 1, 0, none⟩)], .func (.func 59) #[] #[.pointer (some ⟨w.heap.size + 1, 0, none⟩)], .bool false, .func (.func 59) #[] #[.pointer (some ⟨w.heap.size + 1, 0, none⟩)], .int .i64 (x.i : Int), .agg #[.int .i64 x.p.day, .int .i64 x.p.id, x.lv], undef, undef, undef, undef, undef, undef, undef, undef, undef, undef, undef, undef, undef], defers := [] })
    (fun pre x a' s X Y row hs hg hr => by obtain ⟨⟨t1, t2, t3⟩, Bx, h2, h3⟩ := hs; exact ⟨⟨t1, legRow_kept t2 hg (fun r e => (hr r e).2), t3⟩, Bx, varPost_kept h2 hg (fun r e => (hr r e).2), h3⟩)
    ?assign ?body ?done
  case assign =>
    rintro l pre x W K ⟨⟨⟨v, hv, hrow, _⟩, hk, hlg⟩, hB⟩ ⟨t1, t2, t3⟩ hK
    have hen : postEnc x = #[.int .i64 (x.i : Int), .agg #[.int .i64 x.p.day, .int .i64 x.p.id, x.lv]] := rfl
    rw [hen]
    obtain ⟨lp, lc, hlv⟩ := t2.form
    have hga := World.grownBy_alloc W (.cells #[.int .i64 x.p.day, .int .i64 x.p.id, x.lv] 24) none
    have hfin := hid' (hK { tmps := #[.pointer (some ⟨lb, 0, none⟩), undef, .slice none 0 0, .bool false, .pointer (some ⟨w.heap.size, 0, none⟩), .func (.func 59) #[] #[.pointer (some ⟨w.heap.size + 1, 0, none⟩)], .pointer (some ⟨w.heap.size + 1 + 1, 0, none⟩), .int .i64 (x.i : Int), .pointer (some ⟨W.heap.size, 0, none⟩), .pointer (some ⟨lb, 0, none⟩), .func (.func 59) #[] #[.pointer (some ⟨w.heap.size + 1, 0, none⟩)], .func (.func 59) #[] #[.pointer (some ⟨w.heap.size + 1, 0, none⟩)], .bool false, .func (.func 59) #[] #[.pointer (some ⟨w.heap.size + 1, 0, none⟩)], .int .i64 (x.i : Int), .agg #[.int .i64 x.p.day, .int .i64 x.p.id, x.lv], undef, undef, undef, undef, undef, undef, undef, undef, undef, undef, undef, undef, undef], defers := [] } _
      ((KeepsOthers.alloc W (.cells #[.int .i64 x.p.day, .int .i64 x.p.id, x.lv] 24)).from _) ((Below.refl _ W).alloc hB.size _)
      ⟨⟨⟨v, hv.alloc _, hrow.alloc _, trivial⟩, hk.alloc _, fun y hy => ⟨legRow_kept (hlg y hy).1 hga (fun r e => by cases e), (hlg y hy).2⟩⟩, hB.trans ((Below.refl _ W).alloc hB.size _)⟩
      ⟨⟨t1, legRow_kept t2 hga (fun r e => by cases e), t3⟩, W.heap.size, heap_alloc_new _ _, rfl⟩)
    clear hK hga hv hrow hk hlg hB t1 t2 t3 hen
    generalize x.lv = xlv at *
    subst hlv
    gi_wp2
    exact hfin.out
  case body =>
    rintro l pre x a' W ⟨⟨⟨v, hv, hrow, _⟩, hk, hlg⟩, hB⟩ ⟨⟨t1, t2, t3⟩, Bx, bX, rfl⟩ hlt
    obtain ⟨lp, lc, hlv⟩ := t2.form
    obtain ⟨x0, x1, x2⟩ := heap_cells3 bX
    have hne := hk.not_row (by decide) hrow
    have hv2 := hv.other (B' := w.heap.size + 1 + 1) (by omega) (.bool true)
    have hrow2 := hrow.kept (grownBy_setCell' W (w.heap.size + 1 + 1) (.bool true)) (.inr hne.symm)
    have hk2 := hk.set (.bool true)
    have hB2 := hB.setCell (p := ⟨w.heap.size + 1 + 1, 0, none⟩) (by simp; omega) (.bool true)
    obtain ⟨pv2, pc2, hpv, _⟩ : ∃ p c, v = .slice p pre.length c ∧ True := by
      obtain ⟨p, c, e, _⟩ := PostRow.form (q := pre.map pairOf) (by unfold PostRow; rw [List.length_map]; exact hrow)
      rw [List.length_map] at e
      exact ⟨p, c, e, trivial⟩
    subst hpv
    have hc := hv.cell
    have hck := hk.cell
    have hcf := hk.frozen
    have hc2 := hv2.cell
    have hX2 := (hv2.lt)
    have hbxk : Bx ≠ w.heap.size + 1 + 1 := by rintro rfl; have := bX.symm.trans (show W.heap[w.heap.size + 1 + 1]? = _ from hk); simp at this
    have x0' : (W.setCell ⟨w.heap.size + 1 + 1, 0, none⟩ (.bool true)).cell? ⟨Bx, 0, none⟩ = some (.int .i64 x.p.day) := (World.cell?_of_block (w := W) (Below.heap_setCell _ _ _ _ hbxk)).trans x0
    have x1' : (W.setCell ⟨w.heap.size + 1 + 1, 0, none⟩ (.bool true)).cell? ⟨Bx, 1, none⟩ = some (.int .i64 x.p.id) := (World.cell?_of_block (w := W) (Below.heap_setCell _ _ _ _ hbxk)).trans x1
    have x2' : (W.setCell ⟨w.heap.size + 1 + 1, 0, none⟩ (.bool true)).cell? ⟨Bx, 2, none⟩ = some x.lv := (World.cell?_of_block (w := W) (Below.heap_setCell _ _ _ _ hbxk)).trans x2
    rw [t1]
    rw [hlv] at x2'
    clear x0 x1 x2
    have hlen1 : (pre.length : Int) ≤ 1000000 := by omega
    have heq : ((pre.length : Int) == (pre.length : Int)) = true := by simp
    have HNEW := hid' (show ∀ j u, [Value.int .i64 x.p.day, .int .i64 x.p.id, .slice lp x.p.legs.length lc][j]? = some u → ((W.setCell ⟨w.heap.size + 1 + 1, 0, none⟩ (.bool true)).alloc (.cells #[.int .i64 x.p.day, .int .i64 x.p.id, .slice lp x.p.legs.length lc] 24)).cell? ((⟨W.heap.size, 0, none⟩ : Addr).add j) = some u from by
      have := cell_three_new (W.setCell ⟨w.heap.size + 1 + 1, 0, none⟩ (.bool true)) (.int .i64 x.p.day) (.int .i64 x.p.id) (.slice lp x.p.legs.length lc) 24
      rwa [show (W.setCell ⟨w.heap.size + 1 + 1, 0, none⟩ (.bool true)).heap.size = W.heap.size by simp] at this)
    have HOLD := hid' (And.intro hlg (And.intro t2 t3))
    have HST := hid' (And.intro hk (And.intro hv hrow))
    have HROW := hid' hrow2
    have HV2 := hid' hv2
    have HK2 := hid' hk2
    have HB2 := hid' hB2
    have HBW := hid' hB
    have HNE := hid' hne
    clear hlg t2 t3 hrow hrow2 hv hv2 hk hk2 hB hB2 hne hX2 bX
    gi_wp2_with (gi_at_builtin; refine wpListIn_append_own _ rfl _ _ 33 rfl w.heap.size 24 i0 (.agg #[.int .i64 0, .int .i64 0, .slice none 0 0]) 3 40 Tryd.underlying33 hi hz0 hz1 hz2 rfl (by decide) _ _ _ rfl (HROW.out.alloc _) ⟨W.heap.size, 0, none⟩ 1 1 [.int .i64 x.p.day, .int .i64 x.p.id, .slice lp x.p.legs.length lc] rfl rfl HNEW.out (by simp [Value.oneCell']) (by unfold maxLen; omega) (by omega) (by have := HB2.out.size; simp at this ⊢; omega) ?_; intro v' w1 hown' hgrow _; obtain ⟨g', cap', rfl⟩ := ownsRow_succ hown'; obtain ⟨hv1, hv3, hr2, hk3, hb3⟩ := HV2.out.appended (by decide) HROW.out HB2.out.size (Nat.le_refl _) hown' hgrow; have hc1 := hv1.cell; have hf1 := hv1.frozen)
    have HG := hid' (fun nv => legs_step (nv := nv) HST.out.1 HST.out.2.1 HST.out.2.2 hgrow)
    have hrr := hr2
    have hne2 := (HK2.out.alloc (.cells #[.int .i64 x.p.day, .int .i64 x.p.id, .slice lp x.p.legs.length lc] 24)).not_row (by decide) (HROW.out.alloc (.cells #[.int .i64 x.p.day, .int .i64 x.p.id, .slice lp x.p.legs.length lc] 24))
    have hbf := HK2.out.alloc (.cells #[.int .i64 x.p.day, .int .i64 x.p.id, .slice lp x.p.legs.length lc] 24)
    have hBF : Below w.heap.size W _ := ((Below.refl w.heap.size W).setCell (p := ⟨w.heap.size + 1 + 1, 0, none⟩) (by simp; omega) (.bool true)).trans hb3
    refine ⟨((KeepsOthers.setCell W ⟨w.heap.size + 1 + 1, 0, none⟩ (.bool true)).trans hk3).from _, hBF, ⟨⟨_, hv3, ?_, trivial⟩, ?_, fun y hy => ?_⟩, HBW.out.trans hBF⟩
    · rw [List.map_append, postCells_append, List.length_append]
      have e : postCells (List.map pairOf [x]) = [.int .i64 x.p.day, .int .i64 x.p.id, .slice lp x.p.legs.length lc] := by
        simp only [List.map_cons, List.map_nil, postCells, pairOf, hlv]
      rw [e]
      exact hr2
    · exact (Below.heap_setCell _ _ _ _ (by show w.heap.size + 1 + 1 ≠ w.heap.size; omega)).trans ((hgrow.block _ (lt_of_block hbf) hne2).trans hbf)
    · rcases List.mem_append.1 hy with hy | hy
      · exact ⟨(HOLD.out.1 y hy).1.other (HG.out _), (HOLD.out.1 y hy).2⟩
      · obtain rfl := List.mem_singleton.1 hy
        exact ⟨HOLD.out.2.1.other (HG.out _), HOLD.out.2.2⟩
  case done =>
    rintro D xs W hD hS ⟨⟨⟨v, hv, hrow, _⟩, hk, hlg⟩, hB⟩ hK
    have hc := hv.cell
    have hc2 := hk.cell
    gi_wp2
    have hd : W.drew.heap[D]? = some (.deferred (some [])) := hK
    have hBd : Below w.heap.size w (W.drew.putObj D (.deferred none)) := (hB.drew).trans (belowK_b (w := w) (Nat.le_refl _) W.drew D _ _ (by omega) hd rfl rfl)
    gi_region
    all_goals gi_wp2
    all_goals
      refine ⟨by simp, .inl ⟨_, _, rfl, run_takeDeferred hd, ?_⟩⟩
      refine ⟨.tuple #[v, .bool true], ?_, v, xs.map pairOf, rfl, ?_, ?_, ?_, hBd⟩
      · simp [results, Tryd.results21, go_sem]
      · rw [List.map_map]; exact hS
      · unfold PostRow
        rw [List.length_map]
        exact ownsRow_putObj hrow _ hd rfl
      · intro y hy
        obtain ⟨z, hz, rfl⟩ := List.mem_map.1 hy
        refine ⟨(hlg z hz).1.other (fun g cur fr hg => ?_), (hlg z hz).2⟩
        exact World.putObj_heap_other (w := W.drew) (by rintro rfl; have := hg.symm.trans hd; cases this)
end Go.Proofs.YtmmbhmlhenpgbaaDoor

/- Proved: two ledgers side by side: a call on one leaves the other; what posts and held give of a state. -/
import Derived.Test.YtmmbhmlhenpgbaaDoorLedPosts
import Derived.Test.YtmmbhmlhenpgbaaDoorLedFold
namespace Go.Proofs.YtmmbhmlhenpgbaaDoor
open Go.RowKit
open Led
set_option linter.unusedVariables false
set_option linter.unusedSimpArgs false
set_option maxRecDepth 100000

/-- A ledger in memory, its row of postings named. -/
structure LedX (base lb : Nat) (pv : Value) (S : List Post) (M : DataW Unit) (W : World) : Prop where
  at' : ∃ mb n q, LedgerAt base lb pv mb n q M W ∧ q.map Prod.fst = S ∧ n ≤ 256 ∧ S.length ≤ 4096
theorem LedX.below {base lb : Nat} {pv : Value} {S : List Post} {M : DataW Unit} {W W' : World} (h : LedX base lb pv S M W) (B : Below W.heap.size W W') : LedX base lb pv S M W' := by
  obtain ⟨mb, n, q, h1, h2, h3, h4⟩ := h.at'
  exact ⟨mb, n, q, h1.below B, h2, h3, h4⟩
theorem LedX.blk {base lb : Nat} {pv : Value} {S : List Post} {M : DataW Unit} {W : World} (h : LedX base lb pv S M W) : lb < W.heap.size ∧ base ≤ lb ∧ ∀ g, pv.ownBlock = some g → base ≤ g ∧ g < W.heap.size := by
  obtain ⟨mb, n, q, h1, h2, h3, h4⟩ := h.at'
  exact ⟨lt_of_block h1.hb, h1.lo, fun g hg => World.ownsRow.lt h1.own g hg⟩
theorem LedX.is {base lb : Nat} {pv : Value} {S : List Post} {M : DataW Unit} {W : World} (h : LedX base lb pv S M W) : LedIs base W.heap.size lb S M W := by
  obtain ⟨mb, n, q, h1, h2, h3, h4⟩ := h.at'
  obtain ⟨k1, k2, k3⟩ := h.blk
  exact ⟨pv, mb, n, q, h1, h2, h3, h4, k1, k3, by omega⟩
theorem LedX.made {base lb mb : Nat} {W : World} (h : LedgerAt base lb (.slice none 0 0) mb 0 [] (.map []) W) : LedX base lb (.slice none 0 0) [] (.map []) W := ⟨mb, 0, [], h, rfl, by omega, by simp⟩
/-- A row of postings. -/
theorem LedX.row {base lb : Nat} {pv : Value} {S : List Post} {M : DataW Unit} {W : World} (h : LedX base lb pv S M W) {k : Nat} {o : Obj} (hk : W.heap[k]? = some o) (ho : ∀ (cur : Array Value) (fr : Nat × Nat), o ≠ Obj.cells cur 24 fr) : some k ≠ pv.ownBlock := by
  obtain ⟨mb, n, q, h1, h2, h3, h4⟩ := h.at'
  exact h1.own.ne hk ho
/-- What a call of Post on the one leaves of the other. -/
theorem LedX.only {base lb lb2 : Nat} {pv pv2 : Value} {S : List Post} {M : DataW Unit} {w w' : World} (h : LedX base lb pv S M w) (ho : Only lb2 pv2 w w') (hne : lb ≠ lb2) (hsep : ∀ g, pv.ownBlock = some g → pv2.ownBlock ≠ some g)
    (hrow : ∀ {k : Nat} {o : Obj}, w.heap[k]? = some o → (∀ (cur : Array Value) (fr : Nat × Nat), o ≠ Obj.cells cur 24 fr) → some k ≠ pv2.ownBlock) {v2 : Value} {m2 : Nat} (hl2 : w.heap[lb2]? = some (.cells #[v2, .map (some m2)] 71 (0, 0))) : LedX base lb pv S M w' := by
  obtain ⟨mb, n, q, h1, h2, h3, h4⟩ := h.at'
  have keep : ∀ {k : Nat} {o : Obj}, w.heap[k]? = some o → k ≠ lb2 → some k ≠ pv2.ownBlock → w'.heap[k]? = w.heap[k]? := fun hk a b => ho.block _ (lt_of_block hk) a b
  refine ⟨mb, n, q, ⟨?_, ?_, fun x hx => ⟨?_, (h1.legs x hx).2⟩, ?_, h1.lo, h1.lom⟩, h2, h3, h4⟩
  · exact (keep h1.hb hne (hrow h1.hb (fun cur fr e => by cases e))).trans h1.hb
  · have hp := h1.own
    obtain ⟨a0, a1 | ⟨g, cap, cur, hv, a3, a4, a5⟩⟩ := hp
    · exact ⟨a0, Or.inl a1⟩
    · refine ⟨a0, Or.inr ⟨g, cap, cur, hv, a3, ?_, a5⟩⟩
      rw [keep a4 (by rintro rfl; rw [hl2] at a4; cases a4) (fun e => hsep g (by rw [hv]; rfl) e.symm)]
      exact a4
  · refine (h1.legs x hx).1.other fun g cur fr hg => keep hg ?_ (hrow hg (fun cur fr e => by cases e))
    rintro rfl; rw [hl2] at hg; cases hg
  · obtain ⟨es, clock, hm, hr⟩ := h1.map
    refine accM.other h1.map (keep hm ?_ (hrow hm (fun cur fr e => by cases e)))
    rintro rfl; rw [hl2] at hm; cases hm
theorem LedX.lbAt {base lb : Nat} {pv : Value} {S : List Post} {M : DataW Unit} {W : World} (h : LedX base lb pv S M W) : ∃ m, W.heap[lb]? = some (.cells #[pv, .map (some m)] 71 (0, 0)) := by
  obtain ⟨mb, n, q, h1, h2, h3, h4⟩ := h.at'
  exact ⟨mb, h1.hb⟩
def PostX (base lb : Nat) (pv : Value) (S ps : List Post) (w : World) (e : Ending) (w' : World) : Prop :=
  e = .returned (.int .i64 (postCode S.length (mapOf S) ps)) ∧ ∃ pv', LedX base lb pv' (nextP S ps) (mapOf (nextP S ps)) w' ∧ Only lb pv w w' ∧ ∀ g, pv'.ownBlock = some g → pv.ownBlock = some g ∨ w.heap.size ≤ g
theorem post_x (base lb : Nat) (pv : Value) (S : List Post) (w : World) (h : LedX base lb pv S (mapOf S) w) (v : Value) (ps : List Post) (hp0 : ∀ W', Only lb pv w W' → PostsAt W' v ps) (hps : ps.length ≤ 1000000000) :
    Calls Tryd.prog 17 #[.pointer (some ⟨lb, 0, none⟩), v] w (PostX base lb pv S ps w) := by
  obtain ⟨mb, n, q, h1, h2, h3, h4⟩ := h.at'
  have hql : q.length = S.length := by rw [← h2, List.length_map]
  refine (post_any base lb pv mb n q _ w h1 (by omega) (by omega) v ps hp0 hps).mono ?_
  rintro e w' ⟨g1, g2⟩
  rw [hql] at g1 g2
  by_cases hc : postCode S.length (mapOf S) ps = 0
  · obtain ⟨rfl, mb', pv', q', hs⟩ := g2 hc
    refine ⟨by rw [hc], pv', ?_, hs.only, hs.blk⟩
    have e1 : nextP S ps = S ++ ps := if_pos hc
    rw [e1, mapOf_append]
    refine ⟨mb', 256, q', hs.led, by rw [hs.fst, h2, List.take_length], Nat.le_refl _, ?_⟩
    have := (postCode_room hc).2.1
    rw [List.length_append]; omega
  · obtain ⟨rfl, hb⟩ := g1 hc
    have e1 : nextP S ps = S := if_neg hc
    rw [PostX, e1]
    exact ⟨rfl, pv, h.below hb, Only.of_below hb, fun g hg => .inl hg⟩
/-- Postings in rows of their own read as postings. -/
theorem posts_at {base : Nat} {W : World} {v : Value} {q : List (Post × Value)} (h : PostRow base W v q) (hl : ∀ x ∈ q, LegRow base W x.2 x.1.legs ∧ right x.1 = true) : PostsAt W v (q.map Prod.fst) := by
  obtain ⟨h0, ⟨rfl, hz⟩ | ⟨g, cap, cur, rfl, h2, h3, h4, h5, h6, h7⟩⟩ := h
  · exact Or.inl ⟨⟨_, rfl⟩, by rw [List.length_eq_zero_iff.1 hz]; rfl⟩
  · refine Or.inr ⟨g, 0, cap, by rw [List.length_map], by rw [List.length_map]; exact h4, h5, lt_of_block h3, fun i x hx => ?_⟩
    rw [List.getElem?_map] at hx
    obtain ⟨y, hy, rfl⟩ := Option.map_eq_some_iff.1 hx
    obtain ⟨c0, c1, c2⟩ := postCells_at q i y hy
    have hlt := (List.getElem?_eq_some_iff.1 hy).1
    rw [← h7, List.getElem?_take_of_lt (by omega), Array.getElem?_toList] at c0 c1 c2
    obtain ⟨hr, hright⟩ := hl y (List.mem_of_getElem? hy)
    obtain ⟨d1, d2, i1, i2, _⟩ := head_parts (right_parts hright).1
    exact ⟨by simp [World.cell?, h3, c0], by simp [World.cell?, h3, c1], ⟨y.2, by simp [World.cell?, h3, c2], hr.legs (fits_right hright)⟩, by omega, by omega, by omega, by omega⟩
def PostsLed (S : List Post) (w : World) (e : Ending) (w' : World) : Prop := ∃ v q, e = .returned (.tuple #[v, .bool true]) ∧ q.map Prod.fst = S ∧ PostRow w.heap.size w' v q ∧ (∀ x ∈ q, LegRow w.heap.size w' x.2 x.1.legs ∧ right x.1 = true) ∧ Below w.heap.size w w'
theorem posts_led (base hi lb : Nat) (S : List Post) (M : DataW Unit) (w : World) (h : LedIs base hi lb S M w) :
    Calls Tryd.prog 21 #[.pointer (some ⟨lb, 0, none⟩)] w (PostsLed S w) := by
  obtain ⟨pv, mb, n, q, h1, h2, h3, h4, h5, h6, h7⟩ := h
  have hql : q.length = S.length := by rw [← h2, List.length_map]
  refine (posts_any base lb pv mb n q M w h1 (by omega)).mono ?_
  rintro e w' ⟨v, q', rfl, k1, k2, k3, k4⟩
  exact ⟨v, q', rfl, k1.trans h2, k2, k3, k4⟩
theorem total_led (base hi lb : Nat) (S : List Post) (M : DataW Unit) (w : World) (c : ByteArray) (h : LedIs base hi lb S M w) :
    Calls Tryd.prog 24 #[.pointer (some ⟨lb, 0, none⟩), .string c] w (TotalPost M c w) := by
  obtain ⟨pv, mb, n, q, h1, h2, h3, h4, h5, h6, h7⟩ := h
  exact total_any base lb pv mb n q M c w h1 (by omega)
/-- A posting that the call has laid in a row of one, its legs from outside. -/
theorem one_post {lb : Nat} {pv : Value} {W : World} {p : Post} {lv : Value} {g2 : Nat} (hl : ∀ W', Only lb pv W W' → LegsAt W' lv p.legs) (hg2 : W.heap[g2]? = some (.cells #[.int .i64 p.day, .int .i64 p.id, lv] 24 (0, 0))) (h1 : g2 ≠ lb) (h2 : some g2 ≠ pv.ownBlock)
    (hd : -9223372036854775808 ≤ p.day ∧ p.day ≤ 9223372036854775807) (hi2 : -9223372036854775808 ≤ p.id ∧ p.id ≤ 9223372036854775807) :
    ∀ W', Only lb pv W W' → PostsAt W' (.slice (some ⟨g2, 0, none⟩) 1 1) [p] := by
  intro W' ho
  have h2' := (ho.block g2 (lt_of_block hg2) h1 h2).trans hg2
  refine Or.inr ⟨g2, 0, 1, rfl, Nat.le_refl _, by decide, lt_of_block h2', fun j x hx => ?_⟩
  match j, hx with
  | 0, hx =>
    simp at hx; subst hx
    exact ⟨by simp [World.cell?, h2'], by simp [World.cell?, h2'], ⟨_, by simp [World.cell?, h2'], hl W' ho⟩, hd.1, hd.2, hi2.1, hi2.2⟩
end Go.Proofs.YtmmbhmlhenpgbaaDoor

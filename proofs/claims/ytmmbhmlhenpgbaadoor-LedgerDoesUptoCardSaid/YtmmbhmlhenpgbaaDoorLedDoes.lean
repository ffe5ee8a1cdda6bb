/- Proved: the law LedgerDoes (usancelaw20) returns true, any calls, any account. -/
import Derived.Test.YtmmbhmlhenpgbaaDoorRefBal
import Derived.Deep.RegionHeld3
namespace Go.Proofs.YtmmbhmlhenpgbaaDoor
open Go.RowKit
open Led
set_option linter.unusedVariables false
set_option linter.unusedSimpArgs false
set_option maxRecDepth 100000

/-- A call on the reference's ledger leaves the other. -/
theorem LedX.onlyR {base lb rb : Nat} {pv pv2 : Value} {S : List Post} {M : DataW Unit} {w w' : World} (h : LedX base lb pv S M w) (ho : Only rb pv2 w w') (hne : lb ≠ rb) (hsep : ∀ g, pv.ownBlock = some g → pv2.ownBlock ≠ some g)
    (hrow : ∀ {k : Nat} {o : Obj}, w.heap[k]? = some o → (∀ (cur : Array Value) (fr : Nat × Nat), o ≠ Obj.cells cur 24 fr) → some k ≠ pv2.ownBlock) {v2 v3 : Value} (hl2 : w.heap[rb]? = some (.cells #[v2, v3] 50 (0, 0))) : LedX base lb pv S M w' := by
  obtain ⟨mb, n, q, h1, h2, h3, h4⟩ := h.at'
  have keep : ∀ {k : Nat} {o : Obj}, w.heap[k]? = some o → k ≠ rb → some k ≠ pv2.ownBlock → w'.heap[k]? = w.heap[k]? := fun hk a b => ho.block _ (lt_of_block hk) a b
  refine ⟨mb, n, q, ⟨?_, ?_, fun x hx => ⟨?_, (h1.legs x hx).2⟩, ?_, h1.lo, h1.lom⟩, h2, h3, h4⟩
  · exact (keep h1.hb hne (hrow h1.hb (fun cur fr e => by cases e))).trans h1.hb
  · have hp := h1.own
    obtain ⟨a0, a1 | ⟨g, cap, cur, hv, a3, a4, a5⟩⟩ := hp
    · exact ⟨a0, Or.inl a1⟩
    · refine ⟨a0, Or.inr ⟨g, cap, cur, hv, a3, ?_, a5⟩⟩
      rw [keep a4 (by rintro rfl; rw [hl2] at a4; cases a4) (fun e => hsep g (by rw [hv]; rfl) e.symm)]
      exact a4
  · refine (h1.legs x hx).1.other fun g cur fr hg => keep hg ?_ (hrow hg (fun cur fr e => by cases e))
    rintro rfl; rw [hl2] at hg; cases hg
  · obtain ⟨es, clock, hm, hr⟩ := h1.map
    refine accM.other h1.map (keep hm ?_ (hrow hm (fun cur fr e => by cases e)))
    rintro rfl; rw [hl2] at hm; cases hm
/-- Both ledgers, behind some calls. -/
structure DoesAt (base la rb : Nat) (w : World) (pa pr : Value) (S : List Post) (W : World) : Prop where
  a : LedX base la pa S (mapOf S) W
  r : RefIs base rb w pr S W
  ne : la ≠ rb
  sep : ∀ g, pa.ownBlock = some g → pr.ownBlock ≠ some g
  st : Stands S
  bel : Below w.heap.size w W
  lo : w.heap.size ≤ base
  hi : base ≤ W.heap.size
theorem DoesAt.below {base la rb : Nat} {w : World} {pa pr : Value} {S : List Post} {W W' : World} (h : DoesAt base la rb w pa pr S W) (B : Below W.heap.size W W') : DoesAt base la rb w pa pr S W' :=
  ⟨h.a.below B, h.r.below B, h.ne, h.sep, h.st, Below.more h.bel B, h.lo, Nat.le_trans h.hi B.size⟩
/-- Between the two calls: the one has its postings, the other not yet. -/
structure MidAt (base la rb : Nat) (w : World) (pa pr : Value) (S T : List Post) (W : World) : Prop where
  a : LedX base la pa T (mapOf T) W
  r : RefIs base rb w pr S W
  ne : la ≠ rb
  sep : ∀ g, pa.ownBlock = some g → pr.ownBlock ≠ some g
  st : Stands T
  bel : Below w.heap.size w W
  lo : w.heap.size ≤ base
  hi : base ≤ W.heap.size
theorem Only.below {lb base : Nat} {pv : Value} {w W W' : World} (h : Only lb pv W W') (hb : Below w.heap.size w W) (hl : base ≤ lb) (hp : ∀ k, pv.ownBlock = some k → base ≤ k) (hlo : w.heap.size ≤ base) : Below w.heap.size w W' :=
  hb.trans (h.to_below (base := w.heap.size) (Nat.le_trans hlo hl) (fun k hk => Nat.le_trans hlo (hp k hk)) hb.size)
theorem DoesAt.first {base la rb : Nat} {w : World} {pa pr pa' : Value} {S ps : List Post} {W W' : World} (h : DoesAt base la rb w pa pr S W) (hx : LedX base la pa' (nextP S ps) (mapOf (nextP S ps)) W') (ho : Only la pa W W') (hg : ∀ g, pa'.ownBlock = some g → pa.ownBlock = some g ∨ W.heap.size ≤ g) : MidAt base la rb w pa' pr S (nextP S ps) W' := by
  obtain ⟨m, hl⟩ := h.a.lbAt
  refine ⟨hx, h.r.only ho (fun e => h.ne e.symm) (fun g h1 h2 => h.sep g h2 h1) (fun hk hn => h.a.row hk hn) hl, h.ne, fun g h1 h2 => ?_, h.st.nextP ps, ho.below h.bel h.a.blk.2.1 (fun k hk => (h.a.blk.2.2 k hk).1) h.lo, h.lo, Nat.le_trans h.hi ho.size⟩
  rcases hg g h1 with h3 | h3
  · exact h.sep g h3 h2
  · have := (h.r.lt.2 g h2).2
    omega
theorem MidAt.second {base la rb : Nat} {w : World} {pa pr pr' : Value} {S T : List Post} {W W' : World} (h : MidAt base la rb w pa pr S T W) (hx : RefIs base rb w pr' T W') (ho : Only rb pr W W') (hg : ∀ g, pr'.ownBlock = some g → pr.ownBlock = some g ∨ W.heap.size ≤ g) : DoesAt base la rb w pa pr' T W' := by
  obtain ⟨hv, q, hl, _⟩ := h.r.at'
  refine ⟨h.a.onlyR ho h.ne h.sep (fun hk hn => h.r.row hk hn) hl, hx, h.ne, fun g h1 h2 => ?_, h.st, ho.below h.bel h.r.lo (fun k hk => (h.r.lt.2 k hk).1) h.lo, h.lo, Nat.le_trans h.hi ho.size⟩
  rcases hg g h2 with h3 | h3
  · exact h.sep g h1 h3
  · have := (h.a.blk.2.2 g h1).2
    omega
/-- The reference's postings read as postings. -/
theorem RefIs.posts {base rb : Nat} {w0 : World} {pv : Value} {S : List Post} {W : World} (h : RefIs base rb w0 pv S W) (B : Below w0.heap.size w0 W) : PostsAt W pv S := by
  obtain ⟨hv, q, h1, h2, h3, h4, h5⟩ := h.at'
  have hok := h.ok
  rw [← h3] at hok ⊢
  obtain ⟨h0, ⟨rfl, hz⟩ | ⟨g, cap, cur, rfl, k2, k3, k4, k5, k6, k7⟩⟩ := h2
  · exact Or.inl ⟨⟨_, rfl⟩, by rw [List.length_eq_zero_iff.1 hz]; rfl⟩
  · refine Or.inr ⟨g, 0, cap, by rw [List.length_map], by rw [List.length_map]; exact k4, k5, lt_of_block k3, fun i x hx => ?_⟩
    have hrx := List.all_eq_true.1 hok x (List.mem_of_getElem? hx)
    rw [List.getElem?_map] at hx
    obtain ⟨y, hy, rfl⟩ := Option.map_eq_some_iff.1 hx
    obtain ⟨c0, c1, c2⟩ := postCells_at q i y hy
    have hlt := (List.getElem?_eq_some_iff.1 hy).1
    rw [← k7, List.getElem?_take_of_lt (by omega), Array.getElem?_toList] at c0 c1 c2
    obtain ⟨d1, d2, i1, i2, _⟩ := head_parts (right_parts hrx).1
    exact ⟨by simp [World.cell?, k3, c0], by simp [World.cell?, k3, c1], ⟨y.2, by simp [World.cell?, k3, c2], (h4 y (List.mem_of_getElem? hy)).below B⟩, by omega, by omega, by omega, by omega⟩
/-- Postings of one's own that may be turned. -/
structure Mut (base : Nat) (v : Value) (q : List (Post × Value)) (W : World) : Prop where
  row : PostRow base W v q
  legs : ∀ x ∈ q, ∃ g cap cur, x.2 = .slice (some ⟨g, 0, none⟩) x.1.legs.length cap ∧ base ≤ g ∧ W.heap[g]? = some (.cells cur 41 (0, 0)) ∧ x.1.legs.length * 3 ≤ cur.size ∧ x.1.legs.length ≤ 64
theorem Mut.of {base : Nat} {v : Value} {q : List (Post × Value)} {W : World} (h : PostRow base W v q) (hl : ∀ x ∈ q, LegRow base W x.2 x.1.legs ∧ right x.1 = true) : Mut base v q W := by
  refine ⟨h, fun x hx => ?_⟩
  obtain ⟨h1, h2⟩ := hl x hx
  obtain ⟨h0, ⟨_, hz⟩ | ⟨g, cap, cur, hv, k2, k3, k4, k5, k6, k7⟩⟩ := h1
  · exact absurd (List.length_eq_zero_iff.1 hz) (right_ne h2)
  · exact ⟨g, cap, cur, hv, k2, k3, by omega, legs_64 h2⟩
theorem Mut.drewn {base : Nat} {v : Value} {q : List (Post × Value)} {W : World} (h : Mut base v q W) (n : Nat) : Mut base v q (W.drewN n) := by
  have e := drewN_heap W n
  refine ⟨h.row.ofBlock (fun g _ _ => by rw [e]), fun x hx => ?_⟩
  rw [e]
  exact h.legs x hx
theorem Mut.set {base : Nat} {v : Value} {q : List (Post × Value)} {W : World} (h : Mut base v q W) {g : Nat} {cur : Array Value} (hg : W.heap[g]? = some (.cells cur 41 (0, 0))) (j : Nat) (u : Value) : Mut base v q (W.setCell ⟨g, j, none⟩ u) := by
  have hs := heap_setCell_same W g j _ _ u hg
  refine ⟨?_, fun x hx => ?_⟩
  · obtain ⟨a0, a1 | ⟨b, cap, cu, hv, a3, a4, a5⟩⟩ := h.row
    · exact ⟨a0, Or.inl a1⟩
    · refine ⟨a0, Or.inr ⟨b, cap, cu, hv, a3, ?_, a5⟩⟩
      rw [Below.heap_setCell _ _ _ _ (by show b ≠ g; rintro rfl; rw [hg] at a4; cases a4)]
      exact a4
  · obtain ⟨b, cap, cu, h1, h2, h3, h4⟩ := h.legs x hx
    by_cases e : b = g
    · subst e
      rw [hg] at h3; cases h3
      exact ⟨b, cap, _, h1, h2, hs, by simpa using h4⟩
    · exact ⟨b, cap, cu, h1, h2, by rw [Below.heap_setCell _ _ _ _ (show b ≠ g from e)]; exact h3, h4⟩

theorem gives_drew {f : FuncId} {args : Array Value} {v : Value} {w : World} (h : Calls Tryd.prog f args w (DrewT v w)) : Calls Tryd.prog f args w (Gives v w) :=
  h.mono fun e w' ⟨h1, h2⟩ => by
    obtain ⟨n, rfl⟩ := h2
    exact ⟨h1, Below.drewn (Below.refl _ _) n⟩
def Doing (base la rb : Nat) (w W : World) : Prop := ∃ pa pr S, DoesAt base la rb w pa pr S W
/-- Postings of one's own, whose legs are turned one by one. -/
structure Turned (B : Nat) (W0 : World) (v : Value) (q : List (Post × Value)) (W : World) : Prop where
  own : Mut B v q W
  bel : Below B W0 W
theorem Turned.set {B : Nat} {W0 : World} {v : Value} {q : List (Post × Value)} {W : World} (h : Turned B W0 v q W) {g : Nat} {cur : Array Value} (hg : W.heap[g]? = some (.cells cur 41 (0, 0))) (hb : B ≤ g) (j : Nat) (u : Value) : Turned B W0 v q (W.setCell ⟨g, j, none⟩ u) :=
  ⟨h.own.set hg j u, h.bel.setCell (p := ⟨g, j, none⟩) hb _⟩
theorem Turned.at {B : Nat} {W0 : World} {v : Value} {q : List (Post × Value)} {W : World} (h : Turned B W0 v q W) {i : Nat} {x : Post × Value} (hx : q[i]? = some x) : ∃ pg pc g cap cur, v = .slice (some ⟨pg, 0, none⟩) q.length pc ∧ x.2 = .slice (some ⟨g, 0, none⟩) x.1.legs.length cap ∧
    W.cell? ⟨pg, i * 3 + 2, none⟩ = some (.slice (some ⟨g, 0, none⟩) x.1.legs.length cap) ∧ B ≤ g ∧ W.heap[g]? = some (.cells cur 41 (0, 0)) ∧ x.1.legs.length * 3 ≤ cur.size ∧ x.1.legs.length ≤ 64 := by
  obtain ⟨pg, pc, hv, _, _, c2⟩ := h.own.row.at hx
  obtain ⟨g, cap, cur, h1, h2, h3, h4⟩ := h.own.legs x (List.mem_of_getElem? hx)
  exact ⟨pg, pc, g, cap, cur, hv, h1, by rw [c2, h1], h2, h3, h4⟩
set_option maxHeartbeats 8000000 in
theorem law_does (calls : List (List Post)) (vc : Value) (party cur : ByteArray) (w : World) (hc : CallsAt w vc calls) (hparty : party.size ≤ maxLen) (hcur : cur.size ≤ maxLen) :
    Calls Tryd.prog 7 #[vc, .string party, .string cur] w (True1 w) := by
  obtain ⟨cp, cc, rfl, hcl, HC0⟩ := CallsAt.row hc
  have HC := hid' HC0
  have HPC := hid' (And.intro hparty hcur)
  clear hc HC0 hparty hcur
  go_enter Tryd.func7, Tryd.ntmps7
  go_wp2_with fail
  refine (shown_any _).mono ?_
  rintro e w1 ⟨rfl, b1⟩
  have HB1 := hid' b1
  clear b1
  go_wp2_with fail
  refine (new_any _).mono ?_
  rintro e w2 ⟨la, mb, rfl, hl2, hb2⟩
  have HS := hid' (show DoesAt w1.heap.size la w2.heap.size w (.slice none 0 0) (.slice none 0 0) [] (w2.alloc (.cells #[.slice none 0 0, .slice none 0 0] 50)) from
    ⟨(LedX.made hl2).below ((Below.refl _ _).alloc (Nat.le_refl _) _), ⟨⟨.slice none 0 0, [], heap_alloc_new _ _, World.ownsRow_nil _ _ _ _, rfl, fun x hx => (by cases hx), LegRow.nil _ _⟩, hb2.size, rfl, by simp, by show 0 ≤ 256; omega⟩,
      (by have := lt_of_block hl2.hb; omega), fun g h => (by cases h), Stands.nil, Below.more (Below.more HB1.out hb2) ((Below.refl _ _).alloc (Nat.le_refl _) _), HB1.out.size, Nat.le_trans hb2.size (by simp)⟩)
  have HS := hid' (show Doing w1.heap.size la w2.heap.size w _ from ⟨_, _, _, HS.out⟩)
  clear hl2 hb2
  go_upto_block 0 with (fail)
  generalize w2.alloc (.cells #[.slice none 0 0, .slice none 0 0] 50) = w3 at *
  go_cut [10] (fun v wx => (∃ i : Nat, v = .int .i64 (i : Int)) ∧ ∃ wn, wn = wx ∧ Doing w1.heap.size la w2.heap.size w wn)
  case first =>
    go_wp2_with fail
    go_loopw [10] (fun iv wr => ∃ i : Nat, iv = .int .i64 (i : Int) ∧ i ≤ calls.length ∧ Hid (Doing w1.heap.size la w2.heap.size w wr)) (fun iv _ => calls.length - (intOf iv).toNat)
    case atStart => exact ⟨0, rfl, Nat.zero_le _, HS⟩
    case round =>
      obtain ⟨i, rfl, hi, HP⟩ := hrel
      by_cases hin : i < calls.length ∧ i < 100
      · obtain ⟨hin, h50⟩ := hin
        obtain ⟨ps, hps⟩ : ∃ ps, calls[i]? = some ps := ⟨_, List.getElem?_eq_getElem hin⟩
        obtain ⟨cb, co, pv, rfl, hcb, x0, hpa, hpl⟩ := HC.out i ps hps
        obtain ⟨pa, pr, S, hD⟩ := HP.out
        have x0 := (hD.bel.cell (p := ⟨cb, co + i, none⟩) hcb).trans x0
        have HX0 := hid' x0
        have HPA := hid' hpa
        have HPL := hid' hpl
        have HD := hid' hD
        have HCB := hid' hcb
        have HP1 := hid' (post_x w1.heap.size la pa S wr hD.a pv ps (fun W' ho => hpa.below (ho.below hD.bel hD.a.blk.2.1 (fun k hk => (hD.a.blk.2.2 k hk).1) hD.lo)) hpl)
        obtain ⟨ce, hce⟩ : ∃ ce : Int, Hid (ce = postCode S.length (mapOf S) ps) := ⟨_, hid' rfl⟩
        have HCE := hid' (hce.out ▸ postCode_cases S.length (mapOf S) ps)
        have g0 : decide ((i : Int) < (calls.length : Int)) = true := by simp; omega
        have g1 : decide ((i : Int) < 100) = true := by simp; omega
        have j1 : (0 : Int) ≤ (i : Int) := by omega
        have j2 : (i : Int) < (calls.length : Int) := by omega
        have hne : (ce != ce) = false := by simp
        clear hD hpa hps hpl h50 hcb HP hin
        go_wp2_with fail
        refine HP1.out.mono ?_
        rintro e w4 ⟨he, pa', hx4, ho4, hg4⟩
        rw [← hce.out] at he
        subst he
        have HM := hid' (HD.out.first hx4 ho4 hg4)
        have x4 : w4.cell? ⟨cb, co + i, none⟩ = some pv := by
          refine (((ho4.below HD.out.bel HD.out.a.blk.2.1 (fun k hk => (HD.out.a.blk.2.2 k hk).1) HD.out.lo).cell (p := ⟨cb, co + i, none⟩) HCB.out).trans ?_)
          exact (HD.out.bel.cell (p := ⟨cb, co + i, none⟩) HCB.out).symm.trans HX0.out
        have HP2 := hid' (refPost_any w1.heap.size w2.heap.size w pr S w4 HM.out.r HM.out.hi pv ps HPA.out HM.out.bel HM.out.lo HPL.out)
        clear hx4 ho4 hg4 x0
        go_wp2_with fail
        refine HP2.out.mono ?_
        rintro e w5 ⟨he, pr', hx5, ho5, hg5⟩
        rw [← hce.out] at he
        subst he
        have HD5 := hid' (show Doing w1.heap.size la w2.heap.size w w5 from ⟨_, _, _, HM.out.second hx5 ho5 hg5⟩)
        clear hx5 ho5 hg5 x4
        go_wp2_with fail
        go_roundw
        case rel => exact ⟨i + 1, by go_num, by omega, HD5⟩
        case measure => simp [intOf]; omega
      · by_cases h : i < calls.length
        · have g0 : decide ((i : Int) < (calls.length : Int)) = true := by simp; omega
          have g1 : decide ((i : Int) < 100) = false := by simp; omega
          clear hin
          go_wp2_with fail
          go_meet
          exact ⟨⟨i, rfl⟩, _, rfl, HP.out⟩
        · have g0 : decide ((i : Int) < (calls.length : Int)) = false := by simp; omega
          clear hin
          go_wp2_with fail
          go_meet
          exact ⟨⟨i, rfl⟩, _, rfl, HP.out⟩
  case rest =>
    obtain ⟨⟨i7, rfl⟩, wq, rfl, pa, pr, S, hD⟩ := hcut
    have HD := hid' hD
    have HXP := hid' (posts_led _ _ _ _ _ _ hD.a.is)
    clear hD HS
    go_wp2_with fail
    refine HXP.out.mono ?_
    rintro e w4 ⟨xv, xq, rfl, hxq, hxr, hxl, hb4⟩
    have HD4 := hid' (HD.out.below hb4)
    have HMT := hid' (show Turned wq.heap.size wq xv xq w4 from ⟨Mut.of hxr hxl, hb4⟩)
    have hxa := posts_at hxr hxl
    rw [hxq] at hxa
    obtain ⟨xp, xc, hxv, _⟩ := hxr.form
    have hxn : xq.length = S.length := by rw [← hxq, List.length_map]
    have HXN := hid' hxn
    have HXQ := hid' hxq
    rw [hxn] at hxv
    subst hxv
    have hsl : (S.length : Int) ≤ 4096 := by have := HD4.out.st.room; omega
    obtain ⟨hv, rq, r1, r2, r3, r4, r5⟩ := HD4.out.r.at'
    obtain ⟨rp, rc, hrv, _⟩ := r2.form
    have hrn : rq.length = S.length := by rw [← r3, List.length_map]
    rw [hrn] at hrv
    subst hrv
    have k0 := (heap_cells2 r1).1
    have HSP := hid' (samePosts_yes _ _ S w4 hxa (HD4.out.r.posts HD4.out.bel))
    clear hxr hxl hb4 hxa hxq hxn HXP r1 r2 r3 r4 r5 hrn
    go_wp2_with fail
    refine HSP.out.mono ?_
    rintro e w5 ⟨rfl, m5, rfl⟩
    have HD5 := hid' (HD4.out.below (Below.drewn (Below.refl _ _) m5))
    have HT5 := hid' (show Turned wq.heap.size wq (.slice xp S.length xc) xq (w4.drewN m5) from ⟨HMT.out.own.drewn m5, Below.drewn HMT.out.bel m5⟩)
    clear k0 HSP HMT
    go_upto_block 2 with (fail)
    generalize w4.drewN m5 = w5 at *
    go_cut [16] (fun v wx => (∃ i : Nat, v = .int .i64 (i : Int)) ∧ ∃ wn, wn = wx ∧ Turned wq.heap.size wq (.slice xp S.length xc) xq wn)
    case first =>
      go_wp2_with fail
      go_loopw [16] (fun iv wr => ∃ i : Nat, iv = .int .i64 (i : Int) ∧ i ≤ S.length ∧ Hid (Turned wq.heap.size wq (.slice xp S.length xc) xq wr)) (fun iv _ => S.length - (intOf iv).toNat)
      case atStart => exact ⟨0, rfl, Nat.zero_le _, HT5⟩
      case round =>
        obtain ⟨i, rfl, hi, HT⟩ := hrel
        by_cases hin : i < S.length
        · obtain ⟨x, hx⟩ : ∃ x, xq[i]? = some x := ⟨_, List.getElem?_eq_getElem (by rw [HXN.out]; exact hin)⟩
          have g0 : decide ((i : Int) < (S.length : Int)) = true := by simp; omega
          have j1 : (0 : Int) ≤ (i : Int) := by omega
          have j2 : (i : Int) < (S.length : Int) := by omega
          have HX := hid' hx
          obtain ⟨wo, rfl⟩ : ∃ wo : World, wo = wr := ⟨_, rfl⟩
          obtain ⟨pg, pc, g, cap, cu, hv, hx2, _, _, _, _, h64⟩ := HT.out.at hx
          obtain ⟨rfl, rfl⟩ : xp = some ⟨pg, 0, none⟩ ∧ xc = pc := by simp at hv; exact ⟨hv.1, hv.2.2⟩
          have hll : (x.1.legs.length : Int) ≤ 64 := by omega
          clear hx hin hv h64
          go_wp2_with fail
          go_loopw [17] (fun jv wr => ∃ j : Nat, jv = .int .i64 (j : Int) ∧ j ≤ x.1.legs.length ∧ Hid (Turned wq.heap.size wq (.slice (some ⟨pg, 0, none⟩) S.length xc) xq wr)) (fun jv _ => x.1.legs.length - (intOf jv).toNat)
          case atStart => exact ⟨0, rfl, Nat.zero_le _, HT⟩
          case round =>
            obtain ⟨j, rfl, hj, HT⟩ := hrel
            obtain ⟨pg', pc', g', cap', cu', hv, hx2', c2, hg, hgb, hcu, _⟩ := HT.out.at HX.out
            obtain ⟨rfl, rfl⟩ : pg = pg' ∧ xc = pc' := by simp at hv; exact ⟨hv.1, hv.2.2⟩
            obtain ⟨rfl, rfl⟩ : g = g' ∧ cap = cap' := by rw [hx2] at hx2'; simp at hx2'; exact hx2'
            by_cases hjn : j < x.1.legs.length
            · have m0 : decide ((j : Int) < (x.1.legs.length : Int)) = true := by simp; omega
              have m1 : (0 : Int) ≤ (j : Int) := by omega
              have m2 : (j : Int) < (x.1.legs.length : Int) := by omega
              obtain ⟨u, hu⟩ : ∃ u, cu'[j * 3 + 2]? = some u := ⟨_, Array.getElem?_eq_getElem (by omega)⟩
              have y2 : wr.cell? ⟨g, j * 3 + 2, none⟩ = some u := by simp [World.cell?, hgb, hu]
              have yf : wr.frozen? ⟨g, j * 3 + 2, none⟩ = false := by simp [World.frozen?, hgb]
              have HTN := hid' (HT.out.set hgb hg (j * 3 + 2) (.int .i64 7))
              clear hv hx2' hg hgb hcu hu hjn
              go_wp2_with fail
              go_roundw
              case rel => exact ⟨j + 1, by go_num, by omega, HTN⟩
              case measure => simp [intOf]; omega
            · obtain rfl : j = x.1.legs.length := by omega
              have m9 : decide (x.1.legs.length < x.1.legs.length) = false := by simp
              clear hv hx2' hg hgb hcu hjn
              go_wp2_with fail
              go_roundw
              case rel => exact ⟨i + 1, by go_num, by omega, HT⟩
              case measure => simp [intOf]; omega
        · obtain rfl : i = S.length := by omega
          have g9 : decide (S.length < S.length) = false := by simp
          clear hin
          go_wp2_with fail
          go_meet
          exact ⟨⟨_, rfl⟩, _, rfl, HT.out⟩
    case rest =>
      obtain ⟨⟨i16, rfl⟩, w6, rfl, hT⟩ := hcut
      have HD6 := hid' (HD.out.below hT.bel)
      have HXP := hid' (posts_led _ _ _ _ _ _ HD6.out.a.is)
      clear hT HT5 HD5 HD4
      go_wp2_with fail
      refine HXP.out.mono ?_
      rintro e w8 ⟨zv, zq, rfl, hzq, hzr, hzl, hb8⟩
      have HD8 := hid' (HD6.out.below hb8)
      have hza := posts_at hzr hzl
      rw [hzq] at hza
      obtain ⟨zp, zc, hzv, _⟩ := hzr.form
      have hzn : zq.length = S.length := by rw [← hzq, List.length_map]
      rw [hzn] at hzv
      subst hzv
      have HZA := hid' hza
      clear hzr hzl hb8 hza hzq hzn HXP HD6
      obtain ⟨hv2, rq2, r1, r2, r3, r4, r5⟩ := HD8.out.r.at'
      obtain ⟨hp2, hc2, hhv2⟩ := r5.form
      obtain ⟨nh, hnh⟩ : ∃ nh, Hid (nh = (heldR S).length) := ⟨_, hid' rfl⟩
      rw [← hnh.out] at hhv2
      subst hhv2
      have HKB := hid' (fun (wx : World) (hbx : Below w8.heap.size w8 wx) => And.intro (keep_all hbx _ _ (heap_cells2 r1).1) (keep_all hbx _ _ (heap_cells2 r1).2.1))
      have hbx := (Below.refl w8.heap.size w8).drew
      have HSP := hid' (fun (wx : World) (hbx : Below w8.heap.size w8 wx) => gives_drew (samePosts_yes _ _ S wx (HZA.out.below hbx) ((HD8.out.below hbx).r.posts (HD8.out.below hbx).bel)))
      have HHD := hid' (fun (wx : World) (hbx : Below w8.heap.size w8 wx) => held_led _ _ _ _ _ _ (HD8.out.below hbx).a.is)
      have HSL := hid' (fun (wx : World) (hbx : Below w8.heap.size w8 wx) (vh : Value) (hh : LegsAt wx vh (heldR S)) => gives_drew (sameLegs_yes vh (.slice hp2 nh hc2) (heldR S) wx hh ((r5.under hbx).wide HD8.out.r.wide)))
      obtain ⟨bo, hbo⟩ : ∃ bo, Hid (bo = balOf (mapOf S) party cur) := ⟨_, hid' rfl⟩
      have HB1 := hid' (fun (wx : World) (hbx : Below w8.heap.size w8 wx) => balance_led _ _ _ _ _ wx (HD8.out.below hbx).a.is party cur HPC.out.1 HPC.out.2)
      have HB2 := hid' (fun (wx : World) (hbx : Below w8.heap.size w8 wx) => refBalance_any _ _ _ _ S wx (HD8.out.below hbx).r party cur)
      rw [balR_mapOf HD8.out.st.ok HPC.out.1 HPC.out.2] at HB2
      rw [← hbo.out] at HB1 HB2
      have HTT := hid' (fun (wx : World) (hbx : Below w8.heap.size w8 wx) => total_led _ _ _ _ _ wx cur (HD8.out.below hbx).a.is)
      have HOK := hid' HD8.out.st.ok
      have hbe : (bo == bo) = true := by simp
      have hw8 := hid' HD8.out.bel
      clear r1 r2 r3 r4 r5 HC
      go_upto_region 21 with (fail)
      go_region_held3 (fun w' => w'.cell? ⟨w2.heap.size, 0, none⟩ = some (.slice rp S.length rc) ∧ w'.cell? ⟨w2.heap.size, 1, none⟩ = some (.slice hp2 nh hc2) ∧ Below w8.heap.size w8 w') (exact ⟨(HKB.out _ hbx).1, (HKB.out _ hbx).2, hbx⟩)
        (first | (go_at_call 15; refine (HSP.out _ hbx).mono ?_; rintro e wa ⟨rfl, ba⟩; have hbx := Below.more hbx ba; clear ba) | (go_at_call 18; refine (HHD.out _ hbx).mono ?_; rintro e wb ⟨vh, ks, rfl, hks, hrh, bb⟩; have hbx := Below.more hbx bb; rw [← heldR_is HOK.out hks] at hrh; obtain ⟨ph, ch, hvh⟩ := hrh.form; rw [← hnh.out] at hvh; subst hvh; have hrh := hid' (hrh.wide HD8.out.r.wide); clear bb hks) | (go_at_call 19; refine (HSL.out _ hbx _ hrh.out).mono ?_; rintro e wa ⟨rfl, ba⟩; have hbx := Below.more hbx ba; clear ba) | (go_at_call 20; refine (HB1.out _ hbx).mono ?_; rintro e wa ⟨rfl, rfl⟩) | (go_at_call 23; refine (HB2.out _ hbx).mono ?_; rintro e wa ⟨rfl, rfl⟩) | (go_at_call 24; refine (HTT.out _ hbx).mono ?_; rintro e wa ⟨k7, rfl, hk7, b7⟩; have hbx := Below.more hbx b7; rw [sumCur_zero HOK.out hk7]; clear b7 hk7))
      all_goals
        go_wp2_with fail
        go_ret
        exact ⟨rfl, Below.more hw8.out hbx⟩
end Go.Proofs.YtmmbhmlhenpgbaaDoor

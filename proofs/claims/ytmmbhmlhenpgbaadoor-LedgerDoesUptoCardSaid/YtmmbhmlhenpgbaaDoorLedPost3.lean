/- Proved: ledger's Post as a contract: all postings of a call stand, or none. -/
import Derived.Test.YtmmbhmlhenpgbaaDoorLedPostP
namespace Go.Proofs.YtmmbhmlhenpgbaaDoor
open Go.RowKit
open Led
set_option linter.unusedVariables false
set_option linter.unusedSimpArgs false
set_option maxRecDepth 100000
noncomputable def addPost (D : DataW Unit) (p : Post) : DataW Unit := p.legs.foldl addLeg D
noncomputable def addAll (D : DataW Unit) (ps : List Post) : DataW Unit := ps.foldl addPost D
theorem addAll_step (D : DataW Unit) (ps : List Post) (k : Nat) (x : Post) (h : ps[k]? = some x) : addAll D (ps.take (k + 1)) = addPost (addAll D (ps.take k)) x := by
  unfold addAll
  rw [take_snoc ps k x h, List.foldl_append]; rfl
theorem addLegs_step (D : DataW Unit) (L : List Leg) (k : Nat) (x : Leg) (h : L[k]? = some x) : (L.take (k + 1)).foldl addLeg D = addLeg ((L.take k).foldl addLeg D) x := by
  rw [take_snoc L k x h, List.foldl_append]; rfl
/-- A map that the call lays, some legs in it. -/
structure NextAt (w : World) (mb N : Nat) (D : DataW Unit) (wr : World) : Prop where
  bel : Below w.heap.size w wr
  map : ∃ n, n ≤ N ∧ accM wr mb n D
  lo : w.heap.size ≤ mb
theorem NextAt.below {w : World} {mb N : Nat} {D : DataW Unit} {wr w' : World} (h : NextAt w mb N D wr) (B : Below wr.heap.size wr w') : NextAt w mb N D w' := by
  obtain ⟨n, hn, hm⟩ := h.map
  exact ⟨Below.more h.bel B, ⟨n, hn, owns_below hm B⟩, h.lo⟩
theorem PostsAt.legs {w w' : World} {b off : Nat} {n c : Nat} {l : List Post} {i : Nat} {x : Post} {lv : Value} (h : PostsAt w (.slice (some ⟨b, off, none⟩) n c) l) (hx : l[i]? = some x) (B : Below w.heap.size w w') (hc : w'.cell? ⟨b, off + i * 3 + 2, none⟩ = some lv) : LegsAt w lv x.legs := by
  rcases h with ⟨_, rfl⟩ | ⟨b', off', cap, hv, h1, h2, h3, h4⟩
  · simp at hx
  · simp at hv
    obtain ⟨⟨rfl, rfl⟩, _⟩ := hv
    obtain ⟨_, _, ⟨lv', x3, x5⟩, _⟩ := h4 i x hx
    have := (B.cell (p := ⟨b, off + i * 3 + 2, none⟩) h3).trans x3
    rw [hc] at this
    cases this; exact x5
theorem LegsAt.at {w w' : World} {p : Option Addr} {n c : Nat} {l : List Leg} {i : Nat} {x : Leg} (h : LegsAt w (.slice p n c) l) (hx : l[i]? = some x) (B : Below w.heap.size w w') : ∃ b off, p = some ⟨b, off, none⟩ ∧
    w'.cell? ⟨b, off + i * 3, none⟩ = some (.string x.party) ∧ w'.cell? ⟨b, off + i * 3 + 1, none⟩ = some (.string x.cur) ∧ w'.cell? ⟨b, off + i * 3 + 2, none⟩ = some (.int .i64 x.amount) ∧ x.party.size ≤ maxLen ∧ x.cur.size ≤ maxLen := by
  rcases LegsAt.below h B with ⟨_, rfl⟩ | ⟨b, off, cap, hv, h1, h2, h3, h4⟩
  · simp at hx
  · simp at hv
    obtain ⟨x1, x2, x3, x4, x5, _⟩ := h4 i x hx
    exact ⟨b, off, hv.1, x1, x2, x3, by unfold maxLen; omega, by unfold maxLen; omega⟩
theorem NextAt.eq {w : World} {mb N : Nat} {D D' : DataW Unit} {wr : World} (h : NextAt w mb N D wr) (e : D = D') : NextAt w mb N D' wr := e ▸ h
theorem NextAt.post {w : World} {mb n k : Nat} {M : DataW Unit} {ps : List Post} {x : Post} {wr : World} (h : NextAt w mb (n + 64 * k + x.legs.length) ((x.legs.take x.legs.length).foldl addLeg (addAll M (ps.take k))) wr) (hx : ps[k]? = some x) (hl : x.legs.length ≤ 64) : NextAt w mb (n + 64 * (k + 1)) (addAll M (ps.take (k + 1))) wr := by
  rw [addAll_step M ps k x hx]
  rw [List.take_length] at h
  obtain ⟨m, hm, h2⟩ := h.map
  exact ⟨h.bel, ⟨m, by omega, h2⟩, h.lo⟩
def BoxAt (w : World) (g : Nat) (y : Leg) : Prop := w.cell? ⟨g, 0, none⟩ = some (.string y.party) ∧ w.cell? ⟨g, 1, none⟩ = some (.string y.cur) ∧ w.cell? ⟨g, 2, none⟩ = some (.int .i64 y.amount)
/-- All that a round's last statement wants: the look-up, the entry, the store. -/
theorem leg_round {w : World} {mb N g : Nat} {D : DataW Unit} {W1 : World} {y : Leg} (hl : LegBox W1 g y) (hN : NextAt w mb N D W1) (hn : N < maxLen) (hp : y.party.size ≤ maxLen) (hc : y.cur.size ≤ maxLen) {w1 : World} (hb : Below W1.drew.heap.size W1.drew w1) :
    (Instr.lookup 69 (.map (some mb)) (.agg #[.string y.party, .string y.cur]) false).run Tryd.prog w1 = .ok (.int .i64 (balOf D y.party y.cur)) w1 ∧
    ∃ (v0 : Value) (st : Nat) (w2 w3 : World), (Instr.lookup 69 (.map (some mb)) (.agg #[.string y.party, .string y.cur]) false).run Tryd.prog w2 = .ok (.int .i64 (balOf D y.party y.cur)) w2 ∧ (Instr.mapEntry 69 (.map (some mb)) (.agg #[.string y.party, .string y.cur])).run Tryd.prog w1 = .ok (.tuple #[v0, .int .i64 (st : Int)]) w2 ∧
      (Instr.entryStore 69 (.map (some mb)) (.int .i64 (st : Int)) (.int .i64 (IntKind.i64.wrap (balOf D y.party y.cur + y.amount)))).run Tryd.prog w2 = .ok () w3 ∧
      (w1.cell? ⟨g, 0, none⟩ = some (.string y.party) ∧ w1.cell? ⟨g, 1, none⟩ = some (.string y.cur) ∧ w1.cell? ⟨g, 2, none⟩ = some (.int .i64 y.amount)) ∧
      (w2.cell? ⟨g, 0, none⟩ = some (.string y.party) ∧ w2.cell? ⟨g, 1, none⟩ = some (.string y.cur) ∧ w2.cell? ⟨g, 2, none⟩ = some (.int .i64 y.amount)) ∧
      (w3.cell? ⟨g, 0, none⟩ = some (.string y.party) ∧ w3.cell? ⟨g, 1, none⟩ = some (.string y.cur) ∧ w3.cell? ⟨g, 2, none⟩ = some (.int .i64 y.amount)) ∧ NextAt w mb (N + 1) (addLeg D y) w3 := by
  have hb' : Below W1.heap.size W1 w1 := below_drewN (n := 1) hb
  have hl1 := hl.below hb'
  have hN1 := hN.below hb'
  obtain ⟨n, hnn, hm⟩ := hN1.map
  obtain ⟨k1, kw⟩ := lookup_own hm hp hc
  obtain ⟨v0, st, w2, e1, g2, k2, e2⟩ := entry_own hm (by omega) hp hc
  obtain ⟨w3, e3, m3, g3⟩ := e2 (wrap64 (balOf D y.party y.cur + y.amount)) (wrap64_wf _)
  have hne : g ≠ mb := by
    rintro rfl
    obtain ⟨es, clock, hbk, _⟩ := hm
    have := hl1.cp
    simp [World.cell?, hbk] at this
  have hlt := hl1.lt
  have kc : ∀ {w' : World}, w1.grownBy w' (some mb) → w'.cell? ⟨g, 0, none⟩ = some (.string y.party) ∧ w'.cell? ⟨g, 1, none⟩ = some (.string y.cur) ∧ w'.cell? ⟨g, 2, none⟩ = some (.int .i64 y.amount) := by
    intro w' hg
    have := hg.block g hlt (fun e => hne (by cases e; rfl))
    exact ⟨(World.cell?_of_block (w := w1) this).trans hl1.cp, (World.cell?_of_block (w := w1) this).trans hl1.cc, (World.cell?_of_block (w := w1) this).trans hl1.cn⟩
  refine ⟨k1, v0, st, w2, w3, k2, e1, ?_, ⟨hl1.cp, hl1.cc, hl1.cn⟩, kc g2, kc g3, ⟨hN1.bel.grown g3 hN1.bel.size (fun k e => by cases e; exact hN1.lo), ⟨n + 1, by omega, m3⟩, hN1.lo⟩⟩
  rw [IntWalk.i64_left]; exact e3
/-- The number that a call of Post gives. -/
noncomputable def postCode (q : Nat) (M : DataW Unit) (ps : List Post) : Int := if ps.all right = false then 200 else if 4096 < q + ps.length ∨ 256 < Maps.size (addAll M ps) then 201 else 0
def PostPost (base lb : Nat) (pv : Value) (q : List (Post × Value)) (M : DataW Unit) (ps : List Post) (w : World) (e : Ending) (w' : World) : Prop :=
  (postCode q.length M ps ≠ 0 → e = .returned (.int .i64 (postCode q.length M ps)) ∧ Below w.heap.size w w') ∧
  (postCode q.length M ps = 0 → e = .returned (.int .i64 0) ∧ ∃ mb' pv' q', StandAt base lb mb' pv q (addAll M ps) ps w ps.length pv' q' w')
theorem post_bad {base lb : Nat} {pv : Value} {q : List (Post × Value)} {M : DataW Unit} {ps : List Post} {w w' : World} {c : Int} (h : postCode q.length M ps = c) (hc : c ≠ 0) (hb : Below w.heap.size w w') : PostPost base lb pv q M ps w (.returned (.int .i64 c)) w' :=
  ⟨fun _ => ⟨by rw [h], hb⟩, fun h2 => absurd (h.symm.trans h2) hc⟩
theorem post_good {base lb : Nat} {pv : Value} {q : List (Post × Value)} {M : DataW Unit} {ps : List Post} {w w' : World} (h : postCode q.length M ps = 0) {mb' : Nat} {pv' : Value} {q' : List (Post × Value)} (hs : StandAt base lb mb' pv q (addAll M ps) ps w ps.length pv' q' w') : PostPost base lb pv q M ps w (.returned (.int .i64 0)) w' :=
  ⟨fun h2 => absurd h h2, fun _ => ⟨rfl, mb', pv', q', hs⟩⟩
theorem StandAt.slice {base lb mb : Nat} {pv : Value} {q : List (Post × Value)} {D : DataW Unit} {ps : List Post} {w : World} {k : Nat} {pvk : Value} {qk : List (Post × Value)} {W : World} (h : StandAt base lb mb pv q D ps w k pvk qk W) : ∃ pp cap, pvk = .slice pp qk.length cap := by
  obtain ⟨_, ⟨rfl, h2⟩ | ⟨g, cap, cur, rfl, _⟩⟩ := h.led.own
  · exact ⟨none, 0, by rw [h2]⟩
  · exact ⟨_, _, rfl⟩
theorem StandAt.len {base lb mb : Nat} {pv : Value} {q : List (Post × Value)} {D : DataW Unit} {ps : List Post} {w : World} {k : Nat} {pvk : Value} {qk : List (Post × Value)} {W : World} (h : StandAt base lb mb pv q D ps w k pvk qk W) : qk.length ≤ q.length + k := by
  have := congrArg List.length h.fst
  rw [List.length_append, List.length_map, List.length_map, List.length_take] at this
  omega
theorem stand_boxed {base lb mb : Nat} {pv : Value} {q : List (Post × Value)} {D : DataW Unit} {ps : List Post} {w : World} {k : Nat} {pvk : Value} {qk : List (Post × Value)} {wr w2 : World} {a b c lv : Value} {L : List Leg} (h : StandAt base lb mb pv q D ps w k pvk qk wr)
    (hl : LegRow (wr.alloc (.cells #[a, b, c] 24)).heap.size w2 lv L) (hb : Below (wr.alloc (.cells #[a, b, c] 24)).heap.size (wr.alloc (.cells #[a, b, c] 24)) w2) :
    w2.heap[wr.heap.size]? = some (.cells #[a, b, c] 24 (0, 0)) ∧ (w2.setCell ⟨wr.heap.size, 2, none⟩ lv).heap[wr.heap.size]? = some (.cells #[a, b, lv] 24 (0, 0)) ∧
      StandAt base lb mb pv q D ps w k pvk qk (w2.setCell ⟨wr.heap.size, 2, none⟩ lv) ∧ LegRow base (w2.setCell ⟨wr.heap.size, 2, none⟩ lv) lv L := by
  have h0 := heap_alloc_new wr (.cells #[a, b, c] 24)
  have hsz : (wr.alloc (.cells #[a, b, c] 24)).heap.size = wr.heap.size + 1 := by simp
  have h1 : w2.heap[wr.heap.size]? = some (.cells #[a, b, c] 24 (0, 0)) := (hb.block _ (by omega)).trans h0
  have hlo : base ≤ wr.heap.size := Nat.le_trans h.led.lo (Nat.le_of_lt (lt_of_block h.led.hb))
  have hB : Below wr.heap.size wr (w2.setCell ⟨wr.heap.size, 2, none⟩ lv) := (((Below.refl _ _).alloc (Nat.le_refl _) _).trans (hb.mono (by omega))).setCell (p := ⟨wr.heap.size, 2, none⟩) (Nat.le_refl _) _
  refine ⟨h1, heap_setCell_same _ _ _ _ _ _ h1, h.below hB, ?_⟩
  rw [hsz] at hl
  obtain ⟨a0, a1 | ⟨g, cap, cur, rfl, a3, a4, a5⟩⟩ := hl
  · exact ⟨a0, Or.inl a1⟩
  · refine ⟨a0, Or.inr ⟨g, cap, cur, rfl, by omega, ?_, a5⟩⟩
    rw [Below.heap_setCell _ _ _ _ (by show g ≠ wr.heap.size; omega)]; exact a4
theorem step_post {w : World} {ops : Array Oper} {o : Oper} {a : Act} {K : Act → World → Prop} {Q : Exit → Act → World → Prop} {E : Prop} (hgd : o.guard = none) (s x : Operand)
    (ho : o.op = .call { callee := .builtin .append, args := #[s, x], argTypes := #[33, 33] })
    (base : Nat) (v : Value) (q : List (Post × Value)) (hs : a.eval s = v) (hown : PostRow base w v q) (g : Nat) (hx : a.eval x = .slice (some ⟨g, 0, none⟩) 1 1)
    (u1 u2 u3 : Value) (hg : w.heap[g]? = some (.cells #[u1, u2, u3] 24 (0, 0))) (o1 : u1.oneCell' = true) (o2 : u2.oneCell' = true) (o3 : u3.oneCell' = true)
    (hbound : q.length + 1 ≤ 100000) (hbase : base ≤ w.heap.size)
    (h : ∀ g' cap w', w'.ownsRow base 24 3 (.slice (some ⟨g', 0, none⟩) (q.length + 1) cap) (q.length + 1) (postCells q ++ [u1, u2, u3]) → w.grownBy w' v.ownBlock → (v.ownBlock = some g' ∨ g' = w.heap.size) → K (a.put o.dst (.slice (some ⟨g', 0, none⟩) (q.length + 1) cap)) w') :
    if Region.wanted o (yielded ops a.tmps) = true then Oper.wp Tryd.prog o a w K Q else E := by
  obtain ⟨i, hi, hz, hsz, hby⟩ := info_parts info_post
  refine step_append_lies _ hgd s x 33 ho base 24 i _ 3 40 Tryd.underlying33 hi hz hsz hby rfl (by decide) v q.length _ hs hown ⟨g, 0, none⟩ 1 1 [u1, u2, u3] hx rfl (World.news_of_block hg) (fun u hu => ?_) (by omega) (by unfold maxLen; omega) (by omega) hbase _ rfl (fun g' cap w' h1 h2 h3 _ => h g' cap w' h1 h2 h3)
  simp only [List.mem_cons, List.not_mem_nil, or_false] at hu
  rcases hu with rfl | rfl | rfl
  · exact o1
  · exact o2
  · exact o3
set_option maxHeartbeats 4000000 in
theorem post_any (base lb : Nat) (pv : Value) (mb n : Nat) (q : List (Post × Value)) (M : DataW Unit) (w : World) (h : LedgerAt base lb pv mb n q M w) (hn : n ≤ 1000000000) (hq : q.length ≤ 4096) (v : Value) (ps : List Post) (hp0 : ∀ W', Only lb pv w W' → PostsAt W' v ps) (hps : ps.length ≤ 1000000000) :
    Calls Tryd.prog 17 #[.pointer (some ⟨lb, 0, none⟩), v] w (PostPost base lb pv q M ps w) := by
  have hp := hp0 w (Only.of_below (Below.refl _ _))
  have HC := hid' (contains_any v ps w hp)
  have HPO := hid' hp0
  clear hp0
  obtain ⟨p0, c0, rfl, hl, _⟩ := PostsAt.row hp
  obtain ⟨pq, cq, hpq⟩ : ∃ pp cap, pv = .slice pp q.length cap := by
    obtain ⟨_, ⟨rfl, h2⟩ | ⟨g, cap, cur, rfl, _⟩⟩ := h.own
    · exact ⟨none, 0, by rw [h2]⟩
    · exact ⟨_, _, rfl⟩
  subst hpq
  have hk0 : w.cell? ⟨lb, 0, none⟩ = some (.slice pq q.length cq) := by simp [World.cell?, h.hb]
  have hk1 : w.cell? ⟨lb, 1, none⟩ = some (.map (some mb)) := by simp [World.cell?, h.hb]
  have HP := hid' hp
  have HA := hid' h
  clear h hp
  cases hr : ps.all right with
  | false =>
    rw [hr] at HC
    have HE := hid' (show postCode q.length M ps = 200 by unfold postCode; rw [if_pos hr])
    clear hr
    go_enter Tryd.func17, Tryd.ntmps17
    go_wp2_with fail
    refine HC.out.mono ?_
    rintro e w1 ⟨rfl, b1⟩
    go_wp2_with fail
    go_ret
    exact post_bad HE.out (by decide) b1
  | true =>
    rw [hr] at HC
    have HRT := hid' (List.all_eq_true.1 hr)
    have HRA := hid' hr
    clear hr
    by_cases hful : q.length + ps.length > 4096
    · have HE := hid' (show postCode q.length M ps = 201 by unfold postCode; rw [if_neg (by rw [HRA.out]; simp), if_pos (Or.inl hful)])
      have gl1 : (q.length : Int) ≤ 4096 := by omega
      have gl2 : (ps.length : Int) ≤ 1000000000 := by omega
      have gf : decide (4096 < (q.length : Int) + (ps.length : Int)) = true := by simp; omega
      have gf2 : decide (4096 < q.length + ps.length) = true := by simp; omega
      go_enter Tryd.func17, Tryd.ntmps17
      go_wp2_with fail
      refine HC.out.mono ?_
      rintro e w1 ⟨rfl, b1⟩
      have hk0 := keep_all b1 _ _ hk0
      have hk1 := keep_all b1 _ _ hk1
      go_wp2_with fail
      go_ret
      exact post_bad HE.out (by decide) b1
    · have i1 : (q.length : Int) + (ps.length : Int) ≤ 4096 := by omega
      have gf : decide (4096 < (q.length : Int) + (ps.length : Int)) = false := by simp; omega
      have gf2 : decide (4096 < q.length + ps.length) = false := by simp; omega
      clear hful
      go_enter Tryd.func17, Tryd.ntmps17
      go_wp2_with fail
      refine HC.out.mono ?_
      rintro e w1 ⟨rfl, b1⟩
      have hk0 := keep_all b1 _ _ hk0
      have hk1 := keep_all b1 _ _ hk1
      have HA1 := hid' (HA.out.below b1)
      have HB1 := hid' b1
      clear b1
      go_wp2_with fail
      refine (cloneMap_any mb n M w1 HA1.out.map).mono ?_
      rintro e w2 ⟨rfl, m1, m2, b2⟩
      have HN := hid' (show NextAt w w1.heap.size (n + 64 * 0) (addAll M (ps.take 0)) w2 from ⟨Below.more HB1.out b2, ⟨n, by omega, m1⟩, HB1.out.size⟩)
      clear m1 m2 b2 HA1 hk0 hk1
      generalize w1.heap.size = mb' at *
      go_wp2_with fail
      clear HB1
      go_loopw [32] (fun iv wr => ∃ k : Nat, iv = .int .i64 (k : Int) ∧ k ≤ ps.length ∧ Hid (NextAt w mb' (n + 64 * k) (addAll M (ps.take k)) wr)) (fun iv _ => ps.length - (intOf iv).toNat)
      case atStart => exact ⟨0, rfl, Nat.zero_le _, HN⟩
      case round =>
        obtain ⟨k, rfl, hk, HN⟩ := hrel
        by_cases hkn : k < ps.length
        · obtain ⟨x, hx⟩ : ∃ x, ps[k]? = some x := ⟨_, List.getElem?_eq_getElem hkn⟩
          obtain ⟨b, off, lv, hp0, hb, x1, x2, x3, x4, d1, d2, d3, d4⟩ := PostsAt.at HP.out hx HN.out.bel
          subst hp0
          have g0 : decide ((k : Int) < (ps.length : Int)) = true := by simp; omega
          have j1 : (0 : Int) ≤ (k : Int) := by omega
          have j2 : (k : Int) < (ps.length : Int) := by omega
          have HX := hid' hx
          have hrx := HRT.out x (List.mem_of_getElem? hx)
          have hlx := (head_parts (right_parts hrx).1).2.2.2.2.2
          have HRX := hid' hrx
          obtain ⟨lp, lc, hlv, _⟩ := LegsAt.row x4
          subst hlv
          have HLX := hid' (PostsAt.legs HP.out HX.out HN.out.bel x3)
          clear x4 d1 d2 d3 d4 hx hrx
          have hlx' : (x.legs.length : Int) ≤ 64 := by omega
          go_wp2_with fail
          have HNW := hid' (NextAt.below HN.out ((Below.refl _ _).alloc (Nat.le_refl _) (.cells #[.int .i64 x.day, .int .i64 x.id, .slice lp x.legs.length lc] 24)) (D := addAll M (ps.take k)))
          obtain ⟨wo, hwo⟩ : ∃ wo : World, wo = wr := ⟨_, rfl⟩
          subst hwo
          generalize hWx : wo.alloc (.cells #[.int .i64 x.day, .int .i64 x.id, .slice lp x.legs.length lc] 24) = Wx at *
          clear hWx
          go_loopw [39] (fun iv wz => ∃ j : Nat, iv = .int .i64 (j : Int) ∧ j ≤ x.legs.length ∧ Hid (NextAt w mb' (n + 64 * k + j) ((x.legs.take j).foldl addLeg (addAll M (ps.take k))) wz)) (fun iv _ => x.legs.length - (intOf iv).toNat)
          case atStart => exact ⟨0, rfl, Nat.zero_le _, HNW⟩
          case round =>
            obtain ⟨j, rfl, hj, HNJ⟩ := hrel
            by_cases hjn : j < x.legs.length
            · obtain ⟨y, hy⟩ : ∃ y, x.legs[j]? = some y := ⟨_, List.getElem?_eq_getElem hjn⟩
              obtain ⟨b3, o3, hl3, y1, y2, y3, y4, y5⟩ := LegsAt.at HLX.out hy HNJ.out.bel
              subst hl3
              have g0 : decide ((j : Int) < (x.legs.length : Int)) = true := by simp; omega
              have j3 : (0 : Int) ≤ (j : Int) := by omega
              have j4 : (j : Int) < (x.legs.length : Int) := by omega
              have HY := hid' hy
              have HST := hid' (addLegs_step (addAll M (ps.take k)) x.legs j y hy)
              have HYB := hid' (And.intro y4 y5)
              clear hy y4 y5
              have L0 := LegBox.new wr y
              have B0 : Below wr.heap.size wr (wr.alloc (.cells #[.string y.party, .string y.cur, .int .i64 y.amount] 41)) := (Below.refl _ _).alloc (Nat.le_refl _) _
              have HL0 := hid' L0
              have HNB := hid' (HNJ.out.below B0)
              clear L0 B0 HNJ
              go_upto_region 14 with (fail)
              obtain ⟨W1, hW1⟩ : ∃ W1, wr.alloc (.cells #[.string y.party, .string y.cur, .int .i64 y.amount] 41) = W1 := ⟨_, rfl⟩
              rw [hW1] at HL0 HNB ⊢
              clear hW1 y1 y2 y3
              obtain ⟨_, c1, c2, c3⟩ := HL0.out
              have c1 := drew_cell c1
              have c2 := drew_cell c2
              have c3 := drew_cell c3
              have HRD := hid' (fun w' (hb : Below W1.drew.heap.size W1.drew w') => leg_round HL0.out HNB.out (by unfold maxLen; omega) HYB.out.1 HYB.out.2 hb)
              go_region_held3 (fun w' => w'.cell? ⟨wr.heap.size, 0, none⟩ = some (.string y.party) ∧ w'.cell? ⟨wr.heap.size, 1, none⟩ = some (.string y.cur) ∧ w'.cell? ⟨wr.heap.size, 2, none⟩ = some (.int .i64 y.amount)) (first | exact ⟨c1, c2, c3⟩ | exact ⟨d1, d2, d3⟩ | exact ⟨f1, f2, f3⟩ | exact ⟨h1, h2, h3⟩)
                (first | (go_at_call 41; refine (of_any _ _ _ _).mono ?_; rintro e w1 ⟨rfl, b1⟩; obtain ⟨lk, v0, st, w2, w3, lk2, e1, e2, ⟨d1, d2, d3⟩, ⟨f1, f2, f3⟩, ⟨h1, h2, h3⟩, hfin⟩ := HRD.out _ b1))
              all_goals
                have HF := hid' (NextAt.eq hfin HST.out.symm)
                clear lk lk2 e1 e2 d1 d2 d3 f1 f2 f3 h1 h2 h3 hfin b1
                go_wp2_with fail
                go_roundw
                case rel => exact ⟨j + 1, by go_num, by omega, HF⟩
                case measure => simp [intOf]; omega
            · obtain rfl : j = x.legs.length := by omega
              have g9 : decide (x.legs.length < x.legs.length) = false := by simp
              clear hjn
              have HF := hid' (NextAt.post HNJ.out HX.out hlx)
              go_wp2_with fail
              go_roundw
              case rel => exact ⟨k + 1, by go_num, by omega, HF⟩
              case measure => simp [intOf]; omega
        · obtain rfl : k = ps.length := by omega
          have g9 : decide (ps.length < ps.length) = false := by simp
          clear hkn
          obtain ⟨n2, hn2, hm2⟩ := HN.out.map
          have hlen := hm2.len Tryd.underlying69 3
          rw [List.take_length] at hm2 hlen HN
          generalize hsz : Maps.size (addAll M ps) = sz at *
          have HLW := hid' (HA.out.below HN.out.bel)
          by_cases hbig : 256 < sz
          · have HE := hid' (show postCode q.length M ps = 201 by unfold postCode; rw [if_neg (by rw [HRA.out]; simp), if_pos (Or.inr (by rw [hsz]; exact hbig))])
            have g2 : decide (256 < (sz : Int)) = true := by simp; omega
            go_wp2_with fail
            go_ret
            exact post_bad HE.out (by decide) HN.out.bel
          · have HE := hid' (show postCode q.length M ps = 0 by unfold postCode; rw [if_neg (by rw [HRA.out]; simp), if_neg (by rw [hsz]; omega)])
            have i2 : (sz : Int) ≤ 256 := by omega
            have g2 : decide (256 < (sz : Int)) = false := by simp; omega
            have HST0 := hid' (StandAt.start (ps := ps) HA.out HN.out.bel hm2 HN.out.lo (by rw [hsz]; omega) (Nat.le_trans HA.out.lo (Nat.le_of_lt (lt_of_block HA.out.hb))))
            obtain ⟨ck0, ck1, ckf⟩ := heap_cells2 HLW.out.hb
            have ckf1 := ckf 1
            clear ckf hm2
            go_wp2_with fail
            go_loopw [63] (fun iv wr => ∃ (k : Nat) (pvk : Value) (qk : List (Post × Value)), iv = .int .i64 (k : Int) ∧ k ≤ ps.length ∧ Hid (StandAt base lb mb' (.slice pq q.length cq) q (addAll M ps) ps w k pvk qk wr)) (fun iv _ => ps.length - (intOf iv).toNat)
            case atStart => exact ⟨0, _, q, rfl, Nat.zero_le _, HST0⟩
            case round =>
              obtain ⟨k, pvk, qk, rfl, hk, HS⟩ := hrel
              by_cases hkn : k < ps.length
              · obtain ⟨x, hx⟩ : ∃ x, ps[k]? = some x := ⟨_, List.getElem?_eq_getElem hkn⟩
                obtain ⟨b, off, lv, hp0, hb, x1, x2, x3, x4, d1, d2, d3, d4⟩ := PostsAt.at (HPO.out wr HS.out.only) hx (Below.refl _ _)
                subst hp0
                have g0 : decide ((k : Int) < (ps.length : Int)) = true := by simp; omega
                have j1 : (0 : Int) ≤ (k : Int) := by omega
                have j2 : (k : Int) < (ps.length : Int) := by omega
                have HX := hid' hx
                have HRX := hid' (HRT.out x (List.mem_of_getElem? hx))
                have HLX := hid' x4
                have HLL := hid' (head_parts (right_parts HRX.out).1).2.2.2.2.2
                obtain ⟨lp, lc, hlv, _⟩ := LegsAt.row x4
                subst hlv
                clear x4 d1 d2 d3 d4 hx hkn
                go_wp2_with fail
                refine (cloneLegs_any _ x.legs _ (HLX.out.below ((Below.refl _ _).alloc (Nat.le_refl _) _)) (right_ne HRX.out) (by have := HLL.out; omega)).mono ?_
                rintro e w2 ⟨lv2, rfl, ol, bl⟩
                obtain ⟨lp2, lc2, hlv2⟩ := ol.form
                subst hlv2
                have HBX := hid' (stand_boxed HS.out ol bl)
                obtain ⟨bc0, bc1, bc2, bcf⟩ := cells_of3 HBX.out.1
                have bcf2 := bcf 2
                clear bcf ol bl HLX
                go_upto_region 24 with (fail)
                clear bc0 bc1 bc2 bcf2
                generalize w2.setCell ⟨wr.heap.size, 2, none⟩ (.slice lp2 x.legs.length lc2) = W3 at *
                obtain ⟨pp, cc, hpk⟩ := HS.out.slice
                subst hpk
                obtain ⟨bc0, bc1, bc2, _⟩ := cells_of3 HBX.out.2.1
                obtain ⟨lc0, _, _⟩ := heap_cells2 HBX.out.2.2.1.led.hb
                have bc0 := drew_cell bc0
                have bc1 := drew_cell bc1
                have bc2 := drew_cell bc2
                have lca := fun o => alloc_cell lc0 o
                have lc0 := drew_cell lc0
                have hB4 : Below W3.heap.size W3 (W3.alloc (.cells #[.int .i64 x.day, .int .i64 x.id, .slice lp2 x.legs.length lc2] 24)).drew := ((Below.refl _ _).alloc (Nat.le_refl _) _).drew
                have HS4 := hid' (HBX.out.2.2.1.below hB4)
                have HL4 := hid' (HBX.out.2.2.2.ofBlock (fun g _ hg => hB4.block g hg))
                have HG4 := hid' (show (W3.alloc (.cells #[.int .i64 x.day, .int .i64 x.id, .slice lp2 x.legs.length lc2] 24)).drew.heap[W3.heap.size]? = some (.cells #[.int .i64 x.day, .int .i64 x.id, .slice lp2 x.legs.length lc2] 24 (0, 0)) from heap_alloc_new _ _)
                have HQL := hid' (show qk.length + 1 ≤ 100000 by have := HS.out.len; omega)
                have HHZ := hid' (show w.heap.size ≤ (W3.alloc (.cells #[.int .i64 x.day, .int .i64 x.id, .slice lp2 x.legs.length lc2] 24)).drew.heap.size from HS4.out.only.size)
                have HBS := hid' (show base ≤ (W3.alloc (.cells #[.int .i64 x.day, .int .i64 x.id, .slice lp2 x.legs.length lc2] 24)).drew.heap.size from Nat.le_trans HS4.out.led.lo (Nat.le_of_lt (lt_of_block HS4.out.led.hb)))
                clear hB4
                go_region_law ((refine step_post rfl _ _ (by rfl) base _ qk (by rfl) (by exact HS4.out.led.own) W3.heap.size (by rfl) (.int .i64 x.day) (.int .i64 x.id) (.slice lp2 x.legs.length lc2) (by exact HG4.out) rfl rfl rfl HQL.out (by exact HBS.out) ?_; intro g5 c5 w5 h5 h6 h7; have hA := HS4.out.push HX.out HRX.out HL4.out h5 h6 (h7.imp id (fun e => by rw [e]; exact HHZ.out)); have hA1 := hA.1; have hA2 := hA.2.1))
                all_goals
                  have HS5 := hid' hA.2.2
                  clear hA1 hA2 hA h5 h6 h7
                  go_wp2_with fail
                  go_roundw
                  case rel => exact ⟨k + 1, _, _, by go_num, by omega, HS5⟩
                  case measure => simp [intOf]; omega
              · obtain rfl : k = ps.length := by omega
                have g9 : decide (ps.length < ps.length) = false := by simp
                clear hkn
                go_wp2_with fail
                go_ret
                exact post_good HE.out HS.out
end Go.Proofs.YtmmbhmlhenpgbaaDoor

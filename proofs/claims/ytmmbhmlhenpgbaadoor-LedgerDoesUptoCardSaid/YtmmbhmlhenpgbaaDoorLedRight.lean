/- Proved: ledger's right as a contract: it tells which postings are. -/
import Derived.Test.YtmmbhmlhenpgbaaDoorLedMem
import Derived.Carry
import Derived.Deep.RegionHeld3
import Derived.Maps.RangeWalk
import Derived.Sort.MapsRangeIn
import Derived.Deep.DeepCutAuto
namespace Go.Proofs.YtmmbhmlhenpgbaaDoor
open Go.RowKit
open Led
set_option linter.unusedVariables false
set_option linter.unusedSimpArgs false

theorem right_head_false {p : Post} (h : head p = false) : right p = false := by unfold right; rw [h]; rfl
set_option maxRecDepth 100000 in
set_option maxHeartbeats 2000000 in
theorem right_early (p : Post) (lv : Value) (w : World) (hl : LegsAt w lv p.legs) (hd : -9223372036854775808 ≤ p.day ∧ p.day ≤ 9223372036854775807) (hi : -9223372036854775808 ≤ p.id ∧ p.id ≤ 9223372036854775807) (h : head p = false) :
    Calls Tryd.prog 26 #[.agg #[.int .i64 p.day, .int .i64 p.id, lv]] w (Gives (.bool (right p)) w) := by
  rw [right_head_false h]
  obtain ⟨day, id, legs⟩ := p
  obtain ⟨pp, cap, hlv, hlen⟩ : ∃ pp cap, lv = .slice pp legs.length cap ∧ legs.length ≤ 9223372036854775807 := by
    rcases hl with ⟨⟨p0, rfl⟩, h1⟩ | ⟨b, off, cap, rfl, h1, h2, h3, h4⟩
    · exact ⟨p0, 0, by simp at h1; subst h1; rfl, by simp at h1; subst h1; simp⟩
    · exact ⟨_, cap, rfl, by unfold maxLen at h2; simp at h1; omega⟩
  subst hlv
  have hc : day < 0 ∨ (¬ day < 0 ∧ 73048 < day) ∨ (¬ day < 0 ∧ ¬ 73048 < day ∧ id < 1) ∨ (¬ day < 0 ∧ ¬ 73048 < day ∧ ¬ id < 1 ∧ 2147483647 < id) ∨ (¬ day < 0 ∧ ¬ 73048 < day ∧ ¬ id < 1 ∧ ¬ 2147483647 < id ∧ (legs.length : Int) < 2) ∨ (¬ day < 0 ∧ ¬ 73048 < day ∧ ¬ id < 1 ∧ ¬ 2147483647 < id ∧ ¬ (legs.length : Int) < 2 ∧ 64 < (legs.length : Int)) := by
    unfold head at h
    simp only [Bool.and_eq_false_iff, decide_eq_false_iff_not] at h
    omega
  clear h hl
  rcases hc with h1 | ⟨h1, h2⟩ | ⟨h1, h2, h3⟩ | ⟨h1, h2, h3, h4⟩ | ⟨h1, h2, h3, h4, h5⟩ | ⟨h1, h2, h3, h4, h5, h6⟩
  all_goals go_enter Tryd.func26, Tryd.ntmps26
  all_goals go_wp2_with fail
  all_goals go_ret
  all_goals exact ⟨rfl, (Below.refl _ _).alloc (Nat.le_refl _) _⟩

/-- A leg in a box of its own. -/
structure LegBox (w : World) (c : Nat) (x : Leg) : Prop where
  lt : c < w.heap.size
  cp : w.cell? ⟨c, 0, none⟩ = some (.string x.party)
  cc : w.cell? ⟨c, 1, none⟩ = some (.string x.cur)
  cn : w.cell? ⟨c, 2, none⟩ = some (.int .i64 x.amount)
theorem LegBox.new (w : World) (x : Leg) : LegBox (w.alloc (.cells #[.string x.party, .string x.cur, .int .i64 x.amount] 41)) w.heap.size x :=
  ⟨by simp, new_cell rfl rfl, new_cell rfl rfl, new_cell rfl rfl⟩
theorem LegBox.below {w w' : World} {c : Nat} {x : Leg} (h : LegBox w c x) (B : Below w.heap.size w w') : LegBox w' c x :=
  ⟨Nat.lt_of_lt_of_le h.lt B.size, (B.cell (p := ⟨c, 0, none⟩) h.lt).trans h.cp, (B.cell (p := ⟨c, 1, none⟩) h.lt).trans h.cc, (B.cell (p := ⟨c, 2, none⟩) h.lt).trans h.cn⟩
/-- What holds at the head of the loop over the legs. -/
structure RightAt (w : World) (b off cap : Nat) (legs : List Leg) (k : Nat) (wr : World) : Prop where
  bel : Below w.heap.size w wr
  map : wr.ownsMap Tryd.prog 9 (plainElem Tryd.prog 2) (w.heap.size + 1) k (sumK legs k)
  box : wr.cell? ⟨w.heap.size, 2, none⟩ = some (.slice (some ⟨b, off, none⟩) legs.length cap)
  size : w.heap.size + 2 ≤ wr.heap.size
  ok : (legs.take k).all legOk = true
  ris : rising (legs.take k) = true
/-- Does the leg ahead of the k-th not stand ahead of it? -/
def badAt (legs : List Leg) (k : Nat) (x : Leg) : Bool := match k with
  | 0 => false
  | j + 1 => match legs[j]? with
    | some y => !rises y x
    | none => false
theorem badAt_rising {legs : List Leg} {k : Nat} {x : Leg} (hx : legs[k]? = some x) (hr : rising (legs.take k) = true) : rising (legs.take (k + 1)) = !badAt legs k x := by
  cases k with
  | zero => rw [take_snoc legs 0 x hx]; rfl
  | succ j =>
    have hj : j < legs.length := by have := (List.getElem?_eq_some_iff.1 hx).1; omega
    have hy : legs[j]? = some legs[j] := List.getElem?_eq_getElem hj
    rw [take_snoc legs (j + 1) x hx, take_snoc legs j _ hy, rising_snoc, ← take_snoc legs j _ hy, hr]
    show (true && rises legs[j] x) = !(match legs[j]? with | some y => !rises y x | none => false)
    rw [hy]
    simp
theorem bad_right {legs : List Leg} {k : Nat} {x : Leg} (hx : legs[k]? = some x) (hr : rising (legs.take k) = true) (h : badAt legs k x = true) : (legs.all legOk && (rising legs && even legs)) = false := by
  have h1 := badAt_rising hx hr
  rw [h] at h1
  have h2 : rising legs = false := by
    cases hc : rising legs with
    | false => rfl
    | true => rw [rising_take legs (k + 1) hc] at h1; cases h1
  rw [h2]; simp
theorem rises_not (x y : Leg) : (!rises x y) = decide (0 ≤ cmp x.party x.cur y.party y.cur) := by
  unfold rises
  by_cases h : cmp x.party x.cur y.party y.cur < 0
  · rw [decide_eq_true h, decide_eq_false (by omega)]; rfl
  · rw [decide_eq_false h, decide_eq_true (by omega)]; rfl
theorem keep_below {W w1 w2 : World} (B : Below W.heap.size W w1) : Below w2.heap.size w2 W → Below w2.heap.size w2 w1 := fun h => Below.more h B
theorem keep_all {W w1 : World} (B : Below W.heap.size W w1) : ∀ (a : Addr) (v : Value), W.cell? a = some v → w1.cell? a = some v := fun a v h => (B.cell (World.block_lt_of_cell? W a h)).trans h
/-- One leg more. -/
theorem RightAt.step {w : World} {b off cap : Nat} {legs : List Leg} {k : Nat} {wr w3 w4 : World} {x : Leg} {c : Int} (A : RightAt w b off cap legs k wr) (B : Below wr.heap.size wr w3)
    (ho : w4.ownsMap Tryd.prog 9 (plainElem Tryd.prog 2) (w.heap.size + 1) (k + 1) ((sumK legs k).put (keyS x.cur) (.lit (.int .i64 (c + x.amount)))))
    (hg : w3.grownBy w4 (some (w.heap.size + 1))) (hx : legs[k]? = some x) (hok : legOk x = true) (hs : sumOf x.cur (legs.take (k + 1)) = c + x.amount) (hb : badAt legs k x = false) : RightAt w b off cap legs (k + 1) w4 := by
  have B3 : Below w.heap.size w w3 := Below.more A.bel B
  have B4 : Below w.heap.size w w4 := B3.grown hg B3.size (fun j e => by cases e; omega)
  have hsz : w.heap.size + 2 ≤ w3.heap.size := Nat.le_trans A.size B.size
  refine ⟨B4, ?_, ?_, ?_, ?_, ?_⟩
  · have e : sumK legs (k + 1) = (sumK legs k).put (keyS x.cur) (litI (sumOf x.cur (legs.take (k + 1)))) := by rw [sumK, hx]
    rw [e, hs]
    exact ho
  · have h1 : w3.cell? ⟨w.heap.size, 2, none⟩ = some (.slice (some ⟨b, off, none⟩) legs.length cap) := keep_all B _ _ A.box
    rw [← h1]
    exact World.cell?_of_block (w := w3) (hg.block w.heap.size (by omega) (by simp))
  · exact Nat.le_trans hsz hg.size
  · rw [take_snoc legs k x hx, List.all_append, A.ok]; simp [hok]
  · rw [badAt_rising hx A.ris, hb]; rfl
theorem not_ok_right {legs : List Leg} {k : Nat} {x : Leg} (hx : legs[k]? = some x) (h : legOk x = false) : (legs.all legOk && (rising legs && even legs)) = false := by
  have : legs.all legOk = false := by
    rw [List.all_eq_false]
    exact ⟨x, List.mem_of_getElem? hx, by rw [h]; simp⟩
  rw [this]; rfl
theorem keysString : Maps.Keyed Tryd.prog 9 := Maps.string_keyed Tryd.underlying9
theorem zeroI64 (w : World) : (zeroValue 2).run Tryd.prog w = .ok (.int .i64 0) w := by kernel_rfl
set_option maxRecDepth 100000 in
set_option maxHeartbeats 4000000 in
theorem right_main (p : Post) (b off cap : Nat) (w : World) (h1 : p.legs.length ≤ cap) (h2 : cap ≤ maxLen) (h3 : b < w.heap.size) (h4 : LegCells w b off p.legs)
    (hh : head p = true) :
    Calls Tryd.prog 26 #[.agg #[.int .i64 p.day, .int .i64 p.id, .slice (some ⟨b, off, none⟩) p.legs.length cap]] w (Gives (.bool (right p)) w) := by
  obtain ⟨d1, d2, i1, i2, n1, n2⟩ := head_parts hh
  have HR := hid' (show right p = (p.legs.all legOk && (rising p.legs && even p.legs)) by unfold right; rw [hh]; rfl)
  obtain ⟨day, id, legs⟩ := p
  dsimp only at *
  generalize hrp : right ⟨day, id, legs⟩ = rp at *
  clear hrp hh
  unfold maxLen at h2
  have n1' : (2 : Int) ≤ (legs.length : Int) := by omega
  have n2' : (legs.length : Int) ≤ 64 := by omega
  have hmm := @run_makeMap Tryd.prog
  have q1 : decide (day < 0) = false := by simp; omega
  have q2 : decide (73048 < day) = false := by simp; omega
  have q3 : decide (id < 1) = false := by simp; omega
  have q4 : decide (2147483647 < id) = false := by simp; omega
  have q5 : decide ((legs.length : Int) < 2) = false := by simp; omega
  have q6 : decide (64 < (legs.length : Int)) = false := by simp; omega
  go_enter Tryd.func26, Tryd.ntmps26
  go_wp2_with fail
  have B0 : Below w.heap.size w ((w.alloc (.cells #[.int .i64 day, .int .i64 id, .slice (some ⟨b, off, none⟩) legs.length cap] 24)).alloc (.map #[] 0)) := ((Below.refl _ _).alloc (Nat.le_refl _) _).alloc (by simp) _
  have R0 : RightAt w b off cap legs 0 ((w.alloc (.cells #[.int .i64 day, .int .i64 id, .slice (some ⟨b, off, none⟩) legs.length cap] 24)).alloc (.map #[] 0)) := by
    refine ⟨B0, ?_, ?_, by simp, rfl, rfl⟩
    · have := World.ownsMap_made (H := Unit) (w.alloc (.cells #[.int .i64 day, .int .i64 id, .slice (some ⟨b, off, none⟩) legs.length cap] 24)) Tryd.prog 9 (plainElem Tryd.prog 2)
      rw [World.size_alloc] at this
      exact this
    · rw [World.cell?_alloc_old _ _ _ (by simp)]; exact new_cell rfl rfl
  clear B0
  have HR0 := hid' R0
  clear R0
  generalize (w.alloc (.cells #[.int .i64 day, .int .i64 id, .slice (some ⟨b, off, none⟩) legs.length cap] 24)).alloc (.map #[] 0) = W0 at *
  go_loopw [42] (fun v wr => ∃ k : Nat, v = .int .i64 (k : Int) ∧ k ≤ legs.length ∧ Hid (RightAt w b off cap legs k wr)) (fun v _ => legs.length - (intOf v).toNat)
  case atStart => exact ⟨0, rfl, Nat.zero_le _, HR0⟩
  case round =>
    obtain ⟨k, rfl, hk, HA⟩ := hrel
    by_cases hkn : k < legs.length
    · obtain ⟨x, hx⟩ : ∃ x, legs[k]? = some x := ⟨_, List.getElem?_eq_getElem hkn⟩
      obtain ⟨x1, x2, x3, x4, x5, x6, x7⟩ := (h4.below h3 (by exact (HA.out.bel.mono (Nat.le_refl _)))) k x hx
      have HX := hid' hx
      clear hx
      have L0 := LegBox.new wr x
      have B0 : Below wr.heap.size wr (wr.alloc (.cells #[.string x.party, .string x.cur, .int .i64 x.amount] 41)) := (Below.refl _ _).alloc (Nat.le_refl _) _
      have HL0 := hid' L0
      have HB0 := hid' B0
      clear L0 B0
      go_wp2_with fail
      obtain ⟨W1, hW1⟩ : ∃ W1, wr.alloc (.cells #[.string x.party, .string x.cur, .int .i64 x.amount] 41) = W1 := ⟨_, rfl⟩
      rw [hW1] at HL0 HB0 ⊢
      clear hW1
      refine (isName_any x.party W1 x4).mono ?_
      rintro e w1 ⟨rfl, b1⟩
      have HL1 := hid' (HL0.out.below b1)
      have HB1 := hid' (Below.more HB0.out b1)
      clear HL0 HB0 b1
      obtain ⟨lt1, p1, c1, m1⟩ := HL1.out
      cases hn : isName x.party with
      | false =>
        have hv := hid' (not_ok_right (k := k) HX.out (show legOk x = false by unfold legOk; rw [hn]; rfl))
        clear hn
        go_wp2_with fail
        go_ret
        exact ⟨by rw [HR.out, hv.out]; rfl, Below.more HA.out.bel HB1.out⟩
      | true =>
        go_wp2_with fail
        refine (isCur_any x.cur w1 x5).mono ?_
        rintro e w2 ⟨rfl, b2⟩
        have HL2 := hid' (HL1.out.below b2)
        have HB2 := hid' (Below.more HB1.out b2)
        clear HL1 HB1 b2 p1 c1 m1 lt1
        obtain ⟨lt2, p2, c2, m2⟩ := HL2.out
        have hloc : legOk x = (isCur x.cur && (decide (x.amount ≠ 0) && (decide (-1000000000000000 ≤ x.amount) && decide (x.amount ≤ 1000000000000000)))) := by unfold legOk; rw [hn]; rfl
        clear hn
        cases hcu : isCur x.cur with
        | false =>
          have hv := hid' (not_ok_right (k := k) HX.out (show legOk x = false by rw [hloc, hcu]; rfl))
          clear hcu hloc
          go_wp2_with fail
          go_ret
          exact ⟨by rw [HR.out, hv.out]; rfl, Below.more HA.out.bel HB2.out⟩
        | true =>
          rw [hcu, Bool.true_and] at hloc
          clear hcu
          have HLO := hid' hloc
          clear hloc
          by_cases a0 : x.amount = 0
          · have hv := hid' (not_ok_right (k := k) HX.out (show legOk x = false by rw [HLO.out, a0]; rfl))
            rw [a0] at m2
            clear a0
            go_wp2_with fail
            go_ret
            exact ⟨by rw [HR.out, hv.out]; rfl, Below.more HA.out.bel HB2.out⟩
          · have a0' : (x.amount == 0) = false := by rw [beq_eq_false_iff_ne]; exact a0
            by_cases a1 : x.amount < -1000000000000000
            · have hv := hid' (not_ok_right (k := k) HX.out (show legOk x = false by rw [HLO.out, decide_eq_true a0, decide_eq_false (by omega : ¬ -1000000000000000 ≤ x.amount)]; rfl))
              have a1' : decide (x.amount < -1000000000000000) = true := by simpa using a1
              clear a1 a0
              go_wp2_with fail
              go_ret
              exact ⟨by rw [HR.out, hv.out]; rfl, Below.more HA.out.bel HB2.out⟩
            · have a1' : decide (x.amount < -1000000000000000) = false := by simpa using a1
              by_cases a2 : 1000000000000000 < x.amount
              · have hv := hid' (not_ok_right (k := k) HX.out (show legOk x = false by rw [HLO.out, decide_eq_true a0, decide_eq_true (by omega : -1000000000000000 ≤ x.amount), decide_eq_false (by omega : ¬ x.amount ≤ 1000000000000000)]; rfl))
                have a2' : decide (1000000000000000 < x.amount) = true := by simpa using a2
                clear a1 a0 a2
                go_wp2_with fail
                go_ret
                exact ⟨by rw [HR.out, hv.out]; rfl, Below.more HA.out.bel HB2.out⟩
              · have a2' : decide (1000000000000000 < x.amount) = false := by simpa using a2
                have HOK := hid' (show legOk x = true by rw [HLO.out, decide_eq_true a0, decide_eq_true (by omega : -1000000000000000 ≤ x.amount), decide_eq_true (by omega : x.amount ≤ 1000000000000000)]; rfl)
                have am1 : -1000000000000000 ≤ x.amount := by omega
                have am2 : x.amount ≤ 1000000000000000 := by omega
                clear a1 a0 a2 HLO x6 x7
                go_upto_region 9 with (fail)
                go_cut [86] (fun v wx => v = .bool (badAt legs k x) ∧ Below w2.heap.size w2 wx)
                case first =>
                  rcases Nat.eq_zero_or_pos k with rfl | hk0
                  · have g0 : decide ((0 : Int) < ((0 : Nat) : Int)) = false := rfl
                    go_quiet (fail)
                    go_wp2_with fail
                    go_meet
                    exact ⟨rfl, Below.drewn (Below.refl _ _) _⟩
                  · obtain ⟨j, rfl⟩ : ∃ j, k = j + 1 := ⟨k - 1, by omega⟩
                    obtain ⟨y, hy⟩ : ∃ y, legs[j]? = some y := ⟨_, List.getElem?_eq_getElem (by omega)⟩
                    have hB2 : Below w.heap.size w w2 := Below.more HA.out.bel HB2.out
                    obtain ⟨y1, y2, y3, y4, y5, y6, y7⟩ := (h4.below h3 hB2) j y hy
                    have hbx : w2.cell? ⟨w.heap.size, 2, none⟩ = some (.slice (some ⟨b, off, none⟩) legs.length cap) := (HB2.out.cell (p := ⟨w.heap.size, 2, none⟩) (by have := HA.out.size; show w.heap.size < _; omega)).trans HA.out.box
                    have hs2 : w.heap.size + 2 ≤ w2.heap.size := Nat.le_trans HA.out.size HB2.out.size
                    have hbad := hid' (show badAt legs (j + 1) x = !rises y x by show (match legs[j]? with | some y => !rises y x | none => false) = _; rw [hy])
                    have g0 : decide ((0 : Int) < (j : Int) + 1) = true := by simp; try omega
                    have g1 : decide ((0 : Int) < ((j + 1 : Nat) : Int)) = true := by simp; try omega
                    have g2 : IntKind.i64.wrap ((j : Int) + 1 - 1) = (j : Int) := by rw [IntWalk.i64_in _ (by omega)]; omega
                    have g3 : IntKind.i64.wrap (j : Int) = (j : Int) := IntWalk.i64_in _ (by omega)
                    have g4 : IntKind.i64.wrap (((j + 1 : Nat) : Int) - 1) = (j : Int) := by rw [IntWalk.i64_in _ (by omega)]; omega
                    have g5 : (0 : Int) ≤ (j : Int) := by omega
                    have g6 : (j : Int) < (legs.length : Int) := by omega
                    have b20 := Below.refl w2.heap.size w2
                    clear hy y4 y5 y6 y7 x1 x2 x3 x4 x5 hB2 am1 am2 a0' a1' a2' hs2 lt2 q1 q2 q3 q4 q5 q6
                    go_region_held3 (fun w' => w'.cell? ⟨w.heap.size, 2, none⟩ = some (.slice (some ⟨b, off, none⟩) legs.length cap) ∧ w'.cell? ⟨b, off + j * 3, none⟩ = some (.string y.party) ∧ w'.cell? ⟨b, off + j * 3 + 1, none⟩ = some (.string y.cur) ∧ w'.cell? ⟨b, off + j * 3 + 2, none⟩ = some (.int .i64 y.amount) ∧ w'.cell? ⟨wr.heap.size, 0, none⟩ = some (.string x.party) ∧ w'.cell? ⟨wr.heap.size, 1, none⟩ = some (.string x.cur) ∧ w'.cell? ⟨wr.heap.size, 2, none⟩ = some (.int .i64 x.amount) ∧ Below w2.heap.size w2 w') (first | exact ⟨drew_cell hbx, drew_cell y1, drew_cell y2, drew_cell y3, drew_cell p2, drew_cell c2, drew_cell m2, b20.drew⟩ | simp [*])
                      (first | (go_at_call_of 41 (Value.agg #[Value.string y.party, Value.string y.cur, Value.int IntKind.i64 y.amount]); refine (of_any _ _ _ _).mono ?_; rintro e w1 ⟨rfl, b1⟩; have hk := keep_all b1; have hk2 := keep_below (w2 := w2) b1) | (go_at_call_of 41 (Value.agg #[Value.string x.party, Value.string x.cur, Value.int IntKind.i64 x.amount]); refine (of_any _ _ _ _).mono ?_; rintro e w1 ⟨rfl, b1⟩; have hk := keep_all b1; have hk2 := keep_below (w2 := w2) b1) | (go_at_call 48; refine (comp_any _ _ _ _ _).mono ?_; rintro e w1 ⟨rfl, b1⟩; have hk := keep_all b1; have hk2 := keep_below (w2 := w2) b1))
                    go_wp2_with fail
                    go_meet
                    refine ⟨?_, by simp [*]⟩
                    rw [hbad.out, rises_not]
                case rest =>
                  obtain ⟨rfl, b3⟩ := hcut
                  have HL3 := hid' (HL2.out.below b3)
                  have HB3 := hid' (Below.more HB2.out b3)
                  clear HL2 HB2 p2 c2 m2 lt2 b3
                  obtain ⟨lt3, p3, c3, m3⟩ := HL3.out
                  cases hbd : badAt legs k x with
                  | true =>
                    have hv := hid' (bad_right HX.out HA.out.ris hbd)
                    clear hbd
                    go_wp2_with fail
                    go_ret
                    exact ⟨by rw [HR.out, hv.out]; rfl, Below.more HA.out.bel HB3.out⟩
                  | false =>
                    have hown := owns_below HA.out.map HB3.out
                    have hkey : keyOf Tryd.prog 9 (.string x.cur) = some (keyS x.cur) := WideMaps.keyOf_string_mk Tryd.underlying9 (by unfold maxLen; omega)
                    obtain ⟨c, hrun, hat, hwc⟩ := hown.lookup_int keysString Tryd.underlying85 Tryd.underlying2 (zeroI64 _) hkey
                    have hat2 : litI (sumOf x.cur (legs.take k)) = litI c := (sumK_at legs k hk x.cur).symm.trans hat
                    have hcs : c = sumOf x.cur (legs.take k) := by
                      unfold litI at hat2
                      simp at hat2
                      exact hat2.symm
                    have hsb := sumOf_le x.cur (legs.take k) HA.out.ok
                    have hsn : sumOf x.cur (legs.take (k + 1)) = c + x.amount := by rw [take_snoc legs k x HX.out, sumOf_snoc, if_pos rfl, hcs]
                    rw [← hcs, List.length_take] at hsb
                    have hb1 : -64000000000000000 ≤ c := by omega
                    have hb2 : c ≤ 64000000000000000 := by omega
                    have hwf : (Lit.int IntKind.i64 (c + x.amount)).wf = true := WalkArith.wf_i64 (by omega)
                    have HSN := hid' hsn
                    have HBD := hid' hbd
                    clear hat hat2 hcs hsb hsn hbd hwc
                    go_wp2_with (at_mapUpdate; refine wpList_mapUpdate_own _ rfl _ _ _ 85 rfl 9 2 keysString Tryd.underlying85 _ _ k _ rfl hown (by unfold maxLen; omega) _ _ _ rfl rfl hkey _ [] (plainElem_int Tryd.underlying2 hwf) (fun w4 hown4 hgrow4 => ?_); refine halt' ?_)
                    have HRA := hid' (RightAt.step HA.out HB3.out hown4 hgrow4 HX.out HOK.out HSN.out HBD.out)
                    clear hown hown4 hgrow4 hrun
                    refine hid' ?_
                    go_wp2_with fail
                    go_roundw
                    case rel => exact ⟨k + 1, by go_num, by omega, HRA⟩
                    case measure => simp [intOf]; omega
    · obtain rfl : k = legs.length := by omega
      have hown := HA.out.map
      have HB := hid' HA.out.bel
      have HOK := hid' (show legs.all legOk = true by have := HA.out.ok; rwa [List.take_length] at this)
      have HRI := hid' (show rising legs = true by have := HA.out.ris; rwa [List.take_length] at this)
      clear HA
      go_wp2_with (first | (at_range; refine wpList_range_own _ rfl _ 85 rfl 9 2 keysString Tryd.underlying85 _ _ _ _ rfl hown ?_; intro w0 hrg0 hg0 hs0) | go_in)
      have HBr := hid' (HB.out.grown hg0 HB.out.size (fun j e => by cases e))
      have hsz := HB.out.size
      generalize wr.heap.size = r0 at hrg0 hsz ⊢
      clear hg0 HB hown hs0
      go_frame
      go_loopw [7] (fun v wz => ∃ (left : Lit → Bool) (cnt : Nat), wz.ranges Tryd.prog 9 (plainElem Tryd.prog 2) (w.heap.size + 1) r0 legs.length (sumK legs legs.length) left cnt ∧ Hid (Below w.heap.size w wz) ∧ Hid ((∀ z, left z = true → Maps.has (sumK legs legs.length) z = true) ∧ (∀ c, Maps.has (sumK legs legs.length) (keyS c) = true → left (keyS c) = false → sumOf c legs = 0))) (fun _ wz => wz.rangeLeft (w.heap.size + 1) r0)
      case atStart => exact ⟨_, _, hrg0, HBr, hid' ⟨fun z h => h, fun c h1 h2 => by rw [h1] at h2; cases h2⟩⟩
      case round =>
        obtain ⟨left, cnt, hrg, HBz, HL⟩ := hrel
        go_wp2_with (first | (at_next; refine wpList_next_ranges _ rfl _ rfl 9 keysString (plainElem Tryd.prog 2) Value.string (Value.int .i64) (fun key kl hk => Maps.keyOf_string_inv Tryd.underlying9 hk) (fun v y hv => by obtain ⟨c, rfl, _⟩ := plainElem_int_inv Tryd.underlying2 hv; exact ⟨c, rfl⟩) (w.heap.size + 1) r0 legs.length _ _ _ rfl hrg ?_ ?_) | go_in)
        · intro hc0 hl0
          have hv := hid' (show rp = true by rw [HR.out, HOK.out, HRI.out, even_of legs (fun c hc => HL.out.2 c hc (hl0 _))]; rfl)
          go_wp2_with fail
          go_ret
          exact ⟨by rw [hv.out]; rfl, HBz.out⟩
        · intro x c kl yd yp w2 cnt2 hkey hlk hv hat hrg2 hlt hg2 hs2 hen
          obtain ⟨c', ec, ey, hwc⟩ := plainElem_int_inv Tryd.underlying2 hv
          obtain rfl : c = c' := by cases ec; rfl
          have ed := (Prod.mk.inj ey).1
          have hkl : kl = keyS x := by
            simp [keyOf, Tryd.underlying9, mapKey] at hkey
            exact hkey.2.symm
          have hhas := HL.out.1 _ hlk
          rw [hkl] at hhas hlk
          have hcs : c = sumOf x legs := by
            have h1 := hat (litI 0)
            rw [hkl, sumK_at legs legs.length (Nat.le_refl _) x, List.take_length, ed] at h1
            have h2 : litI (sumOf x legs) = litI c := h1
            unfold litI at h2
            simp at h2
            exact h2.symm
          have HBy := hid' (HBz.out.grown hg2 HBz.out.size (fun j e => by cases e; exact hsz))
          by_cases h0 : c = 0
          · subst h0
            have HL2 := hid' (show (∀ z, (left z && !z.sameKey kl) = true → Maps.has (sumK legs legs.length) z = true) ∧ (∀ d, Maps.has (sumK legs legs.length) (keyS d) = true → (left (keyS d) && !(keyS d).sameKey kl) = false → sumOf d legs = 0) from ⟨fun z hz => HL.out.1 z (by simp at hz; exact hz.1), fun d hd hz => by
              by_cases e : keyS d = kl
              · rw [hkl] at e; rw [keyS_inj e]; exact hcs.symm
              · rw [Maps.sameKey_ne e] at hz; exact HL.out.2 d hd (by simpa using hz)⟩)
            clear hkey hv hat hhas hkl hlk hg2 hs2
            go_wp2_with fail
            go_roundw
            case rel => exact ⟨_, cnt2, hrg2, HBy, HL2⟩
            case measure => rw [hrg2.left_eq, hrg.left_eq]; exact hlt
          · have hv := hid' (show rp = false by rw [HR.out, HOK.out, HRI.out, not_even_of legs x hhas (by rw [← hcs]; exact h0)]; rfl)
            have g0 : decide (c = 0) = false := decide_eq_false h0
            clear hkey hat hhas hkl hlk hg2 hs2
            go_wp2_with fail
            go_ret
            exact ⟨by rw [hv.out]; rfl, HBy.out⟩
theorem right_any (p : Post) (lv : Value) (w : World) (hl : LegsAt w lv p.legs) (hd : -9223372036854775808 ≤ p.day ∧ p.day ≤ 9223372036854775807) (hi : -9223372036854775808 ≤ p.id ∧ p.id ≤ 9223372036854775807) :
    Calls Tryd.prog 26 #[.agg #[.int .i64 p.day, .int .i64 p.id, lv]] w (Gives (.bool (right p)) w) := by
  cases hh : head p with
  | false => exact right_early p lv w hl hd hi hh
  | true =>
    rcases hl with ⟨⟨p0, rfl⟩, h1⟩ | ⟨b, off, cap, rfl, h1, h2, h3, h4⟩
    · obtain ⟨_, _, _, _, n1, _⟩ := head_parts hh
      have : p.legs = [] := by simpa using h1
      rw [this] at n1; simp at n1
    · exact right_main p b off cap w h1 h2 h3 h4 hh
end Go.Proofs.YtmmbhmlhenpgbaaDoor

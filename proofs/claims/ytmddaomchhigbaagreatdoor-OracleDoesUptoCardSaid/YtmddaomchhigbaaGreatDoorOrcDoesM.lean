/- Proved: the reference's Feeds, RightFeeds, SetKey as contracts; the table beside the reference's one, and what a round of OracleDoes leaves. -/
import Derived.Test.YtmddaomchhigbaaGreatDoorOrcRefTab
import Derived.Laws.AppendOwnNone
import Derived.Test.YtmddaomchhigbaaGreatDoorOrcSame
import Derived.Sort.Walk0
import Derived.IntWalk
import Derived.Test.YtmddaomchhigbaaGreatDoorOrcRefTake
import Derived.Test.YtmddaomchhigbaaGreatDoorOrcRefSet
namespace Go.Proofs.YtmddaomchhigbaaGreatDoor
open Go.RowKit Go.Maps
open Led Orc
set_option linter.unusedVariables false
set_option linter.unusedSimpArgs false
set_option maxRecDepth 100000
def rfCells (R : List Rk) : List (ByteArray × Value) := R.map fun p => (p.kn.name, p.sv)
/-- Feeds that are appended while the loop runs. -/
structure RfAcc (w : World) (R : List Rk) (i : Nat) (v : Value) (W : World) : Prop where
  bel : Below w.heap.size w W
  row : W.ownsRow w.heap.size 52 2 v i (feedCells (rfCells (R.take i)))
theorem rf_take_succ {R : List Rk} {i : Nat} {x : Rk} (hx : R[i]? = some x) : feedCells (rfCells (R.take (i + 1))) = feedCells (rfCells (R.take i)) ++ [.string x.kn.name, x.sv] := by
  rw [List.take_add_one, hx]
  unfold rfCells
  rw [List.map_append, feedCells_append]
  rfl
def RFeedsPost (R : List Rk) (w : World) (e : Ending) (w' : World) : Prop := ∃ v, e = .returned v ∧ Below w.heap.size w w' ∧ FeedsSeen w' v (R.map fun p => (p.kn.name, p.kn.stamps))
theorem RfAcc.seen {base rb : Nat} {lv : Value} {R : List Rk} {w W : World} {v : Value} (h : RfTab base rb lv R w) (a : RfAcc w R R.length v W) : FeedsSeen W v (R.map fun p => (p.kn.name, p.kn.stamps)) := by
  have hr := a.row
  rw [List.take_length] at hr
  have hform : ∃ p c, v = .slice p R.length c ∧ R.length ≤ c := by
    obtain ⟨_, ⟨e1, e2⟩ | ⟨g, cap, cur, e, _, _, h4, _⟩⟩ := hr
    · exact ⟨none, 0, by rw [e1, e2], by omega⟩
    · exact ⟨_, _, e, h4⟩
  obtain ⟨p, c, rfl, hqc⟩ := hform
  refine ⟨p, c, by rw [List.length_map], by rw [List.length_map]; exact ⟨hqc, h.room⟩, fun i x hx => ?_⟩
  rw [List.getElem?_map] at hx
  obtain ⟨y, hy, rfl⟩ := Option.map_eq_some_iff.1 hx
  have hi := (List.getElem?_eq_some_iff.1 hy).1
  obtain ⟨c0, c1⟩ := feedCells_at (rfCells R) i (y.kn.name, y.sv) (by unfold rfCells; rw [List.getElem?_map, hy]; rfl)
  obtain ⟨_, ⟨e1, e2⟩ | ⟨g, cap, cur, e, h2, h3, h4, h5, h6, h7⟩⟩ := hr
  · omega
  · obtain ⟨rfl, -, rfl⟩ := Value.slice.inj e
    rw [← h7, List.getElem?_take_of_lt (by omega), Array.getElem?_toList] at c0 c1
    exact ⟨g, 0, y.sv, rfl, lt_of_block h3, by rw [Nat.zero_add]; simp [World.cell?, h3, c0], by rw [Nat.zero_add]; simp [World.cell?, h3, c1], ((h.st y (List.mem_of_getElem? hy)).seen (h.fits y (List.mem_of_getElem? hy)).stamps).below a.bel⟩
set_option maxHeartbeats 4000000 in
theorem refFeeds_any (base rb : Nat) (lv : Value) (R : List Rk) (w : World) (h : RfTab base rb lv R w) : Calls Tryz.prog 26 #[.pointer (some ⟨rb, 0, none⟩)] w (RFeedsPost R w) := by
  have HH := hid' h
  have hl : (R.length : Int) ≤ 64 := by have := h.room; omega
  obtain ⟨p0, cc, rfl, hc, _⟩ := h.form
  have HA := hid' (show RfAcc w R 0 (.slice none 0 0) w from ⟨Below.refl _ _, World.ownsRow_nil _ _ _ _⟩)
  have HCB := hid' (fun (W : World) (hb : Below w.heap.size w W) => (block_cells (h.below hb).hb).1 0 _ rfl)
  have HRM := hid' h.room
  clear h
  go_enter Tryz.func26, Tryz.ntmps26
  go_wp2_with fail
  go_loopw [3, 4] (fun v iv wr => ∃ (i : Nat) (vp : Option Addr) (vc : Nat), iv = .int .i64 (i : Int) ∧ v = .slice vp i vc ∧ i ≤ R.length ∧ Hid (RfAcc w R i (.slice vp i vc) wr)) (fun _ iv _ => R.length - (intOf iv).toNat)
  case atStart => exact ⟨0, none, 0, rfl, rfl, Nat.zero_le _, HA⟩
  case round =>
    obtain ⟨i, vp, vc, rfl, rfl, hi, HP⟩ := hrel
    have c0 := HCB.out wr HP.out.bel
    by_cases hin : i < R.length
    · obtain ⟨x, hx⟩ : ∃ x, R[i]? = some x := ⟨_, List.getElem?_eq_getElem hin⟩
      obtain ⟨p', c', e', _, hcell⟩ := (HH.out.below HP.out.bel).form
      obtain ⟨rfl, -, rfl⟩ := Value.slice.inj e'
      obtain ⟨g, rfl, _, k0, k1, _, _, _⟩ := hcell i x hx
      obtain ⟨sp, sc, hsv, _, _⟩ := (HH.out.st x (List.mem_of_getElem? hx)).form
      rw [hsv] at k1
      have HTK := hid' (rf_take_succ hx)
      rw [hsv] at HTK
      have j1 : (0 : Int) ≤ (i : Int) := by omega
      have j2 : (i : Int) < (R.length : Int) := by omega
      have wi : IntKind.i64.wrap ((i : Int) + 1) = (i : Int) + 1 := IntWalk.i64_in _ (by omega)
      have HIN := hid' hin
      have hb4 : Below wr.heap.size wr (wr.alloc (.cells #[.string x.kn.name, .slice sp x.kn.stamps.length sc] 52)) := (Below.refl _ _).alloc (Nat.le_refl _) _
      have HG4 := hid' (heap_alloc_new wr (.cells #[.string x.kn.name, .slice sp x.kn.stamps.length sc] 52))
      have HR4 := hid' (World.ownsRow.alloc HP.out.row (.cells #[.string x.kn.name, .slice sp x.kn.stamps.length sc] 52))
      have HB4 := hid' (Below.more HP.out.bel hb4)
      obtain ⟨fi, hfi, hz, hsz, hby⟩ := info_parts info_feed
      have HI := hid' hfi
      have HZ := hid' (And.intro hz (And.intro hsz hby))
      clear hfi hz hsz hby hx hcell hsv hb4 e'
      go_wp2_with (refine wpList_append_own _ rfl _ _ 47 rfl w.heap.size 52 fi _ 2 40 Tryz.underlying47 HI.out HZ.out.1 HZ.out.2.1 HZ.out.2.2 rfl (by decide) _ i _ rfl HR4.out ⟨wr.heap.size, 0, none⟩ 1 1 [.string x.kn.name, .slice sp x.kn.stamps.length sc] rfl rfl (World.news_of_block HG4.out) (fun u hu => by
        simp only [List.mem_cons, List.not_mem_nil, or_false] at hu
        rcases hu with rfl | rfl <;> rfl) (by unfold maxLen; have := HRM.out; omega) (by have := HRM.out; omega) (by exact HB4.out.size) (fun v' w' h1 h2 _ => ?_); refine halt' ?_)
      obtain ⟨vp2, vc2, hv2⟩ : ∃ p c, v' = .slice p (i + 1) c := by
        obtain ⟨_, ⟨e1, e2⟩ | ⟨g, cap, cur, e, _⟩⟩ := h1
        · omega
        · exact ⟨_, _, e⟩
      subst hv2
      have HPN := hid' (show RfAcc w R (i + 1) (.slice vp2 (i + 1) vc2) w' from ⟨HB4.out.grown h2 HB4.out.size (fun k e => (World.ownsRow.lt HP.out.row k e).1), by rw [HTK.out]; exact h1⟩)
      clear h1 h2
      refine hid' ?_
      go_wp2_with fail
      go_roundw
      case rel => exact ⟨i + 1, vp2, vc2, by go_num, rfl, by have := HIN.out; omega, HPN⟩
      case measure => have := HIN.out; simp [intOf]; omega
    · obtain rfl : i = R.length := by omega
      have g9 : decide (R.length < R.length) = false := by simp
      have HF := hid' (RfAcc.seen HH.out HP.out)
      go_wp2_with fail
      go_ret
      exact ⟨_, rfl, HP.out.bel, HF.out⟩
open Go.RowKit Go.Maps
open Led Orc
set_option linter.unusedVariables false
set_option linter.unusedSimpArgs false
set_option maxRecDepth 100000
structure FeedsRight (l : List (ByteArray × List (Int × Int))) : Prop where
  name : ∀ (i : Nat) x, l[i]? = some x → Led.isName x.1 = true
  rise : ∀ (i : Nat) x y, l[i]? = some x → l[i + 1]? = some y → Op.bytesLess x.1.toList y.1.toList = true
  day : ∀ (i : Nat) x, l[i]? = some x → ∀ (k : Nat) y, x.2[k]? = some y → 0 ≤ y.1 ∧ y.1 ≤ 73048 ∧ -1000000000000000 ≤ y.2 ∧ y.2 ≤ 1000000000000000
  up : ∀ (i : Nat) x, l[i]? = some x → ∀ (k : Nat) y z, x.2[k]? = some y → x.2[k + 1]? = some z → y.1 < z.1
set_option maxHeartbeats 8000000 in
theorem rightFeeds_yes (v : Value) (l : List (ByteArray × List (Int × Int))) (w : World) (h : FeedsSeen w v l) (hr : FeedsRight l) : Calls Tryz.prog 27 #[v] w (DrewT (.bool true) w) := by
  obtain ⟨pa, ca, rfl, ⟨hc, hl⟩, HA⟩ := h
  have HA' := hid' HA
  have HR := hid' hr
  have HK := hid' (Kept.refl w)
  have hl' : (l.length : Int) ≤ 64 := by omega
  have g64 : decide (64 < l.length) = false := decide_eq_false (by omega)
  have g64i : decide ((64 : Int) < (l.length : Int)) = false := decide_eq_false (by omega)
  clear HA hr hc hl
  go_enter Tryz.func27, Tryz.ntmps27
  go_wp2_with fail
  go_loopw [3] (fun iv wr => ∃ i : Nat, iv = .int .i64 (i : Int) ∧ i ≤ l.length ∧ Hid (Kept w wr)) (fun iv _ => l.length - (intOf iv).toNat)
  case atStart => exact ⟨0, rfl, Nat.zero_le _, HK⟩
  case round =>
    obtain ⟨i, rfl, hi, HW⟩ := hrel
    by_cases hin : i < l.length
    · obtain ⟨x, hx⟩ : ∃ x, l[i]? = some x := ⟨_, List.getElem?_eq_getElem hin⟩
      obtain ⟨b1, o1, s1, rfl, hb1, x1, x2, x3⟩ := HA'.out i x hx
      obtain ⟨p1, c1, rfl, hsl, S1⟩ := x3
      have HS1 := hid' S1
      have x1' := HW.out.cell x1
      have x2' := HW.out.cell x2
      have j1 : (0 : Int) ≤ (i : Int) := by omega
      have j2 : (i : Int) < (l.length : Int) := by omega
      have wi : IntKind.i64.wrap ((i : Int) + 1) = (i : Int) + 1 := IntWalk.i64_in _ (by omega)
      have hsl' : (x.2.length : Int) ≤ 4096 := by omega
      have gs : decide (4096 < x.2.length) = false := decide_eq_false (by omega)
      have gsi : decide ((4096 : Int) < (x.2.length : Int)) = false := decide_eq_false (by omega)
      have HNM := hid' (HR.out.name i x hx)
      have HDY := hid' (HR.out.day i x hx)
      have HUP := hid' (HR.out.up i x hx)
      have HSZ := hid' (show x.1.size ≤ 9223372036854775807 from Nat.le_trans (Led.name_len HNM.out) (by decide))
      have HPV := hid' (show ∀ j, i = j + 1 → ∃ y, w.cell? ⟨b1, o1 + j * 2, none⟩ = some (.string y) ∧ Op.bytesLess y.toList x.1.toList = true from by
        intro j hj
        obtain ⟨y, hy⟩ : ∃ y, l[j]? = some y := ⟨_, List.getElem?_eq_getElem (by omega)⟩
        obtain ⟨b2, o2, s2, e, _, y1, _, _⟩ := HA'.out j y hy
        obtain ⟨rfl, rfl⟩ : b1 = b2 ∧ o1 = o2 := by simpa using e
        exact ⟨y.1, y1, HR.out.rise j y x hy (by rw [← hj]; exact hx)⟩)
      clear hx x1 x2 S1 hb1
      go_wp2_with fail
      refine (refIsName_any x.1 wr HSZ.out).mono ?_
      rintro e w2 ⟨rfl, rfl⟩
      rw [HNM.out]
      go_upto_region 8 with (fail)
      have hcase : (decide ((0 : Int) < (i : Int)) = false ∧ decide (0 < i) = false) ∨ ∃ (j : Nat) (y : ByteArray), decide (0 < i) = true ∧ IntKind.i64.wrap ((i : Int) - 1) = (j : Int) ∧ (0 : Int) ≤ (j : Int) ∧ (j : Int) < (l.length : Int) ∧ w.cell? ⟨b1, o1 + j * 2, none⟩ = some (.string y) ∧ Op.bytesLess y.toList x.1.toList = true := by
        cases i with
        | zero => exact .inl ⟨rfl, rfl⟩
        | succ j =>
          obtain ⟨y, y1, yl⟩ := HPV.out j rfl
          exact .inr ⟨j, y, decide_eq_true (by omega), by rw [IntWalk.i64_in _ (by omega)]; omega, by omega, by omega, y1, yl⟩
      have HIN := hid' hin
      clear HPV
      rcases hcase with ⟨g0, g0n⟩ | ⟨j, y, g0, ws, q1, q2, y1, yl⟩
      all_goals first
        | replace y1 := HW.out.cell y1
        | skip
      all_goals go_quiet (fail)
      all_goals clear x1' x2' g0
      all_goals try clear g0n
      all_goals try clear y1 yl ws q1 q2 j
      all_goals
        have HW1 := hid' (Kept.more HW.out nq)
        generalize World.drewN w2 nq = wm at *
      all_goals go_wp2_with fail
      all_goals
        go_loopw [6] (fun kv wr => ∃ k : Nat, kv = .int .i64 (k : Int) ∧ k ≤ x.2.length ∧ Hid (Kept w wr)) (fun kv _ => x.2.length - (intOf kv).toNat)
        case atStart => exact ⟨0, rfl, Nat.zero_le _, HW1⟩
        case round =>
          obtain ⟨k, rfl, hk, HV⟩ := hrel
          by_cases hkn : k < x.2.length
          · obtain ⟨z, hz⟩ : ∃ z, x.2[k]? = some z := ⟨_, List.getElem?_eq_getElem hkn⟩
            obtain ⟨gb, go1, rfl, _, c0, c1⟩ := HS1.out k z hz
            have hkc : (decide ((0 : Int) < (k : Int)) = false ∧ decide (0 < k) = false) ∨ ∃ (m : Nat) (u : Int × Int), decide (0 < k) = true ∧ IntKind.i64.wrap ((k : Int) - 1) = (m : Int) ∧ (0 : Int) ≤ (m : Int) ∧ (m : Int) < (x.2.length : Int) ∧ w.cell? ⟨gb, go1 + m * 2, none⟩ = some (.int .i64 u.1) ∧ decide (z.1 ≤ u.1) = false := by
              cases k with
              | zero => exact .inl ⟨rfl, rfl⟩
              | succ m =>
                obtain ⟨u, hu⟩ : ∃ u, x.2[m]? = some u := ⟨_, List.getElem?_eq_getElem (by omega)⟩
                obtain ⟨g2, o2, e2, _, d0, _⟩ := HS1.out m u hu
                obtain ⟨rfl, rfl⟩ : gb = g2 ∧ go1 = o2 := by simpa using e2
                have := HUP.out m u z hu hz
                exact .inr ⟨m, u, decide_eq_true (by omega), by rw [IntWalk.i64_in _ (by omega)]; omega, by omega, by omega, d0, decide_eq_false (by omega)⟩
            obtain ⟨r1, r2, r3, r4⟩ := HDY.out k z hz
            have t1 : decide (z.1 < 0) = false := decide_eq_false (by omega)
            have t2 : decide (73048 < z.1) = false := decide_eq_false (by omega)
            have t3 : decide (z.2 < -1000000000000000) = false := decide_eq_false (by omega)
            have t4 : decide (1000000000000000 < z.2) = false := decide_eq_false (by omega)
            have k1 : (0 : Int) ≤ (k : Int) := by omega
            have k2 : (k : Int) < (x.2.length : Int) := by omega
            have HKN := hid' hkn
            replace c0 := HV.out.cell c0
            replace c1 := HV.out.cell c1
            clear hz r1 r2 r3 r4
            rcases hkc with ⟨g0, g0n⟩ | ⟨m, u, g0, ws, q1, q2, y1, yl⟩
            all_goals first
              | replace y1 := HV.out.cell y1
              | skip
            all_goals go_wp2_with fail
            all_goals go_quiet (fail)
            all_goals go_wp2_with fail
            all_goals go_roundw
            all_goals first
              | exact ⟨k + 1, by go_num, by have := HKN.out; omega, hid' (Kept.more HV.out _)⟩
              | (simp [intOf]; have := HKN.out; omega)
          · obtain rfl : k = x.2.length := by omega
            have g9 : decide (x.2.length < x.2.length) = false := by simp
            clear hkn
            go_wp2_with fail
            go_roundw
            case rel => exact ⟨i + 1, by go_num, by have := HIN.out; omega, HV⟩
            case measure => have := HIN.out; simp [intOf]; omega
    · obtain rfl : i = l.length := by omega
      have g9 : decide (l.length < l.length) = false := by simp
      clear hin
      go_wp2_with fail
      go_ret
      exact ⟨rfl, HW.out⟩
open Go.RowKit Go.Maps Go.Sort
open Led Orc
set_option linter.unusedVariables false
set_option linter.unusedSimpArgs false
set_option maxRecDepth 100000
theorem findK_memX {L : List Orc.Kn} {s : ByteArray} {k : Orc.Kn} (h : Orc.findK L s = some k) : k ∈ L ∧ k.name = s := ⟨List.mem_of_find?_eq_some h, by have := List.find?_some h; simpa using this⟩
structure Pair (base ta ma rb : Nat) (w : World) (Q : List Orc.Kb) (lv : Value) (R : List Rk) (W : World) : Prop where
  a : TabAt base ta ma Q W
  r : RfTab base rb lv R W
  dis : ∀ k, Foot ta ma Q k → ¬ RFoot rb lv R k
  bel : Below base w W
  sz : base ≤ W.heap.size
  perm : (R.map (·.kn)).Perm (Q.map (·.kn))
  up : ∀ k ∈ R.map (·.kn), k.stamps.Pairwise fun a b => a.1 < b.1
def PFree (ta ma rb : Nat) (Q : List Orc.Kb) (lv : Value) (R : List Rk) (W : World) (k : Nat) : Prop := k < W.heap.size ∧ ¬ Foot ta ma Q k ∧ ¬ RFoot rb lv R k
theorem Pair.below {base ta ma rb : Nat} {w : World} {Q : List Orc.Kb} {lv : Value} {R : List Rk} {W W' : World} (h : Pair base ta ma rb w Q lv R W) (B : Below W.heap.size W W') : Pair base ta ma rb w Q lv R W' :=
  ⟨h.a.below B, h.r.below B, h.dis, ⟨B.os.trans h.bel.os, B.tape.trans h.bel.tape, B.output.trans h.bel.output, Nat.le_trans h.bel.size B.size, fun k hk => (B.block k (Nat.lt_of_lt_of_le hk h.sz)).trans (h.bel.block k hk)⟩, Nat.le_trans h.sz B.size, h.perm, h.up⟩
/-- The base of what an 'OnlyF' leaves. -/
theorem below_only {base : Nat} {w W W' : World} {F : Nat → Prop} (hb : Below base w W) (hs : base ≤ W.heap.size) (o : OnlyF F W W') (hF : ∀ k, F k → base ≤ k) : Below base w W' := by
  have := o.to_below (base := base) hF hs
  exact ⟨this.os.trans hb.os, this.tape.trans hb.tape, this.output.trans hb.output, Nat.le_trans hb.size o.size, fun k hk => (this.block k hk).trans (hb.block k hk)⟩
/-- Both tables turn, one behind the other. -/
theorem Pair.step {base ta ma rb : Nat} {w : World} {Q : List Orc.Kb} {lv : Value} {R : List Rk} {L1 L2 : List Orc.Kn} {W W1 W2 W3 : World} (h : Pair base ta ma rb w Q lv R W) (s1 : TabStep base ta ma Q L1 W W1) (B : Below W1.heap.size W1 W2) (s2 : RfStep base rb lv R L2 W2 W3)
    (hp : L2.Perm L1) (hu : ∀ k ∈ L2, k.stamps.Pairwise fun a b => a.1 < b.1) :
    ∃ Q' lv' R', Q'.map (·.kn) = L1 ∧ R'.map (·.kn) = L2 ∧ Pair base ta ma rb w Q' lv' R' W3 ∧ ∀ k, PFree ta ma rb Q lv R W k → PFree ta ma rb Q' lv' R' W3 k ∧ W3.heap[k]? = W.heap[k]? := by
  obtain ⟨Q', e1, t1, o1, f1⟩ := TabStep.out h.a s1
  obtain ⟨lv', R', e2, t2, o2, f2⟩ := s2
  have hz1 := o1.size
  have hz2 := B.size
  have hz3 := o2.size
  have hb1 := below_only h.bel h.sz o1 (fun k hk => (h.a.foot hk).1)
  have hb2 : Below base w W2 := ⟨B.os.trans hb1.os, B.tape.trans hb1.tape, B.output.trans hb1.output, Nat.le_trans hb1.size B.size, fun k hk => (B.block k (by have := h.sz; omega)).trans (hb1.block k hk)⟩
  have hkeep : ∀ k, k < W1.heap.size → ¬ RFoot rb lv R k → W3.heap[k]? = W1.heap[k]? := fun k hk hF => (o2.block k (by omega) hF).trans (B.block k hk)
  have hdis1 : ∀ k, Foot ta ma Q' k → ¬ RFoot rb lv R k := fun k ha hr => (f1 k (h.r.foot hr).2 (fun hq => h.dis k hq hr)).1 ha
  refine ⟨Q', lv', R', e1, e2, ⟨t1.keep fun k hk => hkeep k (t1.foot hk).2 (hdis1 k hk), t2, fun k ha hr => ?_, below_only hb2 (by have := h.sz; omega) o2 (fun k hk => (h.r.foot hk).1), by have := h.sz; omega, by rw [e1, e2]; exact hp, by rw [e2]; exact hu⟩, fun k ⟨hk1, hk2, hk3⟩ => ?_⟩
  · rcases f2 k hr with h1 | h1
    · exact hdis1 k ha h1
    · have := (t1.foot ha).2; omega
  · obtain ⟨g1, g2⟩ := f1 k hk1 hk2
    refine ⟨⟨by omega, g1, fun hr => ?_⟩, (hkeep k (by omega) hk3).trans g2⟩
    rcases f2 k hr with h1 | h1
    · exact hk3 h1
    · omega
/-- The reference's table stays while the other one turns. -/
theorem RfTab.other {base ta ma rb : Nat} {w : World} {Q : List Orc.Kb} {lv : Value} {R : List Rk} {L1 : List Orc.Kn} {W W1 : World} (h : Pair base ta ma rb w Q lv R W) (s1 : TabStep base ta ma Q L1 W W1) : RfTab base rb lv R W1 := by
  obtain ⟨Q', e1, t1, o1, f1⟩ := TabStep.out h.a s1
  exact h.r.keep fun k hk => (f1 k (h.r.foot hk).2 (fun hq => h.dis k hq hk)).2
theorem Pair.other {base ta ma rb : Nat} {w : World} {Q : List Orc.Kb} {lv : Value} {R : List Rk} {L1 : List Orc.Kn} {W W1 : World} (h : Pair base ta ma rb w Q lv R W) (s1 : TabStep base ta ma Q L1 W W1) : Below base w W1 ∧ base ≤ W1.heap.size ∧ ∀ k, PFree ta ma rb Q lv R W k → W1.heap[k]? = W.heap[k]? := by
  obtain ⟨Q', e1, t1, o1, f1⟩ := TabStep.out h.a s1
  exact ⟨below_only h.bel h.sz o1 (fun k hk => (h.a.foot hk).1), Nat.le_trans h.sz o1.size, fun k hk => (f1 k hk.1 hk.2.1).2⟩
namespace Orc
theorem findK_perm {L M : List Kn} (h : L.Perm M) (hu : L.Pairwise fun a b => a.name ≠ b.name) (s : ByteArray) : findK L s = findK M s := by
  have hu2 : M.Pairwise fun a b => a.name ≠ b.name := (h.pairwise_iff (fun {a b} hab e => hab e.symm)).1 hu
  cases hl : findK L s with
  | none =>
    symm
    refine findK_not fun k hk e => ?_
    have h1 := List.find?_eq_none.1 hl k (h.mem_iff.2 hk)
    simp [e] at h1
  | some k =>
    obtain ⟨hk, hn⟩ := findK_memX hl
    cases hm : findK M s with
    | none =>
      have h1 := List.find?_eq_none.1 hm k (h.mem_iff.1 hk)
      simp [hn] at h1
    | some k' =>
      obtain ⟨hk', hn'⟩ := findK_memX hm
      rw [findK_pair hu hk (h.mem_iff.2 hk') (hn.trans hn'.symm)]
theorem skCode_perm {L M : List Kn} (h : L.Perm M) (hu : L.Pairwise fun a b => a.name ≠ b.name) (s key : ByteArray) : skCode L s key = skCode M s key := by
  unfold skCode
  rw [findK_perm h hu, h.length_eq]
theorem skNext_perm {L M : List Kn} (h : L.Perm M) (hu : L.Pairwise fun a b => a.name ≠ b.name) (s key : ByteArray) : (skNext L s key).Perm (skNext M s key) := by
  unfold skNext
  rw [findK_perm h hu, h.length_eq]
  split
  · cases findK M s with
    | some k => exact h.map _
    | none =>
      simp only
      split
      · exact h
      · exact h.append_right _
  · exact h
theorem tkCode_perm {L M : List Kn} (h : L.Perm M) (hu : L.Pairwise fun a b => a.name ≠ b.name) (t : Tip) (today : Int) : tkCode L t today = tkCode M t today := by
  unfold tkCode
  rw [findK_perm h hu]
theorem tf_perm {L M : List Kn} (h : L.Perm M) (hu : L.Pairwise fun a b => a.name ≠ b.name) (l : List UInt8) (today : Int) : tfCode L l today = tfCode M l today ∧ tfTip L l today = tfTip M l today ∧ (tfNext L l today).Perm (tfNext M l today) := by
  unfold tfCode tfTip tfNext
  by_cases ht : today < 0 ∨ 73048 < today
  · simp only [if_pos ht]; exact ⟨trivial, trivial, h⟩
  · simp only [if_neg ht]
    cases hd : dec l with
    | none => exact ⟨rfl, rfl, h⟩
    | some t =>
      simp only [tkCode_perm h hu]
      refine ⟨trivial, trivial, ?_⟩
      unfold tkNext
      rw [findK_perm h hu, tkCode_perm h hu]
      cases findK M t.feed with
      | none => exact h
      | some k =>
        simp only
        split
        · exact h.map _
        · exact h
theorem lastDay_max {l : List (Int × Int)} (h : l.Pairwise fun a b => a.1 < b.1) : ∀ a ∈ l, a.1 ≤ lastDay l := by
  intro a ha
  rcases List.eq_nil_or_concat l with rfl | ⟨t, x, rfl⟩
  · cases ha
  · unfold lastDay
    rw [List.concat_eq_append, List.getLast?_concat]
    rw [List.concat_eq_append] at h ha
    rcases List.mem_append.1 ha with ha | ha
    · exact Int.le_of_lt ((List.pairwise_append.1 h).2.2 a ha x (List.mem_singleton.2 rfl))
    · rw [List.mem_singleton.1 ha]; exact Int.le_refl _
theorem up_sk {L : List Kn} (h : ∀ k ∈ L, k.stamps.Pairwise fun a b => a.1 < b.1) (s key : ByteArray) : ∀ k ∈ skNext L s key, k.stamps.Pairwise fun a b => a.1 < b.1 := by
  unfold skNext
  split
  · cases hf : findK L s with
    | some k =>
      intro x hx
      obtain ⟨y, hy, rfl⟩ := List.mem_map.1 hx
      unfold updK
      split
      · exact h k (findK_memX hf).1
      · exact h y hy
    | none =>
      simp only
      split
      · exact h
      · intro x hx
        rcases List.mem_append.1 hx with hx | hx
        · exact h x hx
        · rw [List.mem_singleton.1 hx]; exact List.Pairwise.nil
  · exact h
theorem up_tf {L : List Kn} (h : ∀ k ∈ L, k.stamps.Pairwise fun a b => a.1 < b.1) (l : List UInt8) (today : Int) : ∀ k ∈ tfNext L l today, k.stamps.Pairwise fun a b => a.1 < b.1 := by
  unfold tfNext
  split
  · exact h
  · cases hd : dec l with
    | none => exact h
    | some t =>
      simp only
      unfold tkNext
      cases hf : findK L t.feed with
      | none => exact h
      | some k =>
        simp only
        split
        · rename_i hc
          intro x hx
          obtain ⟨y, hy, rfl⟩ := List.mem_map.1 hx
          unfold updK
          split
          · have hk := h k (findK_memX hf).1
            have hlt : lastDay k.stamps < t.day := by
              unfold tkCode at hc
              rw [hf] at hc
              simp only at hc
              split at hc
              · cases hc
              · split at hc
                · cases hc
                · split at hc
                  · cases hc
                  · omega
            show (k.stamps ++ [(t.day, t.n)]).Pairwise _
            rw [List.pairwise_append]
            refine ⟨hk, List.pairwise_singleton _ _, fun a ha b hb => ?_⟩
            rw [List.mem_singleton.1 hb]
            have := lastDay_max hk a ha
            show a.1 < t.day
            omega
          · exact h y hy
        · exact h
end Orc
/-- The reference's feeds are the table's feeds. -/
theorem feeds_same {R : List Rk} {L : List Orc.Kn} (hr : R.Pairwise fun a b => Op.bytesLess a.kn.name.toList b.kn.name.toList = true) (hp : (R.map (·.kn)).Perm L) : (R.map fun p => (p.kn.name, p.kn.stamps)) = feedsK L := by
  have hu := rise_ne hr
  have hn : namesK L = (R.map (·.kn)).map fun k => k.name.data.toList := by
    unfold namesK
    rw [← mergeSort_of_perm (hp.map fun k => k.name.data.toList)]
    refine List.mergeSort_of_pairwise ?_
    rw [List.map_map]
    refine List.pairwise_map.2 (hr.imp fun {a b} h => ?_)
    rw [bytesLess_eq, ByteArray.toList_eq, ByteArray.toList_eq] at h
    exact decide_eq_true (List.le_of_lt (of_decide_eq_true h))
  unfold feedsK
  rw [hn, List.map_map, List.map_map]
  apply List.map_congr_left
  intro p hp'
  simp only [Function.comp_apply]
  have e1 : (⟨p.kn.name.data.toList.toArray⟩ : ByteArray) = p.kn.name := by simp
  rw [e1]
  refine Prod.ext rfl ?_
  show p.kn.stamps = stampsK L p.kn.name
  unfold stampsK
  rw [← Orc.findK_perm hp hu]
  have hm : p.kn ∈ R.map (·.kn) := List.mem_map_of_mem hp'
  cases hf : Orc.findK (R.map (·.kn)) p.kn.name with
  | none => 
    have h1 := List.find?_eq_none.1 hf p.kn hm
    simp at h1
  | some k =>
    obtain ⟨hk, hkn⟩ := findK_memX hf
    rw [findK_pair hu hm hk hkn.symm]
theorem Pair.right {base ta ma rb : Nat} {w : World} {Q : List Orc.Kb} {lv : Value} {R : List Rk} {W : World} (h : Pair base ta ma rb w Q lv R W) : FeedsRight (feedsK (Q.map (·.kn))) := by
  rw [← feeds_same h.r.rise h.perm]
  have get : ∀ {i : Nat} {x : ByteArray × List (Int × Int)}, (R.map fun p => (p.kn.name, p.kn.stamps))[i]? = some x → ∃ p, R[i]? = some p ∧ x = (p.kn.name, p.kn.stamps) := by
    intro i x hx
    rw [List.getElem?_map] at hx
    obtain ⟨p, hp, rfl⟩ := Option.map_eq_some_iff.1 hx
    exact ⟨p, hp, rfl⟩
  refine ⟨fun i x hx => ?_, fun i x y hx hy => ?_, fun i x hx k y hy => ?_, fun i x hx k y z hy hz => ?_⟩
  · obtain ⟨p, hp, rfl⟩ := get hx
    exact (h.r.fits p (List.mem_of_getElem? hp)).name
  · obtain ⟨p, hp, rfl⟩ := get hx
    obtain ⟨q, hq, rfl⟩ := get hy
    obtain ⟨hi, rfl⟩ := List.getElem?_eq_some_iff.1 hp
    obtain ⟨hj, rfl⟩ := List.getElem?_eq_some_iff.1 hq
    exact List.pairwise_iff_getElem.1 h.r.rise i (i + 1) hi hj (by omega)
  · obtain ⟨p, hp, rfl⟩ := get hx
    exact (h.r.fits p (List.mem_of_getElem? hp)).days y (List.mem_of_getElem? hy)
  · obtain ⟨p, hp, rfl⟩ := get hx
    have hu := h.up p.kn (List.mem_map_of_mem (List.mem_of_getElem? hp))
    obtain ⟨hi, rfl⟩ := List.getElem?_eq_some_iff.1 hy
    obtain ⟨hj, rfl⟩ := List.getElem?_eq_some_iff.1 hz
    exact List.pairwise_iff_getElem.1 hu k (k + 1) hi hj (by omega)
open Go.RowKit Go.Maps
open Led Orc
set_option linter.unusedVariables false
set_option linter.unusedSimpArgs false
set_option maxRecDepth 100000
/-- Both tables, the operation's box, the bytes. -/
structure PTrn (base ta ma rb : Nat) (w : World) (xb : Nat) (o : Opv) (rv v : Value) (l : List UInt8) (Q : List Orc.Kb) (lv : Value) (R : List Rk) (W : World) : Prop where
  two : Pair base ta ma rb w Q lv R W
  box : OpBox W xb o rv
  bx : PFree ta ma rb Q lv R W xb
  raw : (Reads W v (nums l) ∧ ∀ k, sliceBlk v = some k → PFree ta ma rb Q lv R W k) ∨ (l = [] ∧ ∃ p, v = .slice p 0 0)
theorem PTrn.reads {base ta ma rb : Nat} {w : World} {xb : Nat} {o : Opv} {rv v : Value} {l : List UInt8} {Q : List Orc.Kb} {lv : Value} {R : List Rk} {W : World} (h : PTrn base ta ma rb w xb o rv v l Q lv R W) : Reads0 W v l := h.raw.imp (fun h => h.1) id
theorem PFree.below {ta ma rb : Nat} {Q : List Orc.Kb} {lv : Value} {R : List Rk} {W W' : World} {k : Nat} (h : PFree ta ma rb Q lv R W k) (B : W.heap.size ≤ W'.heap.size) : PFree ta ma rb Q lv R W' k := ⟨Nat.lt_of_lt_of_le h.1 B, h.2⟩
theorem PTrn.below {base ta ma rb : Nat} {w : World} {xb : Nat} {o : Opv} {rv v : Value} {l : List UInt8} {Q : List Orc.Kb} {lv : Value} {R : List Rk} {W W' : World} (h : PTrn base ta ma rb w xb o rv v l Q lv R W) (B : Below W.heap.size W W') : PTrn base ta ma rb w xb o rv v l Q lv R W' :=
  ⟨h.two.below B, block_kept B h.box, h.bx.below B.size, h.raw.imp (fun h => ⟨h.1.below B, fun k hk => (h.2 k hk).below B.size⟩) id⟩
theorem Pair.turn {base ta ma rb : Nat} {w : World} {o : Opv} {rv : Value} {Q : List Orc.Kb} {lv : Value} {R : List Rk} {W : World} (h : Pair base ta ma rb w Q lv R W) (hr : Reads0 w rv o.raw) (hw : w.heap.size ≤ base) :
    PTrn base ta ma rb w W.heap.size o rv rv o.raw Q lv R (W.alloc (.cells #[.int .i64 o.kind, .string o.feed, .string o.key, .string o.tip.feed, .int .i64 o.tip.day, .int .i64 o.tip.n, .int .i64 o.tip.seq, .string o.tip.tag, rv, .int .i64 o.today] 42)) := by
  have B := (Below.refl W.heap.size W).alloc (Nat.le_refl _) (.cells #[.int .i64 o.kind, .string o.feed, .string o.key, .string o.tip.feed, .int .i64 o.tip.day, .int .i64 o.tip.n, .int .i64 o.tip.seq, .string o.tip.tag, rv, .int .i64 o.today] 42)
  have T := h.below B
  have hb0 : Below w.heap.size w W := ⟨h.bel.os, h.bel.tape, h.bel.output, h.bel.size, fun k hk => h.bel.block k (Nat.lt_of_lt_of_le hk hw)⟩
  refine ⟨T, heap_alloc_new W _, ⟨by simp, fun hF => ?_, fun hF => ?_⟩, hr.imp (fun hr => ⟨(hr.below hb0).below B, fun k hk => ⟨Reads.blk ((hr.below hb0).below B) hk, fun hF => ?_, fun hF => ?_⟩⟩) id⟩
  · have := (h.a.foot hF).2; omega
  · have := (h.r.foot hF).2; omega
  · have := (h.a.foot hF).1; have := Reads.blk hr hk; omega
  · have := (h.r.foot hF).1; have := Reads.blk hr hk; omega
theorem PTrn.bytes {base ta ma rb : Nat} {w : World} {xb : Nat} {o : Opv} {rv v v' : Value} {l l' : List UInt8} {Q : List Orc.Kb} {lv : Value} {R : List Rk} {W W' : World} (h : PTrn base ta ma rb w xb o rv v l Q lv R W) (B : Below W.heap.size W W') (hv : Owns W.heap.size W' v' (nums l')) : PTrn base ta ma rb w xb o rv v' l' Q lv R W' := by
  have T := h.below B
  refine ⟨T.two, T.box, T.bx, Or.inl ⟨hv.reads, fun k hk => ⟨Reads.blk hv.reads hk, fun hF => ?_, fun hF => ?_⟩⟩⟩
  · have := (h.two.a.foot hF).2; have := hv.blk hk; omega
  · have := (h.two.r.foot hF).2; have := hv.blk hk; omega
/-- The first table has turned; the reference's one, the box and the bytes are as they were. -/
theorem PTrn.first {base ta ma rb : Nat} {w : World} {xb : Nat} {o : Opv} {rv v : Value} {l : List UInt8} {Q : List Orc.Kb} {lv : Value} {R : List Rk} {L1 : List Orc.Kn} {W W1 : World} (h : PTrn base ta ma rb w xb o rv v l Q lv R W) (s1 : TabStep base ta ma Q L1 W W1) :
    RfTab base rb lv R W1 ∧ OpBox W1 xb o rv ∧ Reads0 W1 v l ∧ base ≤ W1.heap.size ∧ Below base w W1 := by
  obtain ⟨h1, h2, h3⟩ := h.two.other s1
  exact ⟨RfTab.other h.two s1, (h3 xb h.bx).trans h.box, h.raw.imp (fun h => h.1.same fun b hb => h3 b (h.2 b hb)) id, h2, h1⟩
/-- While Feeds' answer is written over. -/
structure Over (s0 : Nat) (w0 : World) (b : Nat) (q : List (ByteArray × Value)) (W : World) : Prop where
  bel : Below s0 w0 W
  hb : s0 ≤ b
  cells : ∀ (i : Nat) p, q[i]? = some p → W.cell? ⟨b, i * 2, none⟩ = some (.string p.1) ∧ W.cell? ⟨b, i * 2 + 1, none⟩ = some p.2
  st : ∀ (i : Nat) p, q[i]? = some p → ∃ (l : List (Int × Int)) (p0 : Option Addr) (c : Nat), p.2 = .slice p0 l.length c ∧ l.length ≤ 4096 ∧ ∀ k, k < l.length → ∃ g, p0 = some ⟨g, 0, none⟩ ∧ s0 ≤ g ∧ g ≠ b ∧ (∃ x, W.cell? ⟨g, k * 2 + 1, none⟩ = some (.int .i64 x)) ∧ W.frozen? ⟨g, k * 2 + 1, none⟩ = false
theorem Over.set {s0 : Nat} {w0 : World} {b : Nat} {q : List (ByteArray × Value)} {W : World} (h : Over s0 w0 b q W) {g k : Nat} (hg : s0 ≤ g) (hgb : g ≠ b) {x : Int} (hx : W.cell? ⟨g, k * 2 + 1, none⟩ = some (.int .i64 x)) : Over s0 w0 b q (W.setCell ⟨g, k * 2 + 1, none⟩ (.int .i64 7)) := by
  refine ⟨h.bel.setCell (p := ⟨g, k * 2 + 1, none⟩) hg _, h.hb, fun i p hp => ?_, fun i p hp => ?_⟩
  · obtain ⟨h1, h2⟩ := h.cells i p hp
    exact ⟨(World.cell?_setCell_far _ _ _ _ hgb).trans h1, (World.cell?_setCell_far _ _ _ _ hgb).trans h2⟩
  · obtain ⟨l, p0, c, e, hl, hk⟩ := h.st i p hp
    refine ⟨l, p0, c, e, hl, fun k' hk' => ?_⟩
    obtain ⟨g', e', h1, h2, ⟨y, hy⟩, hf⟩ := hk k' hk'
    refine ⟨g', e', h1, h2, ?_, ?_⟩
    · by_cases hgg : g' = g
      · subst hgg
        by_cases hkk : k' = k
        · subst hkk
          exact ⟨7, World.cell?_setCell_same _ _ _ hx⟩
        · exact ⟨y, (World.cell?_setCell_other _ _ _ _ (by intro e; simp at e <;> omega)).trans hy⟩
      · exact ⟨y, (World.cell?_setCell_far _ _ _ _ (fun e => hgg e.symm)).trans hy⟩
    · rw [World.frozen?_setCell]; exact hf
theorem Over.below {s0 : Nat} {w0 : World} {b : Nat} {q : List (ByteArray × Value)} {W W' : World} (h : Over s0 w0 b q W) (hs : s0 ≤ W.heap.size) (B : Below W.heap.size W W') : Over s0 w0 b q W' := by
  have go : ∀ {a : Addr} {v : Value}, W.cell? a = some v → W'.cell? a = some v := fun {a v} hc => (B.cell (World.block_lt_of_cell? _ _ hc)).trans hc
  refine ⟨⟨B.os.trans h.bel.os, B.tape.trans h.bel.tape, B.output.trans h.bel.output, Nat.le_trans h.bel.size B.size, fun k hk => (B.block k (by omega)).trans (h.bel.block k hk)⟩, h.hb, fun i p hp => ?_, fun i p hp => ?_⟩
  · obtain ⟨h1, h2⟩ := h.cells i p hp
    exact ⟨go h1, go h2⟩
  · obtain ⟨l, p0, c, e, hl, hk⟩ := h.st i p hp
    refine ⟨l, p0, c, e, hl, fun k' hk' => ?_⟩
    obtain ⟨g', e', h1, h2, ⟨y, hy⟩, hf⟩ := hk k' hk'
    exact ⟨g', e', h1, h2, ⟨y, go hy⟩, (B.frozen (p := ⟨g', k' * 2 + 1, none⟩) (World.block_lt_of_cell? _ _ hy)).trans hf⟩
theorem FdAt.over {Q : List Orc.Kb} {w W : World} {q : List (ByteArray × Value)} {v : Value} (h : FdAt Q w q v W) (hs : ∀ s, (stampsOf Q s).length ≤ 4096) : ∃ p c b, v = .slice p q.length c ∧ Over w.heap.size w b q W ∧ (0 < q.length → p = some ⟨b, 0, none⟩) := by
  obtain ⟨_, ⟨e1, e2⟩ | ⟨g, cap, cur, e, h2, h3, h4, h5, h6, h7⟩⟩ := h.row
  · have hq : q = [] := List.length_eq_zero_iff.1 e2
    subst hq
    exact ⟨none, 0, w.heap.size, e1, ⟨h.bel, Nat.le_refl _, fun i p hp => by simp at hp, fun i p hp => by simp at hp⟩, fun h => by simp at h⟩
  · refine ⟨_, cap, g, e, ⟨h.bel, h2, fun i p hp => ?_, fun i p hp => ?_⟩, fun _ => rfl⟩
    · have hi := (List.getElem?_eq_some_iff.1 hp).1
      obtain ⟨c0, c1⟩ := feedCells_at q i p hp
      rw [← h7, List.getElem?_take_of_lt (by omega), Array.getElem?_toList] at c0 c1
      exact ⟨by simp [World.cell?, h3, c0], by simp [World.cell?, h3, c1]⟩
    · have hr := h.st p (List.mem_of_getElem? hp)
      obtain ⟨p0, c, e0, _, _⟩ := hr.form
      refine ⟨stampsOf Q p.1, p0, c, e0, hs _, fun k hk => ?_⟩
      obtain ⟨y, hy⟩ : ∃ y, (stampsOf Q p.1)[k]? = some y := ⟨_, List.getElem?_eq_getElem hk⟩
      obtain ⟨g', cap', e', d0, d1⟩ := hr.at hy
      rw [e0] at e'
      obtain ⟨rfl, -, rfl⟩ := Value.slice.inj e'
      have hob : p.2.ownBlock = some g' := by rw [e0]; rfl
      refine ⟨g', rfl, (World.ownsRow.lt hr g' hob).1, ?_, ⟨y.2, d1⟩, ?_⟩
      · rintro rfl
        exact hr.ne h3 (fun _ _ e => by cases e) hob
      · obtain ⟨_, ⟨e2, _⟩ | ⟨g2, cap2, cur2, e2, _, q3, _⟩⟩ := hr
        · rw [e0] at e2; cases e2
        · rw [e0] at e2
          obtain rfl : g' = g2 := by simp only [Value.slice.injEq, Option.some.injEq, Addr.mk.injEq] at e2; exact e2.1.1
          simp [World.frozen?, q3]
theorem tip_neq (t : Orc.Tip) (w : World) : (binOp .neq 23 (.agg #[.string t.feed, .int .i64 t.day, .int .i64 t.n, .int .i64 t.seq, .string t.tag]) (.agg #[.string t.feed, .int .i64 t.day, .int .i64 t.n, .int .i64 t.seq, .string t.tag])).run Tryz.prog w = .ok (.bool false) w := by
  have u1 := Tryz.underlying9
  have u2 := Tryz.underlying2
  have u3 := Tryz.underlying3
  have a1 := Tryz.isAgg9
  have a2 := Tryz.isAgg2
  have a3 := Tryz.isAgg3
  have z1 := Tryz.sizeOf9
  have z2 := Tryz.sizeOf2
  have z3 := Tryz.sizeOf3
  have hS : Tryz.prog.underlying 23 = some (.struct (Tryz.prog.fieldsOf 23)) := by kernel_rfl
  have hp : Tryz.prog.stoodInHeld 23 = false := by kernel_rfl
  rw [run_neq_struct, show (10000 : Nat) = 9999 + 1 from rfl, run_equalIn_agg w 9999 23 _ _ hS hp]
  simp only [Program.fieldsOf, Tryz.underlying23]
  go_simp
theorem tip_nguard (x y : Operand) (t : Orc.Tip) (w : World) : (eqGuard .neq 23 x y (.agg #[.string t.feed, .int .i64 t.day, .int .i64 t.n, .int .i64 t.seq, .string t.tag]) (.agg #[.string t.feed, .int .i64 t.day, .int .i64 t.n, .int .i64 t.seq, .string t.tag])).run Tryz.prog w = .ok () w :=
  run_eqGuard_agg w .neq 23 x y _ _ (by kernel_rfl)
open Go.RowKit Go.Maps
open Led Orc
set_option linter.unusedVariables false
set_option linter.unusedSimpArgs false
set_option maxRecDepth 100000
theorem row_form {w : World} {base : Nat} {e : TypeId} {z : Nat} {v : Value} {n : Nat} {xs : List Value} (h : w.ownsRow base e z v n xs) : ∃ p c, v = .slice p n c := by
  obtain ⟨_, ⟨e1, e2⟩ | ⟨g, cap, cur, e, _⟩⟩ := h
  · exact ⟨none, 0, by rw [e1, e2]⟩
  · exact ⟨_, _, e⟩
set_option maxHeartbeats 8000000 in
theorem refSetKey_any (base rb : Nat) (lv : Value) (R : List Rk) (s key : ByteArray) (w : World) (h : RfTab base rb lv R w) (hbase : base ≤ w.heap.size) (hss : s.size ≤ 9223372036854775807) (hks : key.size ≤ 9223372036854775807) :
    Calls Tryz.prog 18 #[.pointer (some ⟨rb, 0, none⟩), .string s, .string key] w (RSetPost base rb lv R s key w) := by
  have HH := hid' h
  have HBS := hid' hbase
  have HIN := hid' (refIsName_any s w hss)
  have HFD := hid' (refFind_any base rb lv R s w h)
  have hks' : (key.size : Int) ≤ 9223372036854775807 := by omega
  have c0 := (block_cells h.hb).1 0 _ rfl
  have cf := (block_cells h.hb).2 0
  have HRM := hid' h.room
  obtain ⟨p0, cc, rfl, hc, hcell⟩ := h.form
  have HC := hid' hcell
  have hl : (R.length : Int) ≤ 64 := by have := HRM.out; omega
  clear h hbase hss hks hcell
  cases hok : Orc.skOk s key with
  | false =>
    have HK := hid' hok
    have hcase : Led.isName s = false ∨ (Led.isName s = true ∧ key.size < 1) ∨ (Led.isName s = true ∧ ¬ key.size < 1 ∧ 64 < key.size) := by
      unfold Orc.skOk at hok
      cases hn : Led.isName s with
      | false => exact .inl rfl
      | true =>
        rw [hn, Bool.true_and, Bool.and_eq_false_iff] at hok
        rcases hok with h | h
        · exact .inr (.inl ⟨rfl, by have := of_decide_eq_false h; omega⟩)
        · have := of_decide_eq_false h
          by_cases h1 : key.size < 1
          · exact .inr (.inl ⟨rfl, h1⟩)
          · exact .inr (.inr ⟨rfl, h1, by omega⟩)
    clear hok
    rcases hcase with h1 | ⟨h1, h2⟩ | ⟨h1, h2, h3⟩
    · rw [h1] at HIN
      clear h1
      go_enter Tryz.func18, Tryz.ntmps18
      go_wp2_with fail
      refine HIN.out.mono ?_
      rintro e w1 ⟨rfl, rfl⟩
      go_wp2_with fail
      go_ret
      exact RSetPost.bad HH.out HK.out (Below.refl _ _)
    · rw [h1] at HIN
      have g1 : decide ((key.size : Int) < 1) = true := decide_eq_true (by omega)
      obtain rfl := nil_of_size (show key.size = 0 by omega)
      clear h1 h2
      go_enter Tryz.func18, Tryz.ntmps18
      go_wp2_with fail
      refine HIN.out.mono ?_
      rintro e w1 ⟨rfl, rfl⟩
      go_wp2_with fail
      go_ret
      exact RSetPost.bad HH.out HK.out (Below.refl _ _)
    · rw [h1] at HIN
      have g4 : decide (key = ByteArray.empty) = false := decide_eq_false (by rintro rfl; exact absurd h3 (by decide))
      have g1 : decide ((key.size : Int) < 1) = false := decide_eq_false (by omega)
      have g2 : decide (64 < (key.size : Int)) = true := decide_eq_true (by omega)
      clear h1 h2 h3
      go_enter Tryz.func18, Tryz.ntmps18
      go_wp2_with fail
      refine HIN.out.mono ?_
      rintro e w1 ⟨rfl, rfl⟩
      go_wp2_with fail
      go_ret
      exact RSetPost.bad HH.out HK.out (Below.refl _ _)
  | true =>
    have HK := hid' hok
    obtain ⟨hn, hk1, hk2⟩ := skOk_parts hok
    rw [hn] at HIN
    have g4 : decide (key = ByteArray.empty) = false := decide_eq_false (by rintro rfl; exact absurd hk1 (by decide))
    have g1 : decide ((key.size : Int) < 1) = false := decide_eq_false (by omega)
    have g2 : decide (64 < (key.size : Int)) = false := decide_eq_false (by omega)
    clear hok hn hk1 hk2
    go_enter Tryz.func18, Tryz.ntmps18
    go_wp2_with fail
    refine HIN.out.mono ?_
    rintro e w1 ⟨rfl, rfl⟩
    go_wp2_with fail
    refine HFD.out.mono ?_
    rintro e w2 ⟨r, rfl, hr, rfl⟩
    rcases hr with ⟨rfl, hnf⟩ | ⟨i, x, rfl, hx, hs, hf⟩
    · have HNF := hid' hnf
      clear hnf
      by_cases h64 : R.length = 64
      · have g6 : ((R.length : Int) == 64) = true := by rw [beq_iff_eq]; omega
        have HL := hid' h64
        clear h64
        go_wp2_with fail
        go_ret
        exact RSetPost.full HH.out HK.out HNF.out HL.out (Below.refl _ _)
      · have g6 : ((R.length : Int) == 64) = false := by rw [beq_eq_false_iff_ne]; omega
        have HL := hid' h64
        have HLO0 := hid' (show ∀ j, j < 0 → ∀ x, R[j]? = some x → Op.bytesLess x.kn.name.toList s.toList = true from fun j hj => by omega)
        clear h64
        go_wp2_with fail
        go_loopw [9] (fun iv wr => ∃ i : Nat, iv = .int .i64 (i : Int) ∧ i ≤ R.length ∧ Hid (∀ j, j < i → ∀ x, R[j]? = some x → Op.bytesLess x.kn.name.toList s.toList = true) ∧ wr = w2) (fun iv _ => R.length - (intOf iv).toNat)
        case atStart => exact ⟨0, rfl, Nat.zero_le _, HLO0, rfl⟩
        case round =>
          obtain ⟨i, rfl, hi, HLO, rfl⟩ := hrel
          have hcase : (∃ (x : Rk) (g : Nat), R[i]? = some x ∧ p0 = some ⟨g, 0, none⟩ ∧ wr.cell? ⟨g, i * 4, none⟩ = some (.string x.kn.name) ∧ Op.bytesLess x.kn.name.toList s.toList = true ∧ i < R.length) ∨
              (InsAt R s i ∧ (p0 = none ∧ cc = 0 ∧ R = [] ∧ i = 0)) ∨
              (InsAt R s i ∧ ∃ g, p0 = some ⟨g, 0, none⟩ ∧ (i = R.length ∨ (i < R.length ∧ ∃ x : Rk, wr.cell? ⟨g, i * 4, none⟩ = some (.string x.kn.name) ∧ Op.bytesLess x.kn.name.toList s.toList = false))) := by
            by_cases hin : i < R.length
            · obtain ⟨x, hx⟩ : ∃ x, R[i]? = some x := ⟨_, List.getElem?_eq_getElem hin⟩
              obtain ⟨g, rfl, _, x0, _, _, _, _⟩ := HC.out i x hx
              cases hb : Op.bytesLess x.kn.name.toList s.toList with
              | true => exact .inl ⟨x, g, hx, rfl, x0, hb, hin⟩
              | false => exact .inr (.inr ⟨⟨hi, HLO.out, fun y hy => by rw [hx] at hy; cases hy; exact hb⟩, g, rfl, .inr ⟨hin, x, x0, hb⟩⟩)
            · obtain rfl : i = R.length := by omega
              have hia : InsAt R s R.length := ⟨Nat.le_refl _, HLO.out, fun y hy => by simp at hy⟩
              obtain ⟨_, ⟨e1, e2⟩ | ⟨g, cap, cur, e, _⟩⟩ := HH.out.row
              · simp only [Value.slice.injEq] at e1
                exact .inr (.inl ⟨hia, e1.1, e1.2.2, List.length_eq_zero_iff.1 e2, e2⟩)
              · simp only [Value.slice.injEq] at e
                exact .inr (.inr ⟨hia, g, e.1, .inl rfl⟩)
          have wi : IntKind.i64.wrap ((i : Int) + 1) = (i : Int) + 1 := IntWalk.i64_in _ (by omega)
          have j1 : (0 : Int) ≤ (i : Int) := by omega
          rcases hcase with ⟨x, g, hx, rfl, x0, hb, hin⟩ | ⟨hia, rfl, rfl, rfl, rfl⟩ | ⟨hia, g, rfl, hor⟩
          · have j2 : (i : Int) < (R.length : Int) := by omega
            have HLO2 := hid' (show ∀ j, j < i + 1 → ∀ y, R[j]? = some y → Op.bytesLess y.kn.name.toList s.toList = true from fun j hj y hy => by
              rcases Nat.lt_or_ge j i with h1 | h1
              · exact HLO.out j h1 y hy
              · obtain rfl : j = i := by omega
                rw [hx] at hy; cases hy; exact hb)
            clear hx
            go_wp2_with fail
            go_roundw
            case rel => exact ⟨i + 1, by go_num, by omega, HLO2, by first | rfl | trivial⟩
            case measure => simp [intOf]; omega
          · have HIA := hid' hia
            clear hia
            obtain ⟨i1, hi1, hz1, hs1, hby1⟩ := info_parts info_known
            have HI1 := hid' hi1
            have HZ1 := hid' (And.intro hz1 (And.intro hs1 hby1))
            have HRL := hid' (lt_of_block HH.out.hb)
            have HC0 := hid' c0
            have HCF := hid' cf
            clear hi1 hz1 hs1 hby1
            have hmk1 : ∀ W : World, (Instr.makeSlice 38 (.int .i64 0) (.int .i64 1)).run Tryz.prog W = .ok (.slice (some ⟨W.heap.size, 0, none⟩) 0 1) (W.alloc (.cells (madeCells (Value.agg #[.string ⟨#[]⟩, .slice none 0 0, .string ⟨#[]⟩, .int .i64 0]).cells (1 * 4)) 85)) := fun W => make_known W 0 (by omega)
            have HMD1 := hid' (show ∀ W : World, (W.alloc (.cells (madeCells (Value.agg #[.string ⟨#[]⟩, .slice none 0 0, .string ⟨#[]⟩, .int .i64 0]).cells (1 * 4)) 85)).ownsRow W.heap.size 85 4 (.slice (some ⟨W.heap.size, 0, none⟩) 0 1) ([] : List Rk).length (knCells []) from fun W => made_known W 0 (by omega))
            have hwr : IntKind.i64.wrap 1 = 1 := by decide
            have ca : (wr.alloc (Obj.cells (madeCells #[.string ⟨#[]⟩, .slice none 0 0, .string ⟨#[]⟩, .int .i64 0] 4) 85)).cell? ⟨rb, 0, none⟩ = some (.slice none 0 0) := alloc_cell c0 _
            clear HFD HIN HC
            go_upto_region 13 with (fail)
            go_cut [10] (fun v wx => ∃ wn, wn = wx ∧ wn.ownsRow wr.heap.size 85 4 v (([] : List Rk).take 0).length (knCells (([] : List Rk).take 0)) ∧ Below wr.heap.size wr wn)
            case first =>
              go_region_law (refine step_kns_none rfl _ _ (by rfl) wr.heap.size _ [] (by rfl) (HMD1.out wr.drew) (by rfl) ?_)
              all_goals
                go_wp2_with fail
                go_meet
                exact ⟨_, rfl, HMD1.out wr.drew, ((Below.refl wr.heap.size wr).drew.alloc (Nat.le_refl _) _)⟩
            case rest =>
              obtain ⟨w2, rfl, ho, hb2⟩ := hcut
              obtain ⟨op, oc, hv⟩ := row_form ho
              subst hv
              have HB3 := hid' (show Below w2.heap.size w2 (w2.alloc (.cells #[.string s, .slice none 0 0, .string key, .int .i64 0] 85)) from (Below.refl _ _).alloc (Nat.le_refl _) _)
              have HG3 := hid' (heap_alloc_new w2 (.cells #[.string s, .slice none 0 0, .string key, .int .i64 0] 85))
              have HO3 := hid' (World.ownsRow.alloc ho (.cells #[.string s, .slice none 0 0, .string key, .int .i64 0] 85))
              have HB2 := hid' hb2
              have HS3 := hid' (show wr.heap.size ≤ (w2.alloc (.cells #[.string s, .slice none 0 0, .string key, .int .i64 0] 85)).heap.size from Nat.le_trans hb2.size HB3.out.size)
              have HTL := hid' (show (([] : List Rk).take 0).length ≤ 64 by rw [List.length_take]; have := HRM.out; omega)
              clear ho hb2 c0 cf ca
              go_upto_region 15 with (refine wpList_append_own _ rfl _ _ 38 rfl wr.heap.size 85 i1 _ 4 64 Tryz.underlying38 HI1.out HZ1.out.1 HZ1.out.2.1 HZ1.out.2.2 rfl (by decide) _ _ _ rfl HO3.out ⟨w2.heap.size, 0, none⟩ 1 1 [.string s, .slice none 0 0, .string key, .int .i64 0] rfl rfl (World.news_of_block HG3.out) (by simp [Value.oneCell']) (by unfold maxLen; have := HTL.out; omega) (by have := HTL.out; omega) (by exact HS3.out) (fun v' w' h1 h2 _ => ?_); refine halt' ?_)
              have HO6 := hid' h1
              have HW6 := hid' (show Below wr.heap.size wr w' from (HB2.out.trans (HB3.out.mono HB2.out.size)).grown h2 HS3.out (fun k e => (World.ownsRow.lt HO3.out k e).1))
              have c0 := (HW6.out.cell (p := ⟨rb, 0, none⟩) HRL.out).trans HC0.out
              clear h1 h2
              obtain ⟨vp6, vc6, hv6⟩ := row_form HO6.out
              subst hv6
              refine hid' ?_
              go_wp2_with (refine wpList_append_own_none rfl _ _ 38 rfl wr.heap.size 85 i1 4 Tryz.underlying38 HI1.out _ _ _ rfl HO6.out rfl ?_; refine halt' ?_)
              have HO7 := hid' (show w'.ownsRow wr.heap.size 85 4 (.slice vp6 ((([] : List Rk).take 0).length + 1) vc6) (insL [] 0 ⟨⟨s, key, 0, []⟩, .slice none 0 0⟩).length (knCells (insL [] 0 ⟨⟨s, key, 0, []⟩, .slice none 0 0⟩)) from HO6.out)
              have cf := (HW6.out.frozen (p := ⟨rb, 0, none⟩) HRL.out).trans HCF.out
              refine hid' ?_
              go_wp2_with fail
              go_ret
              exact RSetPost.add HH.out HBS.out HK.out HIA.out HNF.out HL.out HW6.out HO7.out
          · have HIA := hid' hia
            clear hia
            obtain ⟨i1, hi1, hz1, hs1, hby1⟩ := info_parts info_known
            have HI1 := hid' hi1
            have HZ1 := hid' (And.intro hz1 (And.intro hs1 hby1))
            have HRL := hid' (lt_of_block HH.out.hb)
            have HC0 := hid' c0
            have HCF := hid' cf
            clear hi1 hz1 hs1 hby1
            rcases hor with hie | ⟨hin, x, x0, hb⟩
            · have g9 : decide (i < R.length) = false := decide_eq_false (by omega)
              have g9i : decide ((i : Int) < (R.length : Int)) = false := decide_eq_false (by omega)
              have hmk : ∀ W : World, (Instr.makeSlice 38 (.int .i64 0) (.int .i64 ((R.length : Int) + 1))).run Tryz.prog W = .ok (.slice (some ⟨W.heap.size, 0, none⟩) 0 (R.length + 1)) (W.alloc (.cells (madeCells (Value.agg #[.string ⟨#[]⟩, .slice none 0 0, .string ⟨#[]⟩, .int .i64 0]).cells ((R.length + 1) * 4)) 85)) := fun W => make_known W R.length (by have := HRM.out; omega)
              have HMD := hid' (fun W : World => made_known W R.length (by have := HRM.out; omega))
              have HCC := hid' (HH.out.cellAt)
              have HLT := hid' (show (R.take i).length = i by rw [List.length_take]; omega)
              have HDC := hid' (show (knCells (R.drop i)).length = (R.length - i) * 4 by rw [knCells_len, List.length_drop])
              have HCT := hid' (show ∀ W, Below wr.heap.size wr W → ∀ j u, (knCells (R.take i))[j]? = some u → W.cell? ((⟨g, 0, none⟩ : Addr).add j) = some u from fun W hW j u hj => by
                rw [← knCells_take] at hj
                have hlt := (List.getElem?_eq_some_iff.1 hj).1
                rw [List.length_take] at hlt
                rw [List.getElem?_take_of_lt (by omega)] at hj
                rw [add_gen, Nat.zero_add]
                exact HCC.out W hW j u hj)
              have HCD := hid' (show ∀ W, Below wr.heap.size wr W → ∀ j u, (knCells (R.drop i))[j]? = some u → W.cell? ((⟨g, i * 4, none⟩ : Addr).add j) = some u from fun W hW j u hj => by
                rw [← knCells_drop, List.getElem?_drop] at hj
                rw [add_gen]
                exact HCC.out W hW _ u hj)
              have HON := hid' (show ∀ u ∈ knCells (R.take i), u.oneCell' = true from knCells_one fun p hp => HH.out.svSlice p (List.mem_of_mem_take hp))
              have HOD := hid' (show ∀ u ∈ knCells (R.drop i), u.oneCell' = true from knCells_one fun p hp => HH.out.svSlice p (List.mem_of_mem_drop hp))
              have hwr : IntKind.i64.wrap ((R.length : Int) + 1) = (R.length : Int) + 1 := IntWalk.i64_in _ (by omega)
              have ca : (wr.alloc (Obj.cells (madeCells #[.string ⟨#[]⟩, .slice none 0 0, .string ⟨#[]⟩, .int .i64 0] ((R.length + 1) * 4)) 85)).cell? ⟨rb, 0, none⟩ = some (.slice (some ⟨g, 0, none⟩) R.length cc) := alloc_cell c0 _
              have k2 : (i : Int) ≤ (R.length : Int) := by omega
              have k3 : (i : Int) ≤ (cc : Int) := by omega
              have k4 : (R.length : Int) ≤ (cc : Int) := by omega
              clear HFD HIN HC
              have HDE := hid' (show R.drop i = [] from List.drop_of_length_le (by omega))
              clear hie
              by_cases hci : cc = i
              · obtain rfl : i = cc := hci.symm
                go_upto_region 13 with (fail)
                go_cut [10] (fun v wx => ∃ wn, wn = wx ∧ wn.ownsRow wr.heap.size 85 4 v (R.take i).length (knCells (R.take i)) ∧ Below wr.heap.size wr wn)
                case first =>
                  go_region_law (refine step_kns rfl _ _ (by rfl) wr.heap.size _ [] (R.take i) (by rfl) (HMD.out wr.drew) ⟨g, 0, none⟩ _ _ HLT.out (by rfl) (HCT.out _ ((Below.refl _ _).drew.alloc (Nat.le_refl _) _)) HON.out (by simp; have := HRM.out; omega) (by simp) ?_; intro v' w5 h5 h6)
                  all_goals
                    go_wp2_with fail
                    go_meet
                    exact ⟨_, rfl, by simpa using h5, (((Below.refl wr.heap.size wr).alloc (Nat.le_refl _) _).drew).grown h6 (by simp) (fun k e => by cases e; exact Nat.le_refl _)⟩
                case rest =>
                  obtain ⟨w2, rfl, ho, hb2⟩ := hcut
                  obtain ⟨op, oc, hv⟩ := row_form ho
                  subst hv
                  have HB3 := hid' (show Below w2.heap.size w2 (w2.alloc (.cells #[.string s, .slice none 0 0, .string key, .int .i64 0] 85)) from (Below.refl _ _).alloc (Nat.le_refl _) _)
                  have HG3 := hid' (heap_alloc_new w2 (.cells #[.string s, .slice none 0 0, .string key, .int .i64 0] 85))
                  have HO3 := hid' (World.ownsRow.alloc ho (.cells #[.string s, .slice none 0 0, .string key, .int .i64 0] 85))
                  have HB2 := hid' hb2
                  have HS3 := hid' (show wr.heap.size ≤ (w2.alloc (.cells #[.string s, .slice none 0 0, .string key, .int .i64 0] 85)).heap.size from Nat.le_trans hb2.size HB3.out.size)
                  have HTL := hid' (show (R.take i).length ≤ 64 by rw [List.length_take]; have := HRM.out; omega)
                  clear ho hb2 c0 cf ca
                  go_upto_region 15 with (refine wpList_append_own _ rfl _ _ 38 rfl wr.heap.size 85 i1 _ 4 64 Tryz.underlying38 HI1.out HZ1.out.1 HZ1.out.2.1 HZ1.out.2.2 rfl (by decide) _ _ _ rfl HO3.out ⟨w2.heap.size, 0, none⟩ 1 1 [.string s, .slice none 0 0, .string key, .int .i64 0] rfl rfl (World.news_of_block HG3.out) (by simp [Value.oneCell']) (by unfold maxLen; have := HTL.out; omega) (by have := HTL.out; omega) (by exact HS3.out) (fun v' w' h1 h2 _ => ?_); refine halt' ?_)
                  have HO6 := hid' h1
                  have HW6 := hid' (show Below wr.heap.size wr w' from (HB2.out.trans (HB3.out.mono HB2.out.size)).grown h2 HS3.out (fun k e => (World.ownsRow.lt HO3.out k e).1))
                  have c0 := (HW6.out.cell (p := ⟨rb, 0, none⟩) HRL.out).trans HC0.out
                  clear h1 h2
                  obtain ⟨vp6, vc6, hv6⟩ := row_form HO6.out
                  subst hv6
                  refine hid' ?_
                  go_wp2_with (refine wpList_append_own _ rfl _ _ 38 rfl wr.heap.size 85 i1 _ 4 64 Tryz.underlying38 HI1.out HZ1.out.1 HZ1.out.2.1 HZ1.out.2.2 rfl (by decide) _ _ _ rfl HO6.out ⟨g, 0, none⟩ 0 0 [] rfl rfl (by intro j u hj; simp at hj) (by intro u hu; cases hu) (by unfold maxLen; have := HTL.out; have := HRM.out; omega) (by have := HTL.out; have := HRM.out; omega) (by exact HW6.out.size) (fun v7 w7 h7 h8 _ => ?_); refine halt' ?_)
                  have HO7 := hid' (show w7.ownsRow wr.heap.size 85 4 v7 (insL R i ⟨⟨s, key, 0, []⟩, .slice none 0 0⟩).length (knCells (insL R i ⟨⟨s, key, 0, []⟩, .slice none 0 0⟩)) by
                    have e2 : insL R i ⟨⟨s, key, 0, []⟩, .slice none 0 0⟩ = R.take i ++ [⟨⟨s, key, 0, []⟩, .slice none 0 0⟩] := by unfold insL; rw [HDE.out]
                    rw [e2, List.length_append, knCells_append]
                    rw [Nat.add_zero, List.append_nil] at h7
                    exact h7)
                  have HW7 := hid' (show Below wr.heap.size wr w7 from HW6.out.grown h8 HW6.out.size (fun k e => (World.ownsRow.lt HO6.out k e).1))
                  clear h7 h8 c0
                  have c0 := (HW7.out.cell (p := ⟨rb, 0, none⟩) HRL.out).trans HC0.out
                  have cf := (HW7.out.frozen (p := ⟨rb, 0, none⟩) HRL.out).trans HCF.out
                  obtain ⟨vp7, vc7, hv7⟩ := row_form HO7.out
                  subst hv7
                  refine hid' ?_
                  go_wp2_with fail
                  go_ret
                  exact RSetPost.add HH.out HBS.out HK.out HIA.out HNF.out HL.out HW7.out HO7.out
              · clear HDE
                go_upto_region 13 with (fail)
                go_cut [10] (fun v wx => ∃ wn, wn = wx ∧ wn.ownsRow wr.heap.size 85 4 v (R.take i).length (knCells (R.take i)) ∧ Below wr.heap.size wr wn)
                case first =>
                  go_region_law (refine step_kns rfl _ _ (by rfl) wr.heap.size _ [] (R.take i) (by rfl) (HMD.out wr.drew) ⟨g, 0, none⟩ _ _ HLT.out (by rfl) (HCT.out _ ((Below.refl _ _).drew.alloc (Nat.le_refl _) _)) HON.out (by simp; have := HRM.out; omega) (by simp) ?_; intro v' w5 h5 h6)
                  all_goals
                    go_wp2_with fail
                    go_meet
                    exact ⟨_, rfl, by simpa using h5, (((Below.refl wr.heap.size wr).alloc (Nat.le_refl _) _).drew).grown h6 (by simp) (fun k e => by cases e; exact Nat.le_refl _)⟩
                case rest =>
                  obtain ⟨w2, rfl, ho, hb2⟩ := hcut
                  obtain ⟨op, oc, hv⟩ := row_form ho
                  subst hv
                  have HB3 := hid' (show Below w2.heap.size w2 (w2.alloc (.cells #[.string s, .slice none 0 0, .string key, .int .i64 0] 85)) from (Below.refl _ _).alloc (Nat.le_refl _) _)
                  have HG3 := hid' (heap_alloc_new w2 (.cells #[.string s, .slice none 0 0, .string key, .int .i64 0] 85))
                  have HO3 := hid' (World.ownsRow.alloc ho (.cells #[.string s, .slice none 0 0, .string key, .int .i64 0] 85))
                  have HB2 := hid' hb2
                  have HS3 := hid' (show wr.heap.size ≤ (w2.alloc (.cells #[.string s, .slice none 0 0, .string key, .int .i64 0] 85)).heap.size from Nat.le_trans hb2.size HB3.out.size)
                  have HTL := hid' (show (R.take i).length ≤ 64 by rw [List.length_take]; have := HRM.out; omega)
                  clear ho hb2 c0 cf ca
                  go_upto_region 15 with (refine wpList_append_own _ rfl _ _ 38 rfl wr.heap.size 85 i1 _ 4 64 Tryz.underlying38 HI1.out HZ1.out.1 HZ1.out.2.1 HZ1.out.2.2 rfl (by decide) _ _ _ rfl HO3.out ⟨w2.heap.size, 0, none⟩ 1 1 [.string s, .slice none 0 0, .string key, .int .i64 0] rfl rfl (World.news_of_block HG3.out) (by simp [Value.oneCell']) (by unfold maxLen; have := HTL.out; omega) (by have := HTL.out; omega) (by exact HS3.out) (fun v' w' h1 h2 _ => ?_); refine halt' ?_)
                  have HO6 := hid' h1
                  have HW6 := hid' (show Below wr.heap.size wr w' from (HB2.out.trans (HB3.out.mono HB2.out.size)).grown h2 HS3.out (fun k e => (World.ownsRow.lt HO3.out k e).1))
                  have c0 := (HW6.out.cell (p := ⟨rb, 0, none⟩) HRL.out).trans HC0.out
                  clear h1 h2
                  obtain ⟨vp6, vc6, hv6⟩ := row_form HO6.out
                  subst hv6
                  refine hid' ?_
                  go_wp2_with (refine wpList_append_own _ rfl _ _ 38 rfl wr.heap.size 85 i1 _ 4 64 Tryz.underlying38 HI1.out HZ1.out.1 HZ1.out.2.1 HZ1.out.2.2 rfl (by decide) _ _ _ rfl HO6.out ⟨g, i * 4, none⟩ (R.length - i) _ (knCells (R.drop i)) rfl HDC.out (HCD.out _ HW6.out) HOD.out (by unfold maxLen; have := HTL.out; have := HRM.out; omega) (by have := HTL.out; have := HRM.out; omega) (by exact HW6.out.size) (fun v7 w7 h7 h8 _ => ?_); refine halt' ?_)
                  have HO7 := hid' (show w7.ownsRow wr.heap.size 85 4 v7 (insL R i ⟨⟨s, key, 0, []⟩, .slice none 0 0⟩).length (knCells (insL R i ⟨⟨s, key, 0, []⟩, .slice none 0 0⟩)) by
                    have e1 : (insL R i ⟨⟨s, key, 0, []⟩, .slice none 0 0⟩).length = (R.take i).length + 1 + (R.length - i) := by unfold insL; rw [List.length_append, List.length_cons, List.length_drop]; omega
                    have e2 : knCells (insL R i ⟨⟨s, key, 0, []⟩, .slice none 0 0⟩) = knCells (R.take i) ++ [.string s, .slice none 0 0, .string key, .int .i64 0] ++ knCells (R.drop i) := by unfold insL; rw [knCells_append, List.append_assoc]; rfl
                    rw [e1, e2]; exact h7)
                  have HW7 := hid' (show Below wr.heap.size wr w7 from HW6.out.grown h8 HW6.out.size (fun k e => (World.ownsRow.lt HO6.out k e).1))
                  clear h7 h8 c0
                  have c0 := (HW7.out.cell (p := ⟨rb, 0, none⟩) HRL.out).trans HC0.out
                  have cf := (HW7.out.frozen (p := ⟨rb, 0, none⟩) HRL.out).trans HCF.out
                  obtain ⟨vp7, vc7, hv7⟩ := row_form HO7.out
                  subst hv7
                  refine hid' ?_
                  go_wp2_with fail
                  go_ret
                  exact RSetPost.add HH.out HBS.out HK.out HIA.out HNF.out HL.out HW7.out HO7.out
            · have j2 : (i : Int) < (R.length : Int) := by omega
              have hmk : ∀ W : World, (Instr.makeSlice 38 (.int .i64 0) (.int .i64 ((R.length : Int) + 1))).run Tryz.prog W = .ok (.slice (some ⟨W.heap.size, 0, none⟩) 0 (R.length + 1)) (W.alloc (.cells (madeCells (Value.agg #[.string ⟨#[]⟩, .slice none 0 0, .string ⟨#[]⟩, .int .i64 0]).cells ((R.length + 1) * 4)) 85)) := fun W => make_known W R.length (by have := HRM.out; omega)
              have HMD := hid' (fun W : World => made_known W R.length (by have := HRM.out; omega))
              have HCC := hid' (HH.out.cellAt)
              have HLT := hid' (show (R.take i).length = i by rw [List.length_take]; omega)
              have HDC := hid' (show (knCells (R.drop i)).length = (R.length - i) * 4 by rw [knCells_len, List.length_drop])
              have HCT := hid' (show ∀ W, Below wr.heap.size wr W → ∀ j u, (knCells (R.take i))[j]? = some u → W.cell? ((⟨g, 0, none⟩ : Addr).add j) = some u from fun W hW j u hj => by
                rw [← knCells_take] at hj
                have hlt := (List.getElem?_eq_some_iff.1 hj).1
                rw [List.length_take] at hlt
                rw [List.getElem?_take_of_lt (by omega)] at hj
                rw [add_gen, Nat.zero_add]
                exact HCC.out W hW j u hj)
              have HCD := hid' (show ∀ W, Below wr.heap.size wr W → ∀ j u, (knCells (R.drop i))[j]? = some u → W.cell? ((⟨g, i * 4, none⟩ : Addr).add j) = some u from fun W hW j u hj => by
                rw [← knCells_drop, List.getElem?_drop] at hj
                rw [add_gen]
                exact HCC.out W hW _ u hj)
              have HON := hid' (show ∀ u ∈ knCells (R.take i), u.oneCell' = true from knCells_one fun p hp => HH.out.svSlice p (List.mem_of_mem_take hp))
              have HOD := hid' (show ∀ u ∈ knCells (R.drop i), u.oneCell' = true from knCells_one fun p hp => HH.out.svSlice p (List.mem_of_mem_drop hp))
              have hwr : IntKind.i64.wrap ((R.length : Int) + 1) = (R.length : Int) + 1 := IntWalk.i64_in _ (by omega)
              have ca : (wr.alloc (Obj.cells (madeCells #[.string ⟨#[]⟩, .slice none 0 0, .string ⟨#[]⟩, .int .i64 0] ((R.length + 1) * 4)) 85)).cell? ⟨rb, 0, none⟩ = some (.slice (some ⟨g, 0, none⟩) R.length cc) := alloc_cell c0 _
              have k2 : (i : Int) ≤ (R.length : Int) := by omega
              have k3 : (i : Int) ≤ (cc : Int) := by omega
              have k4 : (R.length : Int) ≤ (cc : Int) := by omega
              clear HFD HIN HC
              go_upto_region 13 with (fail)
              go_cut [10] (fun v wx => ∃ wn, wn = wx ∧ wn.ownsRow wr.heap.size 85 4 v (R.take i).length (knCells (R.take i)) ∧ Below wr.heap.size wr wn)
              case first =>
                go_region_law (refine step_kns rfl _ _ (by rfl) wr.heap.size _ [] (R.take i) (by rfl) (HMD.out wr.drew) ⟨g, 0, none⟩ _ _ HLT.out (by rfl) (HCT.out _ ((Below.refl _ _).drew.alloc (Nat.le_refl _) _)) HON.out (by simp; have := HRM.out; omega) (by simp) ?_; intro v' w5 h5 h6)
                all_goals
                  go_wp2_with fail
                  go_meet
                  exact ⟨_, rfl, by simpa using h5, (((Below.refl wr.heap.size wr).alloc (Nat.le_refl _) _).drew).grown h6 (by simp) (fun k e => by cases e; exact Nat.le_refl _)⟩
              case rest =>
                obtain ⟨w2, rfl, ho, hb2⟩ := hcut
                obtain ⟨op, oc, hv⟩ := row_form ho
                subst hv
                have HB3 := hid' (show Below w2.heap.size w2 (w2.alloc (.cells #[.string s, .slice none 0 0, .string key, .int .i64 0] 85)) from (Below.refl _ _).alloc (Nat.le_refl _) _)
                have HG3 := hid' (heap_alloc_new w2 (.cells #[.string s, .slice none 0 0, .string key, .int .i64 0] 85))
                have HO3 := hid' (World.ownsRow.alloc ho (.cells #[.string s, .slice none 0 0, .string key, .int .i64 0] 85))
                have HB2 := hid' hb2
                have HS3 := hid' (show wr.heap.size ≤ (w2.alloc (.cells #[.string s, .slice none 0 0, .string key, .int .i64 0] 85)).heap.size from Nat.le_trans hb2.size HB3.out.size)
                have HTL := hid' (show (R.take i).length ≤ 64 by rw [List.length_take]; have := HRM.out; omega)
                clear ho hb2 c0 cf ca
                go_upto_region 15 with (refine wpList_append_own _ rfl _ _ 38 rfl wr.heap.size 85 i1 _ 4 64 Tryz.underlying38 HI1.out HZ1.out.1 HZ1.out.2.1 HZ1.out.2.2 rfl (by decide) _ _ _ rfl HO3.out ⟨w2.heap.size, 0, none⟩ 1 1 [.string s, .slice none 0 0, .string key, .int .i64 0] rfl rfl (World.news_of_block HG3.out) (by simp [Value.oneCell']) (by unfold maxLen; have := HTL.out; omega) (by have := HTL.out; omega) (by exact HS3.out) (fun v' w' h1 h2 _ => ?_); refine halt' ?_)
                have HO6 := hid' h1
                have HW6 := hid' (show Below wr.heap.size wr w' from (HB2.out.trans (HB3.out.mono HB2.out.size)).grown h2 HS3.out (fun k e => (World.ownsRow.lt HO3.out k e).1))
                have c0 := (HW6.out.cell (p := ⟨rb, 0, none⟩) HRL.out).trans HC0.out
                clear h1 h2
                obtain ⟨vp6, vc6, hv6⟩ := row_form HO6.out
                subst hv6
                refine hid' ?_
                go_wp2_with (refine wpList_append_own _ rfl _ _ 38 rfl wr.heap.size 85 i1 _ 4 64 Tryz.underlying38 HI1.out HZ1.out.1 HZ1.out.2.1 HZ1.out.2.2 rfl (by decide) _ _ _ rfl HO6.out ⟨g, i * 4, none⟩ (R.length - i) _ (knCells (R.drop i)) rfl HDC.out (HCD.out _ HW6.out) HOD.out (by unfold maxLen; have := HTL.out; have := HRM.out; omega) (by have := HTL.out; have := HRM.out; omega) (by exact HW6.out.size) (fun v7 w7 h7 h8 _ => ?_); refine halt' ?_)
                have HO7 := hid' (show w7.ownsRow wr.heap.size 85 4 v7 (insL R i ⟨⟨s, key, 0, []⟩, .slice none 0 0⟩).length (knCells (insL R i ⟨⟨s, key, 0, []⟩, .slice none 0 0⟩)) by
                  have e1 : (insL R i ⟨⟨s, key, 0, []⟩, .slice none 0 0⟩).length = (R.take i).length + 1 + (R.length - i) := by unfold insL; rw [List.length_append, List.length_cons, List.length_drop]; omega
                  have e2 : knCells (insL R i ⟨⟨s, key, 0, []⟩, .slice none 0 0⟩) = knCells (R.take i) ++ [.string s, .slice none 0 0, .string key, .int .i64 0] ++ knCells (R.drop i) := by unfold insL; rw [knCells_append, List.append_assoc]; rfl
                  rw [e1, e2]; exact h7)
                have HW7 := hid' (show Below wr.heap.size wr w7 from HW6.out.grown h8 HW6.out.size (fun k e => (World.ownsRow.lt HO6.out k e).1))
                clear h7 h8 c0
                have c0 := (HW7.out.cell (p := ⟨rb, 0, none⟩) HRL.out).trans HC0.out
                have cf := (HW7.out.frozen (p := ⟨rb, 0, none⟩) HRL.out).trans HCF.out
                obtain ⟨vp7, vc7, hv7⟩ := row_form HO7.out
                subst hv7
                refine hid' ?_
                go_wp2_with fail
                go_ret
                exact RSetPost.add HH.out HBS.out HK.out HIA.out HNF.out HL.out HW7.out HO7.out
    · obtain ⟨g, rfl, _, x0, _, x2, _, xf⟩ := HC.out i x hx
      have xf2 := xf (i * 4 + 2)
      have hi := (List.getElem?_eq_some_iff.1 hx).1
      have j1 : (0 : Int) ≤ (i : Int) := by omega
      have j2 : (i : Int) < (R.length : Int) := by omega
      have g0 : decide ((0 : Int) ≤ (i : Int)) = true := decide_eq_true (by omega)
      have HX := hid' (And.intro hx (And.intro hs hf))
      clear hx hs hf hi xf x0
      go_wp2_with fail
      go_ret
      exact RSetPost.over HH.out HK.out HX.out.1 HX.out.2.1 HX.out.2.2
end Go.Proofs.YtmddaomchhigbaaGreatDoor

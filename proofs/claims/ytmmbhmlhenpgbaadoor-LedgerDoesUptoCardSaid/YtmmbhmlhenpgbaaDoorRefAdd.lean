/- Proved: the reference's add: a leg put into the list of accounts, in a row of its own. -/
import Derived.Test.YtmmbhmlhenpgbaaDoorLedPosts
import Derived.Test.YtmmbhmlhenpgbaaDoorLedFold
import Derived.Test.YtmmbhmlhenpgbaaDoorRefRight
import Derived.Laws.MakeOwn
import Derived.Laws.AppendOwnNone
import Derived.Deep.CutBlock
import Derived.Deep.DeepCutAuto
import Derived.Deep.QuietTactic
import Derived.BigQuiet
import Derived.StillTailTactics
namespace Go.Proofs.YtmmbhmlhenpgbaaDoor
open Go.RowKit
open Led
set_option linter.unusedVariables false
set_option linter.unusedSimpArgs false
set_option maxRecDepth 100000

theorem addR_before (x : Leg) : ∀ (A B : List Leg), (∀ y ∈ A, lc y x < 0) → addR (A ++ B) x = A ++ addR B x
  | [], B, _ => rfl
  | y :: t, B, h => by
    have hy : cmp y.party y.cur x.party x.cur < 0 := h y (List.mem_cons_self ..)
    show (if cmp y.party y.cur x.party x.cur < 0 then y :: addR (t ++ B) x else _) = y :: (t ++ addR B x)
    rw [if_pos hy, addR_before x t B (fun z hz => h z (List.mem_cons_of_mem _ hz))]
theorem addR_same (x y : Leg) (t : List Leg) (h : sameAcct y x) : addR (y :: t) x = ⟨x.party, x.cur, wrap64 (x.amount + y.amount)⟩ :: t := by
  have h0 : ¬ lc y x < 0 := by have := (lc_same (z := x) h.1 h.2).1; rw [lc_self] at this; omega
  show (if lc y x < 0 then _ else if y.party = x.party ∧ y.cur = x.cur then _ else _) = _
  rw [if_neg h0, if_pos (show y.party = x.party ∧ y.cur = x.cur from h)]
theorem addR_new (x y : Leg) (t : List Leg) (h0 : ¬ lc y x < 0) (h : ¬ sameAcct y x) : addR (y :: t) x = x :: y :: t := by
  show (if lc y x < 0 then _ else if y.party = x.party ∧ y.cur = x.cur then _ else _) = _
  rw [if_neg h0, if_neg (show ¬ (y.party = x.party ∧ y.cur = x.cur) from h)]
/-- Legs that are appended to a row of legs. -/
theorem step_legs {w : World} {ops : Array Oper} {o : Oper} {a : Act} {K : Act → World → Prop} {Q : Exit → Act → World → Prop} {E : Prop} (hgd : o.guard = none) (s x : Operand)
    (ho : o.op = .call { callee := .builtin .append, args := #[s, x], argTypes := #[22, 22] })
    (base : Nat) (v : Value) (L M : List Leg) (hs : a.eval s = v) (hown : LegRow base w v L) (ad : Addr) (m c : Nat) (hm : M.length = m) (hx : a.eval x = .slice (some ad) m c) (hM : ∀ j u, (legCells M)[j]? = some u → w.cell? (ad.add j) = some u)
    (hbound : L.length + M.length ≤ 3000000000000) (hbase : base ≤ w.heap.size)
    (h : ∀ v' w', LegRow base w' v' (L ++ M) → w.grownBy w' v.ownBlock → K (a.put o.dst v') w') :
    if Region.wanted o (yielded ops a.tmps) = true then Oper.wp Tryd.prog o a w K Q else E := by
  have hw : Region.wanted o (yielded ops a.tmps) = true := by simp [Region.wanted, hgd]
  rw [if_pos hw]
  subst hm
  obtain ⟨i, hi, hz, hsz, hby⟩ := info_parts info_leg
  refine wp_append_own _ s x 22 ho base 41 i _ 3 40 Tryd.underlying22 hi hz hsz hby rfl (by decide) v L.length _ hs hown ad M.length c (legCells M) hx (legCells_len M) hM (legCells_one M)
    (by unfold maxLen; omega) (by omega) hbase (fun v' w' h1 h2 _ => h v' w' ?_ h2)
  show World.ownsRow w' base _ 3 v' (L ++ M).length (legCells (L ++ M))
  rw [List.length_append, legCells_append]
  exact h1
/-- Nothing is appended: the source is nil. -/
theorem step_legs_none {w : World} {ops : Array Oper} {o : Oper} {a : Act} {K : Act → World → Prop} {Q : Exit → Act → World → Prop} {E : Prop} (hgd : o.guard = none) (s x : Operand)
    (ho : o.op = .call { callee := .builtin .append, args := #[s, x], argTypes := #[22, 22] })
    (base : Nat) (v : Value) (L : List Leg) (hs : a.eval s = v) (hown : LegRow base w v L) (hx : a.eval x = .slice none 0 0) (h : K (a.put o.dst v) w) :
    if Region.wanted o (yielded ops a.tmps) = true then Oper.wp Tryd.prog o a w K Q else E := by
  have hw : Region.wanted o (yielded ops a.tmps) = true := by simp [Region.wanted, hgd]
  rw [if_pos hw]
  obtain ⟨i, hi, hz, hsz, hby⟩ := info_parts info_leg
  have hrun := run_append_owned_none (P := Tryd.prog) (w := w) base 22 o.type 41 i 3 Tryd.underlying22 hi v L.length (legCells L) hown
  unfold Oper.wp
  simp [execOp, ho, resolve, invoke, builtin, hs, hx, hrun, Result.andThen]
  exact h
set_option maxHeartbeats 4000000 in
theorem add_any (b0 : Nat) (v : Value) (L : List Leg) (x : Leg) (w : World) (h0 : LegRow b0 w v L) (hwd : ∀ y ∈ L, Wide y) (hl : L.length ≤ 1000000000000) : Calls Tryd.prog 45 #[v, .agg #[.string x.party, .string x.cur, .int .i64 x.amount]] w (LegFresh w (addR L x)) := by
  have h := h0.wide hwd
  have HH := hid' (fun W (B : Below w.heap.size w W) => h.below B)
  have HV := hid' h0
  have HL := hid' hl
  obtain ⟨vp, vc, rfl, _⟩ := LegsAt.row h
  have HBX := hid' (LegBox.new w x)
  have HBK := hid' (heap_alloc_new w (.cells #[.string x.party, .string x.cur, .int .i64 x.amount] 41))
  have HB0 := hid' (show Below w.heap.size w (w.alloc (.cells #[.string x.party, .string x.cur, .int .i64 x.amount] 41)) from (Below.refl _ _).alloc (Nat.le_refl _) _)
  clear h hl h0 hwd
  go_enter Tryd.func45, Tryd.ntmps45
  go_upto_block 0 with (fail)
  generalize w.alloc (.cells #[.string x.party, .string x.cur, .int .i64 x.amount] 41) = w1 at *
  have HS0 := hid' (show ∀ y ∈ L.take 0, lc y x < 0 from fun y hy => by simp at hy)
  have HW1 := hid' (Below.refl w1.heap.size w1)
  obtain ⟨i1, hi1, hz1, hs1, hby1⟩ := info_parts info_leg
  have HI1 := hid' hi1
  have HZ1 := hid' (And.intro hz1 (And.intro hs1 hby1))
  clear hi1 hz1 hs1 hby1
  have hll : (L.length : Int) ≤ 1000000000000 := by have := HL.out; omega
  go_cut [5] (fun v wx => ∃ i : Nat, v = .int .i64 (i : Int) ∧ i ≤ L.length ∧ (∀ y ∈ L.take i, lc y x < 0) ∧ (∀ y, L[i]? = some y → ¬ lc y x < 0) ∧ ∃ wn, wn = wx ∧ Below w1.heap.size w1 wn)
  case first =>
    go_wp2_with fail
    go_loopw [5] (fun iv wr => ∃ i : Nat, iv = .int .i64 (i : Int) ∧ i ≤ L.length ∧ Hid (∀ y ∈ L.take i, lc y x < 0) ∧ Hid (Below w1.heap.size w1 wr)) (fun iv _ => L.length - (intOf iv).toNat)
    case atStart => exact ⟨0, rfl, Nat.zero_le _, HS0, HW1⟩
    case round =>
      obtain ⟨i, rfl, hi, HS, HW⟩ := hrel
      by_cases hin : i < L.length
      · obtain ⟨y, hy⟩ : ∃ y, L[i]? = some y := ⟨_, List.getElem?_eq_getElem hin⟩
        obtain ⟨b, off, cc, hv, y0, y1, y2⟩ := LegsAt.cells (HH.out wr (Below.more HB0.out HW.out)) (Below.refl _ _) hy
        obtain ⟨rfl, rfl⟩ : vp = some ⟨b, off, none⟩ ∧ vc = cc := by simp at hv; exact hv
        obtain ⟨_, p0, p1, p2⟩ := HBX.out.below HW.out
        have g0 : decide ((i : Int) < (L.length : Int)) = true := by simp; omega
        have j1 : (0 : Int) ≤ (i : Int) := by omega
        have j2 : (i : Int) < (L.length : Int) := by omega
        have HY := hid' hy
        have hB2 := Below.refl wr.heap.size wr
        clear hv hy hin
        go_upto_region 2 with (fail)
        go_region_held3 (fun w' => w'.cell? ⟨b, off + i * 3, none⟩ = some (.string y.party) ∧ w'.cell? ⟨b, off + i * 3 + 1, none⟩ = some (.string y.cur) ∧ w'.cell? ⟨b, off + i * 3 + 2, none⟩ = some (.int .i64 y.amount) ∧ w'.cell? ⟨w.heap.size, 0, none⟩ = some (.string x.party) ∧ w'.cell? ⟨w.heap.size, 1, none⟩ = some (.string x.cur) ∧ w'.cell? ⟨w.heap.size, 2, none⟩ = some (.int .i64 x.amount) ∧ Below wr.heap.size wr w') (first | exact ⟨drew_cell y0, drew_cell y1, drew_cell y2, drew_cell p0, drew_cell p1, drew_cell p2, hB2.drew⟩ | simp [*])
          (first | (go_at_call 52; refine (less_any _ _ _ _ _ _ _).mono ?_; rintro e wz ⟨rfl, b1⟩; have hk := keep_all b1; have hk2 := keep_below (w2 := wr) b1))
        have HB3 := hid' (Below.more HW.out (hk2 hB2.drew))
        by_cases hlt : cmp y.party y.cur x.party x.cur < 0
        · have f1 : decide (cmp y.party y.cur x.party x.cur < 0) = true := decide_eq_true hlt
          have HN := hid' (show ∀ z ∈ L.take (i + 1), lc z x < 0 from fun z hz => by
            rw [take_snoc L i y HY.out] at hz
            rcases List.mem_append.1 hz with hz | hz
            · exact HS.out z hz
            · obtain rfl := List.mem_singleton.1 hz
              exact hlt)
          rw [f1]
          clear hlt
          go_wp2_with fail
          go_roundw
          case rel => exact ⟨i + 1, by go_num, by omega, HN, HB3⟩
          case measure => simp [intOf]; omega
        · have f1 : decide (cmp y.party y.cur x.party x.cur < 0) = false := decide_eq_false hlt
          rw [f1]
          go_wp2_with fail
          go_meet
          exact ⟨i, rfl, by omega, HS.out, fun z hz => (by rw [HY.out] at hz; cases hz; exact hlt), _, rfl, HB3.out⟩
      · obtain rfl : i = L.length := by omega
        have g0 : decide ((L.length : Int) < (L.length : Int)) = false := by simp
        clear hin
        go_upto_region 2 with (fail)
        go_quiet (fail)
        go_wp2_with fail
        go_meet
        exact ⟨_, rfl, Nat.le_refl _, HS.out, fun y hy => by simp at hy, _, rfl, Below.drewn HW.out _⟩
  case rest =>
    obtain ⟨i, rfl, hi, hs, hn, wb, rfl, hbc⟩ := hcut
    have HW := hid' (show Below w.heap.size w wb from Below.more HB0.out hbc)
    have HBK2 := hid' ((hbc.block _ (lt_of_block HBK.out)).trans HBK.out)
    have HSP := hid' (show addR L x = L.take i ++ addR (L.drop i) x by
      conv => lhs; rw [← List.take_append_drop i L]
      exact addR_before x _ _ hs)
    have HNL := hid' hn
    clear hs hn HS0 HW1 hbc
    have hrow : LegRow b0 wb (.slice vp L.length vc) L := HV.out.ofBlock (fun g _ hg => HW.out.block g hg)
    have hmk : ∀ W : World, (Instr.makeSlice 22 (.int .i64 0) (.int .i64 ((L.length : Int) + 1))).run Tryd.prog W = .ok (.slice (some ⟨W.heap.size, 0, none⟩) 0 (L.length + 1)) (W.alloc (.cells (madeCells (Value.agg #[.string ⟨#[]⟩, .string ⟨#[]⟩, .int .i64 0]).cells ((L.length + 1) * 3)) 41)) := by
      intro W
      obtain ⟨i0, q1, q2, q3, q4⟩ := info_parts info_leg
      have := run_make (P := Tryd.prog) (w := W) 22 41 i0 _ Tryd.underlying22 q1 q2 .i64 .i64 0 ((L.length : Int) + 1) (by omega) (by omega) (by rw [q4]; omega) (by omega)
      rw [q3] at this
      have e1 : ((L.length : Int) + 1).toNat = L.length + 1 := by omega
      rw [e1] at this
      exact this
    have HMD := hid' (show ∀ W : World, LegRow W.heap.size (W.alloc (.cells (madeCells (Value.agg #[.string ⟨#[]⟩, .string ⟨#[]⟩, .int .i64 0]).cells ((L.length + 1) * 3)) 41)) (.slice (some ⟨W.heap.size, 0, none⟩) 0 (L.length + 1)) [] from fun W => World.ownsRow_made W _ (L.length + 1) (Nat.le_refl _) (by unfold maxLen; omega) (by simp [madeCells]))
    obtain ⟨hz0, ⟨hnil, hz⟩ | ⟨g, cap, curr, hv, g2, g3, g4, g5, g6, g7⟩⟩ := hrow
    · obtain ⟨rfl, rfl⟩ : vp = none ∧ vc = 0 := by simp at hnil; exact ⟨hnil.1, hnil.2.2⟩
      obtain rfl : L = [] := List.length_eq_zero_iff.1 hz
      obtain rfl : i = 0 := by simpa using hi
      have hwr : IntKind.i64.wrap 1 = 1 := by decide
      have hmk1 : ∀ W : World, (Instr.makeSlice 22 (.int .i64 0) (.int .i64 1)).run Tryd.prog W = .ok (.slice (some ⟨W.heap.size, 0, none⟩) 0 1) (W.alloc (.cells (madeCells (Value.agg #[.string ⟨#[]⟩, .string ⟨#[]⟩, .int .i64 0]).cells 3) 41)) := fun W => hmk W
      have HMD1 := hid' (show ∀ W : World, LegRow W.heap.size (W.alloc (.cells (madeCells (Value.agg #[.string ⟨#[]⟩, .string ⟨#[]⟩, .int .i64 0]).cells 3) 41)) (.slice (some ⟨W.heap.size, 0, none⟩) 0 1) [] from HMD.out)
      clear hnil hmk HMD
      go_upto_region 4 with (fail)
      go_cut [6] (fun v wx => ∃ wn, wn = wx ∧ LegRow wb.heap.size wn v [] ∧ Below wb.heap.size wb wn)
      case first =>
        go_region_law (refine step_legs_none rfl _ _ (by rfl) wb.heap.size _ [] (by rfl) (HMD1.out wb.drew) (by rfl) ?_)
        all_goals
          go_wp2_with fail
          go_meet
          exact ⟨_, rfl, HMD1.out wb.drew, ((Below.refl wb.heap.size wb).drew.alloc (Nat.le_refl _) _)⟩
      case rest =>
        obtain ⟨w2, rfl, ho, hb2⟩ := hcut
        obtain ⟨op, oc, hv⟩ := ho.form
        subst hv
        have HO2 := hid' ho
        have HW2 := hid' (HW.out.trans (hb2.mono HW.out.size))
        have hbk := (hb2.block _ (lt_of_block HBK2.out)).trans HBK2.out
        have HBK3 := hid' hbk
        obtain ⟨p0, p1, p2, pf⟩ := cells_of3 hbk
        have HI2 := hid' (show w.heap.size < wb.heap.size from lt_of_block HBK2.out)
        have HS2 := hid' (show wb.heap.size ≤ w2.heap.size from hb2.size)
        clear ho hb2 hbk hmk1 HMD1 p0 p1 p2 pf
        go_upto_region 5 with (fail)
        go_quiet (fail)
        obtain ⟨w3, hw3⟩ : ∃ w3, w3 = w2.drewN nq := ⟨_, rfl⟩
        rw [← hw3]
        have HB4 := hid' (show w3.heap[w.heap.size]? = some (.cells #[.string x.party, .string x.cur, .int .i64 x.amount] 41 (0, 0)) by rw [hw3]; exact HBK3.out)
        have HH4 := hid' (show Below w2.heap.size w2 w3 by rw [hw3]; exact Below.drewn (Below.refl _ _) _)
        have HO3 := hid' (HO2.out.under HH4.out)
        have HW3 := hid' (Below.more HW2.out HH4.out)
        have HCS := hid' (Nat.le_trans HS2.out HH4.out.size)
        obtain ⟨p0, p1, p2, pf⟩ := cells_of3 HB4.out
        have HB5 := hid' (show Below w3.heap.size w3 (w3.alloc (.cells #[.string x.party, .string x.cur, .int .i64 x.amount] 41)) from (Below.refl _ _).alloc (Nat.le_refl _) _)
        have HOW := hid' (HO3.out.under HB5.out)
        clear hw3
        go_upto_region 9 with (refine wpList_append_own _ rfl _ _ 22 rfl wb.heap.size 41 i1 _ 3 40 Tryd.underlying22 HI1.out HZ1.out.1 HZ1.out.2.1 HZ1.out.2.2 rfl (by decide) _ _ _ rfl HOW.out ⟨w3.heap.size, 0, none⟩ 1 1 [.string x.party, .string x.cur, .int .i64 x.amount] rfl rfl (cell_three_new _ _ _ _ _) (by simp [Value.oneCell']) (by unfold maxLen; simp) (by simp) (by exact Nat.le_trans HCS.out HB5.out.size) (fun v' w' h1 h2 _ => ?_); refine halt' ?_)
        have HO6 := hid' (show LegRow wb.heap.size w' v' [x] from h1)
        have HW6 := hid' (show Below w.heap.size w w' from (HW3.out.trans (HB5.out.mono HW3.out.size)).grown h2 (Nat.le_trans HW3.out.size HB5.out.size) (fun k e => Nat.le_trans HW.out.size (World.ownsRow.lt HOW.out k e).1))
        clear h1 h2 p0 p1 p2 pf
        refine hid' ?_
        go_wp2_with (refine wpList_append_own_none rfl _ _ 22 rfl wb.heap.size 41 i1 3 Tryd.underlying22 HI1.out v' _ _ rfl HO6.out rfl ?_; refine halt' ?_)
        refine hid' ?_
        go_wp2_with fail
        go_ret
        exact ⟨_, rfl, HO6.out.lower HW.out.size, HW6.out⟩
    · obtain ⟨rfl, rfl⟩ : vp = some ⟨g, 0, none⟩ ∧ vc = cap := by simp at hv; exact hv
      have HCT := hid' (show ∀ W, Below wb.heap.size wb W → ∀ j u, (legCells (L.take i))[j]? = some u → W.cell? ((⟨g, 0, none⟩ : Addr).add j) = some u by
        intro W hW j u hj
        have hj2 : (legCells L)[j]? = some u := by
          rw [← List.take_append_drop i L, legCells_append, List.getElem?_append_left (List.getElem?_eq_some_iff.1 hj).1]
          exact hj
        have hlt := (List.getElem?_eq_some_iff.1 hj2).1
        rw [legCells_len] at hlt
        rw [add_gen, hW.cell (p := ⟨g, 0 + j, none⟩) (lt_of_block g3)]
        rw [← g7, List.getElem?_take_of_lt hlt, Array.getElem?_toList] at hj2
        simp [World.cell?, g3, hj2])
      have HLT := hid' (show (L.take i).length = i by rw [List.length_take]; omega)
      have hwr : IntKind.i64.wrap ((L.length : Int) + 1) = (L.length : Int) + 1 := IntWalk.i64_in _ (by omega)
      have j1 : (0 : Int) ≤ (i : Int) := by omega
      have j2 : (i : Int) ≤ (L.length : Int) := by omega
      have j3 : (i : Int) ≤ (vc : Int) := by omega
      have j4 : (L.length : Int) ≤ (vc : Int) := by omega
      clear hv g2 g5 g6 g7
      go_upto_region 4 with (fail)
      go_cut [6] (fun v wx => ∃ wn, wn = wx ∧ LegRow wb.heap.size wn v (L.take i) ∧ Below wb.heap.size wb wn)
      case first =>
        go_region_law (refine step_legs rfl _ _ (by rfl) wb.heap.size _ [] (L.take i) (by rfl) (HMD.out wb.drew) ⟨g, 0, none⟩ _ _ HLT.out (by rfl) (HCT.out _ ((Below.refl _ _).drew.alloc (Nat.le_refl _) _)) (by simp; omega) (by simp) ?_; intro v' w5 h5 h6)
        all_goals
          go_wp2_with fail
          go_meet
          exact ⟨_, rfl, by simpa using h5, (((Below.refl wb.heap.size wb).alloc (Nat.le_refl _) _).drew).grown h6 (by simp) (fun k e => by cases e; exact Nat.le_refl _)⟩
      case rest =>
        obtain ⟨w2, rfl, ho, hb2⟩ := hcut
        obtain ⟨op, oc, hv⟩ := ho.form
        rw [HLT.out] at hv
        subst hv
        have HO2 := hid' ho
        have HW2 := hid' (HW.out.trans (hb2.mono HW.out.size))
        have HS2 := hid' (show wb.heap.size ≤ w2.heap.size from hb2.size)
        have hbk := (hb2.block _ (lt_of_block HBK2.out)).trans HBK2.out
        have HBK3 := hid' hbk
        obtain ⟨p0, p1, p2, pf⟩ := cells_of3 hbk
        have HI2 := hid' (show w.heap.size < wb.heap.size from lt_of_block HBK2.out)
        clear ho hb2 hbk HCT hmk HMD
        go_upto_region 5 with (fail)
        go_cut [52] (fun v wx => ∃ bb : Bool, v = .bool bb ∧ (bb = true → ∃ y, L[i]? = some y ∧ sameAcct y x) ∧ (bb = false → L.take i ++ x :: L.drop i = addR L x) ∧ ∃ n, wx = w2.drewN n)
        case first =>
          by_cases hin : i < L.length
          · obtain ⟨y, hy⟩ : ∃ y, L[i]? = some y := ⟨_, List.getElem?_eq_getElem hin⟩
            obtain ⟨b, off, cc, hv, y0, y1, y2⟩ := LegsAt.cells (HH.out w2 HW2.out) (Below.refl _ _) hy
            obtain ⟨⟨rfl, rfl⟩, rfl⟩ : (g = b ∧ 0 = off) ∧ vc = cc := by simp at hv; exact ⟨⟨hv.1.1, hv.1.2⟩, hv.2⟩
            rw [Nat.zero_add] at y0 y1 y2
            have hdr : L.drop i = y :: L.drop (i + 1) := by
              obtain ⟨hlt, e⟩ := List.getElem?_eq_some_iff.1 hy
              rw [List.drop_eq_getElem_cons hlt, e]
            have g0 : decide ((i : Int) < (L.length : Int)) = true := by simp; omega
            have k2 : (i : Int) < (L.length : Int) := by omega
            have hny := HNL.out y hy
            have HY := hid' hy
            clear hv hy hin
            by_cases e1 : y.party = x.party
            · have f1 : (y.party.toList == x.party.toList) = true := by rw [e1]; simp
              by_cases e2 : y.cur = x.cur
              · have f2 : (y.cur.toList == x.cur.toList) = true := by rw [e2]; simp
                have HE := hid' (show sameAcct y x from ⟨e1, e2⟩)
                clear e1 e2 hdr hny
                go_quiet (fail)
                go_wp2_with fail
                go_meet
                exact ⟨true, rfl, fun _ => ⟨y, HY.out, HE.out⟩, (by intro h; cases h), _, rfl⟩
              · have f2 : (y.cur.toList == x.cur.toList) = false := by
                  rw [beq_eq_false_iff_ne]
                  intro e
                  rw [ByteArray.toList_eq, ByteArray.toList_eq] at e
                  exact e2 (ba_ext e)
                have HE := hid' (show L.take i ++ x :: L.drop i = addR L x by rw [HSP.out, hdr, addR_new x y _ hny (fun h => e2 h.2)])
                clear e1 e2 hdr hny
                go_quiet (fail)
                go_wp2_with fail
                go_meet
                exact ⟨false, rfl, (by intro h; cases h), fun _ => HE.out, _, rfl⟩
            · have f1 : (y.party.toList == x.party.toList) = false := by
                rw [beq_eq_false_iff_ne]
                intro e
                rw [ByteArray.toList_eq, ByteArray.toList_eq] at e
                exact e1 (ba_ext e)
              have HE := hid' (show L.take i ++ x :: L.drop i = addR L x by rw [HSP.out, hdr, addR_new x y _ hny (fun h => e1 h.1)])
              clear e1 hdr hny
              go_quiet (fail)
              go_wp2_with fail
              go_meet
              exact ⟨false, rfl, (by intro h; cases h), fun _ => HE.out, _, rfl⟩
          · obtain rfl : i = L.length := by omega
            have g0 : decide ((L.length : Int) < (L.length : Int)) = false := by simp
            have HE := hid' (show L.take L.length ++ x :: L.drop L.length = addR L x by rw [HSP.out, List.drop_length]; rfl)
            clear hin
            go_quiet (fail)
            go_wp2_with fail
            go_meet
            exact ⟨false, rfl, (by intro h; cases h), fun _ => HE.out, _, rfl⟩
        case rest =>
          obtain ⟨bb, rfl, hyes, hno, nn, hw4⟩ := hcut
          obtain ⟨w4, hw5⟩ : ∃ w4, w4 = w2.drewN nn := ⟨_, rfl⟩
          rw [hw4, ← hw5]
          have HYES := hid' hyes
          have HNO := hid' (show bb = false → L.take i ++ x :: L.drop i = addR L x from hno)
          have HH4 := hid' (show Below w2.heap.size w2 w4 by rw [hw5]; exact Below.drewn (Below.refl _ _) _)
          have HS4 := hid' (show wb.heap.size ≤ w4.heap.size from Nat.le_trans HS2.out HH4.out.size)
          have HB4 := hid' (show w4.heap[w.heap.size]? = some (.cells #[.string x.party, .string x.cur, .int .i64 x.amount] 41 (0, 0)) by rw [hw5]; exact HBK3.out)
          have HO4 := hid' (HO2.out.under HH4.out)
          have HW4 := hid' (Below.more HW2.out HH4.out)
          clear hyes hno hw4 hw5 p0 p1 p2 pf
          go_upto_if 52 with (fail)
          go_cut [5] (fun v wx => ∃ (i2 : Nat) (n : Int), v = .int .i64 (i2 : Int) ∧ i2 ≤ L.length ∧ L.take i ++ ⟨x.party, x.cur, n⟩ :: L.drop i2 = addR L x ∧ ∃ wn, wn = wx ∧ wn.heap[w.heap.size]? = some (.cells #[.string x.party, .string x.cur, .int .i64 n] 41 (0, 0)) ∧ LegRow wb.heap.size wn (.slice op i oc) (L.take i) ∧ Below w.heap.size w wn ∧ wb.heap.size ≤ wn.heap.size)
          case first =>
            cases bb with
            | true =>
              obtain ⟨y, hy, hsm⟩ := HYES.out rfl
              obtain ⟨b, off, cc, hv, y0, y1, y2⟩ := LegsAt.cells (HH.out w2 HW2.out) (Below.refl _ _) hy
              obtain ⟨⟨rfl, rfl⟩, rfl⟩ : (g = b ∧ 0 = off) ∧ vc = cc := by simp at hv; exact ⟨⟨hv.1.1, hv.1.2⟩, hv.2⟩
              rw [Nat.zero_add] at y0 y1 y2
              obtain ⟨hlt, e⟩ := List.getElem?_eq_some_iff.1 hy
              have hdr : L.drop i = y :: L.drop (i + 1) := by rw [List.drop_eq_getElem_cons hlt, e]
              have HE := hid' (show L.take i ++ ⟨x.party, x.cur, wrap64 (x.amount + y.amount)⟩ :: L.drop (i + 1) = addR L x by rw [HSP.out, hdr, addR_same x y _ hsm])
              have k2 : (0 : Int) ≤ (i : Int) ∧ (i : Int) < (L.length : Int) := by omega
              obtain ⟨p0, p1, p2, pf⟩ := cells_of3 HB4.out
              have y2n := drew_cell ((HH4.out.cell (World.block_lt_of_cell? _ _ y2)).trans y2)
              have p2n := drew_cell p2
              have pfn : w4.drew.frozen? ⟨w.heap.size, 2, none⟩ = false := pf 2
              have HLI := hid' hlt
              clear hv hy hdr hsm e y0 y1 p0 p1 pf
              go_upto_region 6 with (fail)
              go_still_tail 9, (by kernel_rfl)
              change wpList _ _ _ _ _ w4.drew
              go_wp2_with fail
              go_meet
              refine ⟨i + 1, wrap64 (x.amount + y.amount), by go_num, HLI.out, HE.out, _, rfl, ?_, ?_, ?_, ?_⟩
              · have := heap_setCell_same w4.drew w.heap.size 2 _ _ (.int .i64 (wrap64 (x.amount + y.amount))) (show w4.drew.heap[w.heap.size]? = _ from HB4.out)
                exact this
              · exact LegRow.ofBlock HO4.out (fun k hk _ => Below.heap_setCell w4.drew _ _ _ (by have := HI2.out; show k ≠ w.heap.size; omega))
              · exact (HW4.out.drew).setCell (p := ⟨w.heap.size, 2, none⟩) (Nat.le_refl _) _
              · simpa using HS4.out
            | false =>
              go_wp2_with fail
              go_meet
              exact ⟨i, x.amount, rfl, by omega, HNO.out trivial, _, rfl, HB4.out, HO4.out, HW4.out, HS4.out⟩
          case rest =>
            obtain ⟨i2, n, rfl, hi2, hE, w3, rfl, hbk, ho, hw, hcs⟩ := hcut
            have HE := hid' hE
            have HW3 := hid' hw
            have HO3 := hid' ho
            obtain ⟨p0, p1, p2, pf⟩ := cells_of3 hbk
            have HB5 := hid' (show Below w3.heap.size w3 (w3.alloc (.cells #[.string x.party, .string x.cur, .int .i64 n] 41)) from (Below.refl _ _).alloc (Nat.le_refl _) _)
            have HOW := hid' (HO3.out.under HB5.out)
            have HCS := hid' hcs
            clear hbk ho hw hE hcs
            go_upto_region 9 with (refine wpList_append_own _ rfl _ _ 22 rfl wb.heap.size 41 i1 _ 3 40 Tryd.underlying22 HI1.out HZ1.out.1 HZ1.out.2.1 HZ1.out.2.2 rfl (by decide) _ _ _ rfl HOW.out ⟨w3.heap.size, 0, none⟩ 1 1 [.string x.party, .string x.cur, .int .i64 n] rfl rfl (cell_three_new _ _ _ _ _) (by simp [Value.oneCell']) (by rw [HLT.out]; unfold maxLen; omega) (by rw [HLT.out]; omega) (by exact Nat.le_trans HCS.out HB5.out.size) (fun v' w' h1 h2 _ => ?_); refine halt' ?_)
            have HO6 := hid' (show LegRow wb.heap.size w' v' (L.take i ++ [⟨x.party, x.cur, n⟩]) by
              show World.ownsRow w' _ _ 3 v' (L.take i ++ [Leg.mk x.party x.cur n]).length (legCells (L.take i ++ [Leg.mk x.party x.cur n]))
              rw [List.length_append, legCells_append]
              exact h1)
            have HW6 := hid' (show Below w.heap.size w w' from (HW3.out.trans (HB5.out.mono HW3.out.size)).grown h2 (Nat.le_trans HW3.out.size HB5.out.size) (fun k e => Nat.le_trans HW.out.size (World.ownsRow.lt HOW.out k e).1))
            have HS6 := hid' (show wb.heap.size ≤ w'.heap.size from Nat.le_trans HCS.out (Nat.le_trans HB5.out.size h2.size))
            have hdl : (L.drop i2).length = L.length - i2 := List.length_drop
            have HDL := hid' (show (legCells (L.drop i2)).length = (L.length - i2) * 3 by rw [legCells_len, hdl])
            clear h1 h2 hdl
            refine hid' ?_
            have hvl : (i2 : Int) ≤ (L.length : Int) := by omega
            have hi0 : (0 : Int) ≤ (i2 : Int) := by omega
            have HLT2 := hid' (show (L.take i ++ [Leg.mk x.party x.cur n]).length ≤ 1000000000001 by rw [List.length_append, HLT.out]; have := HL.out; simp; omega)
            by_cases hci : vc = i2
            · have hnil : L.drop i2 = [] := List.drop_eq_nil_of_le (by omega)
              have HDC := hid' (show ∀ (ad : Addr) (j : Nat) (u : Value), (legCells (L.drop i2))[j]? = some u → w'.cell? (ad.add j) = some u from fun ad j u hj => by rw [hnil] at hj; simp [legCells] at hj)
              clear hnil
              go_wp2_with (refine wpList_append_own _ rfl _ _ 22 rfl wb.heap.size 41 i1 _ 3 40 Tryd.underlying22 HI1.out HZ1.out.1 HZ1.out.2.1 HZ1.out.2.2 rfl (by decide) v' _ _ rfl HO6.out _ (L.length - i2) _ (legCells (L.drop i2)) rfl HDL.out (HDC.out _) (legCells_one _) (by have := HLT2.out; have := HL.out; unfold maxLen; omega) (by have := HLT2.out; have := HL.out; omega) HS6.out (fun v9 w9 h1 h2 _ => ?_); refine halt' ?_)
              have HO9 := hid' (show LegRow wb.heap.size w9 v9 (addR L x) by
                rw [← HE.out, ← List.singleton_append, ← List.append_assoc]
                show World.ownsRow w9 _ _ 3 v9 ((L.take i ++ [Leg.mk x.party x.cur n]) ++ L.drop i2).length (legCells ((L.take i ++ [Leg.mk x.party x.cur n]) ++ L.drop i2))
                rw [List.length_append, legCells_append, List.length_drop]
                exact h1)
              have HW9 := hid' (show Below w.heap.size w w9 from HW6.out.grown h2 HW6.out.size (fun k e => Nat.le_trans HW.out.size (World.ownsRow.lt HO6.out k e).1))
              clear h1 h2
              refine hid' ?_
              go_wp2_with fail
              go_ret
              exact ⟨_, rfl, HO9.out.lower HW.out.size, HW9.out⟩
            · have HDC := hid' (show ∀ (j : Nat) (u : Value), (legCells (L.drop i2))[j]? = some u → w'.cell? ⟨g, i2 * 3 + j, none⟩ = some u from fun j u hj => by
                rcases HH.out w' HW6.out with ⟨_, hz⟩ | ⟨b, off, cap, hv, h1, h2, h3, h4⟩
                · rw [hz] at hj; simp [legCells] at hj
                · obtain ⟨⟨rfl, rfl⟩, _⟩ : (g = b ∧ 0 = off) ∧ vc = cap := by simp at hv; exact ⟨⟨hv.1.1, hv.1.2⟩, hv.2⟩
                  have := legCells_mem L 0 h4 (i2 * 3 + j) u (by
                    rw [← List.take_append_drop i2 L, legCells_append, List.getElem?_append_right (by rw [legCells_len, List.length_take]; omega), legCells_len, List.length_take, Nat.min_eq_left (by omega), Nat.add_sub_cancel_left]
                    exact hj)
                  rwa [Nat.zero_add] at this)
              go_wp2_with (refine wpList_append_own _ rfl _ _ 22 rfl wb.heap.size 41 i1 _ 3 40 Tryd.underlying22 HI1.out HZ1.out.1 HZ1.out.2.1 HZ1.out.2.2 rfl (by decide) v' _ _ rfl HO6.out _ (L.length - i2) _ (legCells (L.drop i2)) rfl HDL.out (fun j u hj => by have := HDC.out j u hj; simpa [add_gen] using this) (legCells_one _) (by have := HLT2.out; have := HL.out; unfold maxLen; omega) (by have := HLT2.out; have := HL.out; omega) HS6.out (fun v9 w9 h1 h2 _ => ?_); refine halt' ?_)
              have HO9 := hid' (show LegRow wb.heap.size w9 v9 (addR L x) by
                rw [← HE.out, ← List.singleton_append, ← List.append_assoc]
                show World.ownsRow w9 _ _ 3 v9 ((L.take i ++ [Leg.mk x.party x.cur n]) ++ L.drop i2).length (legCells ((L.take i ++ [Leg.mk x.party x.cur n]) ++ L.drop i2))
                rw [List.length_append, legCells_append, List.length_drop]
                exact h1)
              have HW9 := hid' (show Below w.heap.size w w9 from HW6.out.grown h2 HW6.out.size (fun k e => Nat.le_trans HW.out.size (World.ownsRow.lt HO6.out k e).1))
              clear h1 h2
              refine hid' ?_
              go_wp2_with fail
              go_ret
              exact ⟨_, rfl, HO9.out.lower HW.out.size, HW9.out⟩
end Go.Proofs.YtmmbhmlhenpgbaaDoor

/- Proved: the law OracleDoes: keys, tips that are taken and refused, and what feeds have told, call by call. -/
import Derived.Test.YtmddaomchhigbaaGreatDoorOrcDoesM
import Derived.Test.YtmddaomchhigbaaGreatDoorOrcRefTake2
import Derived.IntWalk
namespace Go.Proofs.YtmddaomchhigbaaGreatDoor
open Go.RowKit Go.Maps
open Led Orc
set_option linter.unusedVariables false
set_option linter.unusedSimpArgs false
set_option maxRecDepth 100000
theorem encOf_lenD {t : Orc.Tip} (h : Orc.Fits t) : (Orc.encOf t).1.length ≤ 100000000 := by
  cases hr : Orc.right t with
  | true => rw [encOf_yes hr]; exact Nat.le_trans (Orc.enc_len h) (by omega)
  | false => rw [encOf_no hr]; exact Nat.zero_le _
theorem Pair.new {w1 w2 : World} {ta ma : Nat} (ha : TabAt w1.heap.size ta ma [] w2) (b2 : Below w1.heap.size w1 w2) : Pair w1.heap.size ta ma w2.heap.size w1 [] (.slice none 0 0) [] (w2.alloc (.cells #[.slice none 0 0] 40)) := by
  have B : Below w2.heap.size w2 (w2.alloc (.cells #[.slice none 0 0] 40)) := (Below.refl _ _).alloc (Nat.le_refl _) _
  refine ⟨ha.below B, ⟨heap_alloc_new w2 _, World.ownsRow_nil _ _ _ _, (fun p hp => by cases hp), List.Pairwise.nil, (fun p hp => by cases hp), b2.size, Nat.zero_le _⟩, fun k h1 h2 => ?_, Below.more b2 B, Nat.le_trans b2.size B.size, List.Perm.refl _, (fun k hk => by cases hk)⟩
  have h3 := (ha.foot h1).2
  rcases h2 with rfl | h2 | ⟨p, hp, _⟩
  · omega
  · cases h2
  · cases hp
theorem tfTip_feed {L : List Orc.Kn} {l : List UInt8} {today : Int} {tp : Orc.Tip} (h : tp = Orc.tfTip L l today) : tp.feed.size ≤ maxLen := by
  subst h
  unfold Orc.tfTip
  split
  · exact Nat.zero_le _
  · cases hd : Orc.dec l with
    | none => exact Nat.zero_le _
    | some t =>
      simp only
      split
      · exact Nat.le_trans (Led.name_len (Orc.core_parts (Orc.right_core (Orc.enc_dec hd).2).1).1) (by decide)
      · exact Nat.zero_le _
set_option maxHeartbeats 8000000 in
theorem law_does (fr : Nat × Nat × Nat) (v0 : Value) (ops : List Opv) (w : World) (hs : ScriptAt w v0 ops) (hk : Hid (Keys fr w)) (hg : ErrVar w) :
    Calls Tryz.prog 5 #[v0] w (True1 w) := by
  have HG := hid' hg
  obtain ⟨p0, c0, rfl, hlen, hso⟩ := hs
  have HSO := hid' hso
  clear hg hso
  go_enter Tryz.func5, Tryz.ntmps5
  go_wp2_with fail
  refine (shown_any fr w hk HG.out).mono ?_
  rintro e w1 ⟨rfl, b1⟩
  have HB1 := hid' b1
  have HP1 := hid' ((HG.out.below b1).pos)
  clear b1
  go_wp2_with fail
  refine (tabNew_any w1).mono ?_
  rintro e w2 ⟨ta, ma, rfl, ht2, b2⟩
  have HA0 := hid' (Pair.new ht2 b2)
  clear ht2 b2
  go_upto_region 4 with (fail)
  obtain ⟨rb, hrb⟩ : ∃ rb, rb = w2.heap.size := ⟨_, rfl⟩
  rw [← hrb] at HA0 ⊢
  clear hrb
  generalize w2.alloc (.cells #[.slice none 0 0] 40) = w3 at *
  go_wp2_with fail
  go_loopw [6] (fun iv wr => ∃ (i : Nat) (Q : List Orc.Kb) (lv : Value) (R : List Rk), iv = .int .i64 (i : Int) ∧ i ≤ ops.length ∧ Hid (Pair w1.heap.size ta ma rb w1 Q lv R wr)) (fun iv _ => ops.length - (intOf iv).toNat)
  case atStart => exact ⟨0, [], _, [], rfl, Nat.zero_le _, HA0⟩
  case round =>
    obtain ⟨i, Q, lv, R, rfl, hi, HF⟩ := hrel
    have HI := hid' hi
    by_cases hin : i < ops.length ∧ i < 200
    · obtain ⟨h1, h2⟩ := hin
      obtain ⟨o, ho⟩ : ∃ o, ops[i]? = some o := ⟨_, List.getElem?_eq_getElem h1⟩
      have hb0 : Below w.heap.size w wr := Below.more HB1.out HF.out.bel
      obtain ⟨ob, oo, rv, rfl, hob, ⟨x0, x1, x2, ⟨x3, x4, x5, x6, x7⟩, x8, x9⟩, hr, hfit⟩ := HSO.out i o ho
      obtain ⟨rp, rc, rfl⟩ := hr.len
      have go : ∀ (j : Nat) (x : Value), w.cell? ⟨ob, j, none⟩ = some x → wr.cell? ⟨ob, j, none⟩ = some x := fun j x hx => (hb0.cell (p := ⟨ob, j, none⟩) hob).trans hx
      replace x0 := go _ _ x0
      replace x1 := go _ _ x1
      replace x2 := go _ _ x2
      replace x3 := go _ _ x3
      replace x4 := go _ _ x4
      replace x5 := go _ _ x5
      replace x6 := go _ _ x6
      replace x7 := go _ _ x7
      replace x8 := go _ _ x8
      replace x9 := go _ _ x9
      have HT0 := hid' (HF.out.turn (o := o) (hr.below HB1.out) (Nat.le_refl _))
      have HFIT := hid' hfit
      have HH1 := hid' h1
      have HUP := hid' HF.out.up
      have HPM := hid' HF.out.perm
      have HUN := hid' (rise_ne HF.out.r.rise)
      have g5 : decide ((i : Int) < (ops.length : Int)) = true := decide_eq_true (by omega)
      have g6 : decide ((i : Int) < 200) = true := decide_eq_true (by omega)
      have g5n : decide (i < ops.length) = true := decide_eq_true h1
      have j1 : (0 : Int) ≤ (i : Int) := by omega
      have j2 : (i : Int) < (ops.length : Int) := by omega
      have wi : IntKind.i64.wrap ((i : Int) + 1) = (i : Int) + 1 := IntWalk.i64_in _ (by omega)
      clear hob go hb0 hr hfit ho h1 h2
      go_upto_region 8 with (fail)
      clear x0 x1 x2 x3 x4 x5 x6 x7 x8 x9
      obtain ⟨xb, hxb⟩ : ∃ xb, xb = wr.heap.size := ⟨_, rfl⟩
      rw [← hxb] at HT0 ⊢
      clear hxb
      generalize wr.alloc (.cells #[.int .i64 o.kind, .string o.feed, .string o.key, .string o.tip.feed, .int .i64 o.tip.day, .int .i64 o.tip.n, .int .i64 o.tip.seq, .string o.tip.tag, .slice rp (nums o.raw).length rc, .int .i64 o.today] 42) = W1 at *
      by_cases hk0 : o.kind.tmod 3 = 0
      · have g0 : (o.kind.tmod 3 == 0) = true := by rw [hk0]; rfl
        obtain ⟨x0, x1, x2, ⟨x3, x4, x5, x6, x7⟩, x8, x9⟩ := HT0.out.box.cells
        clear hk0 x3 x4 x5 x6 x7 x8 x9
        go_wp2_with fail
        refine (setKey_any w1.heap.size ta ma Q o.feed o.key W1 HT0.out.two.a HT0.out.two.sz (by have := HFIT.out.feed; omega) (by have := HFIT.out.key; omega)).mono ?_
        rintro e w5 ⟨rfl, hst⟩
        have HST := hid' hst
        obtain ⟨r5, bx5, rd5, sz5, bl5⟩ := HT0.out.first hst
        have HR5 := hid' r5
        have HS5 := hid' sz5
        clear x0 x1 x2 hst r5 rd5 bl5 sz5
        obtain ⟨x0, x1, x2, ⟨x3, x4, x5, x6, x7⟩, x8, x9⟩ := bx5.cells
        clear x3 x4 x5 x6 x7 x8 x9 x0 bx5
        go_wp2_with fail
        refine (refSetKey_any w1.heap.size rb lv R o.feed o.key w5 HR5.out HS5.out (by have := HFIT.out.feed; omega) (by have := HFIT.out.key; omega)).mono ?_
        rintro e w6 ⟨rfl, L', hL', s2⟩
        obtain ⟨Q', lv', R', _, _, P', _⟩ := HT0.out.two.step HST.out (Below.refl _ _) s2 (hL'.trans (Orc.skNext_perm HPM.out HUN.out _ _)) (fun k hk => Orc.up_sk HUP.out _ _ k (hL'.mem_iff.1 hk))
        have HF6 := hid' P'
        rw [Orc.skCode_perm HPM.out HUN.out]
        generalize Orc.skCode (Q.map (·.kn)) o.feed o.key = code at *
        clear x1 x2 s2 P' hL'
        go_wp2_with fail
        go_roundw
        case rel => exact ⟨i + 1, Q', lv', R', by go_num, by have := HH1.out; omega, HF6⟩
        case measure => have := HH1.out; simp [intOf]; omega
      · have g0 : (o.kind.tmod 3 == 0) = false := by rw [beq_eq_false_iff_ne]; exact hk0
        obtain ⟨x0, x1, x2, ⟨x3, x4, x5, x6, x7⟩, x8, x9⟩ := HT0.out.box.cells
        have hbytes : o.kind.tmod 3 = 1 ∨ (o.kind.tmod 3 == 1) = false := by
          by_cases h1 : o.kind.tmod 3 = 1
          · exact .inl h1
          · exact .inr (by rw [beq_eq_false_iff_ne]; exact h1)
        clear hk0
        rcases hbytes with hk1 | g1
        · have g1 : (o.kind.tmod 3 == 1) = true := by rw [hk1]; rfl
          clear hk1
          go_wp2_with fail
          refine (signed_any o.tip o.key W1 HFIT.out.tip (by have := HFIT.out.key; omega)).mono ?_
          rintro e w5 ⟨v5, rfl, o5, b5⟩
          have HT5 := hid' (HT0.out.bytes b5 o5)
          have HL5 := hid' (encOf_lenD (Orc.tagged_fits HFIT.out.tip o.key))
          obtain ⟨p5, c5, rfl⟩ := o5.reads.len
          generalize (Orc.encOf (Orc.tagged o.tip o.key)).1 = l5 at *
          clear x0 x1 x2 x3 x4 x5 x6 x7 x8 x9 b5 o5 HT0
          go_upto_region 16 with (fail)
          obtain ⟨x0, x1, x2, ⟨x3, x4, x5, x6, x7⟩, x8, x9⟩ := HT5.out.box.cells
          clear x0 x1 x2 x3 x4 x5 x6 x7 x8
          go_wp2_with fail
          have hb5 := Below.more HB1.out HT5.out.two.bel
          refine (takeF_any fr w1.heap.size ta ma Q _ l5 o.today _ HT5.out.two.a HT5.out.two.sz HP1.out HT5.out.reads HL5.out (keys_below hk hb5) (HG.out.below hb5)).mono ?_
          rintro e w8 ⟨rfl, hs8⟩
          have HS8 := hid' hs8
          obtain ⟨r8, bx8, rd8, sz8, bl8⟩ := HT5.out.first hs8
          obtain ⟨hc, htp, hnx⟩ := Orc.tf_perm HPM.out HUN.out l5 o.today
          have HNX := hid' hnx
          have HCT := hid' (And.intro hc htp)
          rw [← hc, ← htp]
          obtain ⟨tp, htp2⟩ : ∃ tp, Hid (tp = Orc.tfTip (R.map (·.kn)) l5 o.today) := ⟨_, hid' rfl⟩
          obtain ⟨cd, hcd2⟩ : ∃ cd, Hid (cd = Orc.tfCode (R.map (·.kn)) l5 o.today) := ⟨_, hid' rfl⟩
          rw [← htp2.out, ← hcd2.out]
          have hbt : Below w8.heap.size w8 (w8.alloc (.cells #[.string tp.feed, .int .i64 tp.day, .int .i64 tp.n, .int .i64 tp.seq, .string tp.tag] 23)) := (Below.refl _ _).alloc (Nat.le_refl _) _
          have HBT := hid' hbt
          have HX9 := hid' (TipBox.new w8 tp)
          have HR9 := hid' (r8.below hbt)
          have HBX9 := hid' (block_kept hbt bx8)
          have HRD9 := hid' (rd8.below hbt)
          have HSZ9 := hid' (Nat.le_trans sz8 hbt.size)
          clear hbt r8 bx8 rd8 sz8 bl8 hs8 hc htp hnx hb5 x9
          go_upto_region 17 with (fail)
          obtain ⟨yb, hyb⟩ : ∃ yb, yb = w8.heap.size := ⟨_, rfl⟩
          have HYB := hid' hyb
          rw [← hyb] at HX9 ⊢
          clear hyb
          generalize w8.alloc (.cells #[.string tp.feed, .int .i64 tp.day, .int .i64 tp.n, .int .i64 tp.seq, .string tp.tag] 23) = w9 at *
          obtain ⟨x0, x1, x2, ⟨x3, x4, x5, x6, x7⟩, x8, x9⟩ := OpBox.cells HBX9.out
          clear x0 x1 x2 x3 x4 x5 x6 x7 x8
          go_wp2_with fail
          refine (refTake_any w1.heap.size rb lv R _ l5 o.today w9 HR9.out HSZ9.out HRD9.out HL5.out).mono ?_
          rintro e w10 ⟨rfl, s2⟩
          rw [← htp2.out, ← hcd2.out]
          have hxy : ¬ RFoot rb lv R yb := fun hF => by have := (HT5.out.two.r.foot hF).2; have := HS8.out; obtain ⟨_, _, _, o8, _⟩ := this; have := o8.size; have := HYB.out; omega
          have HX10 := hid' (show TipBox w10 yb tp from by obtain ⟨_, _, _, _, o10, _⟩ := s2; exact block_only HX9.out o10 hxy)
          obtain ⟨Q', lv', R', eq', er', P', _⟩ := HT5.out.two.step HS8.out HBT.out s2 HNX.out (Orc.up_tf HUP.out l5 o.today)
          have hbt : Below w10.heap.size w10 (w10.alloc (.cells #[.string tp.feed, .int .i64 tp.day, .int .i64 tp.n, .int .i64 tp.seq, .string tp.tag] 23)) := (Below.refl _ _).alloc (Nat.le_refl _) _
          have HP11 := hid' (P'.below hbt)
          have HX11 := hid' (HX10.out.below hbt)
          have HZ11 := hid' (TipBox.new w10 tp)
          clear hbt s2 hxy P' eq' er' x9
          go_upto_region 18 with (fail)
          obtain ⟨zb, hzb⟩ : ∃ zb, zb = w10.heap.size := ⟨_, rfl⟩
          rw [← hzb] at HZ11 ⊢
          clear hzb
          generalize w10.alloc (.cells #[.string tp.feed, .int .i64 tp.day, .int .i64 tp.n, .int .i64 tp.seq, .string tp.tag] 23) = w11 at *
          obtain ⟨y0, y1, y2, y3, y4, _⟩ := HX11.out.cells
          obtain ⟨z0, z1, z2, z3, z4, _⟩ := HZ11.out.cells
          have HSQ1 := hid' (fun (wx : World) (hx : Kept w11 wx) => (seq_any w1.heap.size ta ma Q' tp.feed wx (HP11.out.below hx.below).a (tfTip_feed htp2.out)).mono (fun e w' h => (⟨h.1, 0, h.2⟩ : DrewT _ wx e w')))
          have HSQ2 := hid' (fun (wx : World) (hx : Kept w11 wx) => (refSeq_any w1.heap.size rb lv' R' tp.feed wx (HP11.out.below hx.below).r).mono (fun e w' h => (⟨h.1, 0, h.2⟩ : DrewT _ wx e w')))
          have hsq : seqOf Q' tp.feed = seqK (R'.map (·.kn)) tp.feed := by rw [seqOf_is rfl, ← Orc.findK_perm HP11.out.perm (rise_ne HP11.out.r.rise)]; rfl
          rw [hsq] at HSQ1
          generalize seqK (R'.map (·.kn)) tp.feed = sq at *
          have hne := tip_neq tp
          have hgd := fun a b => tip_nguard a b tp
          have gc : (cd != cd) = false := by simp
          have gs : (sq != sq) = false := by simp
          clear hsq
          go_quiet (first | (go_at_call 22; exact Calls.quiet_of (HSQ1.out _ ⟨_, rfl⟩)) | (go_at_call 23; exact Calls.quiet_of (HSQ2.out _ ⟨_, rfl⟩)))
          all_goals
            go_wp2_with fail
            go_roundw
            case rel => exact ⟨i + 1, Q', lv', R', by go_num, by have := HH1.out; omega, hid' (HP11.out.below (Below.drewn (Below.refl _ _) _))⟩
            case measure => have := HH1.out; simp [intOf]; omega
        · have HL5 := hid' HFIT.out.raw
          have HT5 := HT0
          go_upto_region 16 with (fail)
          generalize o.raw = l5 at *
          clear x0 x1 x2 x3 x4 x5 x6 x7 x8 x9 HT0
          obtain ⟨x0, x1, x2, ⟨x3, x4, x5, x6, x7⟩, x8, x9⟩ := HT5.out.box.cells
          clear x0 x1 x2 x3 x4 x5 x6 x7 x8
          go_wp2_with fail
          have hb5 := Below.more HB1.out HT5.out.two.bel
          refine (takeF_any fr w1.heap.size ta ma Q _ l5 o.today _ HT5.out.two.a HT5.out.two.sz HP1.out HT5.out.reads HL5.out (keys_below hk hb5) (HG.out.below hb5)).mono ?_
          rintro e w8 ⟨rfl, hs8⟩
          have HS8 := hid' hs8
          obtain ⟨r8, bx8, rd8, sz8, bl8⟩ := HT5.out.first hs8
          obtain ⟨hc, htp, hnx⟩ := Orc.tf_perm HPM.out HUN.out l5 o.today
          have HNX := hid' hnx
          have HCT := hid' (And.intro hc htp)
          rw [← hc, ← htp]
          obtain ⟨tp, htp2⟩ : ∃ tp, Hid (tp = Orc.tfTip (R.map (·.kn)) l5 o.today) := ⟨_, hid' rfl⟩
          obtain ⟨cd, hcd2⟩ : ∃ cd, Hid (cd = Orc.tfCode (R.map (·.kn)) l5 o.today) := ⟨_, hid' rfl⟩
          rw [← htp2.out, ← hcd2.out]
          have hbt : Below w8.heap.size w8 (w8.alloc (.cells #[.string tp.feed, .int .i64 tp.day, .int .i64 tp.n, .int .i64 tp.seq, .string tp.tag] 23)) := (Below.refl _ _).alloc (Nat.le_refl _) _
          have HBT := hid' hbt
          have HX9 := hid' (TipBox.new w8 tp)
          have HR9 := hid' (r8.below hbt)
          have HBX9 := hid' (block_kept hbt bx8)
          have HRD9 := hid' (rd8.below hbt)
          have HSZ9 := hid' (Nat.le_trans sz8 hbt.size)
          clear hbt r8 bx8 rd8 sz8 bl8 hs8 hc htp hnx hb5 x9
          go_upto_region 17 with (fail)
          obtain ⟨yb, hyb⟩ : ∃ yb, yb = w8.heap.size := ⟨_, rfl⟩
          have HYB := hid' hyb
          rw [← hyb] at HX9 ⊢
          clear hyb
          generalize w8.alloc (.cells #[.string tp.feed, .int .i64 tp.day, .int .i64 tp.n, .int .i64 tp.seq, .string tp.tag] 23) = w9 at *
          obtain ⟨x0, x1, x2, ⟨x3, x4, x5, x6, x7⟩, x8, x9⟩ := OpBox.cells HBX9.out
          clear x0 x1 x2 x3 x4 x5 x6 x7 x8
          go_wp2_with fail
          refine (refTake_any w1.heap.size rb lv R _ l5 o.today w9 HR9.out HSZ9.out HRD9.out HL5.out).mono ?_
          rintro e w10 ⟨rfl, s2⟩
          rw [← htp2.out, ← hcd2.out]
          have hxy : ¬ RFoot rb lv R yb := fun hF => by have := (HT5.out.two.r.foot hF).2; have := HS8.out; obtain ⟨_, _, _, o8, _⟩ := this; have := o8.size; have := HYB.out; omega
          have HX10 := hid' (show TipBox w10 yb tp from by obtain ⟨_, _, _, _, o10, _⟩ := s2; exact block_only HX9.out o10 hxy)
          obtain ⟨Q', lv', R', eq', er', P', _⟩ := HT5.out.two.step HS8.out HBT.out s2 HNX.out (Orc.up_tf HUP.out l5 o.today)
          have hbt : Below w10.heap.size w10 (w10.alloc (.cells #[.string tp.feed, .int .i64 tp.day, .int .i64 tp.n, .int .i64 tp.seq, .string tp.tag] 23)) := (Below.refl _ _).alloc (Nat.le_refl _) _
          have HP11 := hid' (P'.below hbt)
          have HX11 := hid' (HX10.out.below hbt)
          have HZ11 := hid' (TipBox.new w10 tp)
          clear hbt s2 hxy P' eq' er' x9
          go_upto_region 18 with (fail)
          obtain ⟨zb, hzb⟩ : ∃ zb, zb = w10.heap.size := ⟨_, rfl⟩
          rw [← hzb] at HZ11 ⊢
          clear hzb
          generalize w10.alloc (.cells #[.string tp.feed, .int .i64 tp.day, .int .i64 tp.n, .int .i64 tp.seq, .string tp.tag] 23) = w11 at *
          obtain ⟨y0, y1, y2, y3, y4, _⟩ := HX11.out.cells
          obtain ⟨z0, z1, z2, z3, z4, _⟩ := HZ11.out.cells
          have HSQ1 := hid' (fun (wx : World) (hx : Kept w11 wx) => (seq_any w1.heap.size ta ma Q' tp.feed wx (HP11.out.below hx.below).a (tfTip_feed htp2.out)).mono (fun e w' h => (⟨h.1, 0, h.2⟩ : DrewT _ wx e w')))
          have HSQ2 := hid' (fun (wx : World) (hx : Kept w11 wx) => (refSeq_any w1.heap.size rb lv' R' tp.feed wx (HP11.out.below hx.below).r).mono (fun e w' h => (⟨h.1, 0, h.2⟩ : DrewT _ wx e w')))
          have hsq : seqOf Q' tp.feed = seqK (R'.map (·.kn)) tp.feed := by rw [seqOf_is rfl, ← Orc.findK_perm HP11.out.perm (rise_ne HP11.out.r.rise)]; rfl
          rw [hsq] at HSQ1
          generalize seqK (R'.map (·.kn)) tp.feed = sq at *
          have hne := tip_neq tp
          have hgd := fun a b => tip_nguard a b tp
          have gc : (cd != cd) = false := by simp
          have gs : (sq != sq) = false := by simp
          clear hsq
          go_quiet (first | (go_at_call 22; exact Calls.quiet_of (HSQ1.out _ ⟨_, rfl⟩)) | (go_at_call 23; exact Calls.quiet_of (HSQ2.out _ ⟨_, rfl⟩)))
          all_goals
            go_wp2_with fail
            go_roundw
            case rel => exact ⟨i + 1, Q', lv', R', by go_num, by have := HH1.out; omega, hid' (HP11.out.below (Below.drewn (Below.refl _ _) _))⟩
            case measure => have := HH1.out; simp [intOf]; omega
    · have hcase : decide (i < ops.length) = false ∨ (decide (i < ops.length) = true ∧ decide ((i : Int) < 200) = false) := by
        by_cases a1 : i < ops.length
        · exact .inr ⟨decide_eq_true a1, decide_eq_false (fun h => hin ⟨a1, by omega⟩)⟩
        · exact .inl (decide_eq_false a1)
      have HFS := hid' (feeds_same HF.out.r.rise HF.out.perm)
      have HRT := hid' HF.out.right
      have HSB := hid' (show ∀ s, (stampsOf Q s).length ≤ 4096 from fun s => by
        unfold stampsOf
        cases hf : Orc.find Q s with
        | none => exact Nat.zero_le _
        | some k => exact (HF.out.a.fits k (Orc.find_mem hf).1).stamps)
      clear hin HSO HA0
      generalize wr = wo at *
      rcases hcase with b1 | ⟨b1, b2⟩
      all_goals
        go_wp2_with fail
        refine (feeds_any w1.heap.size ta ma Q wo HF.out.a).mono ?_
        rintro e w20 ⟨va, qa, rfl, hfa, hna⟩
        have HSA := hid' (hfa.is HF.out.a hna)
        obtain ⟨pa, ca, ba, hva, hov, hpa⟩ := hfa.over HSB.out
        have hq64 : (qa.length : Int) ≤ 64 := by
          have h1 := congrArg List.length hna
          rw [List.length_map, (List.mergeSort_perm _ _).length_eq] at h1
          unfold namesOf at h1
          rw [List.length_map] at h1
          have := HF.out.a.room
          omega
        subst hva
        have HT20 := hid' (HF.out.below hfa.bel)
        have HBA := hid' hfa.bel
        clear hfa hna
        go_wp2_with fail
        refine (refFeeds_any w1.heap.size rb lv R w20 HT20.out.r).mono ?_
        rintro e w21 ⟨vb, rfl, b21, sb⟩
        rw [HFS.out] at sb
        have HSB2 := hid' sb
        obtain ⟨pb, cb, rfl, _⟩ := sb
        go_wp2_with fail
        refine (sameFeeds_yes _ _ _ w21 (HSA.out.below b21) HSB2.out).mono ?_
        rintro e w22 ⟨rfl, k22⟩
        have HOV := hid' ((hov.below HBA.out.size b21).below (Nat.le_trans HBA.out.size b21.size) k22.below)
        have HPA := hid' hpa
        clear hov hpa b21 k22 HSA HSB2 b1 HT20 HBA
        go_wp2_with fail
        go_loopw [17] (fun iv wz => ∃ j : Nat, iv = .int .i64 (j : Int) ∧ j ≤ qa.length ∧ Hid (Over wo.heap.size wo ba qa wz)) (fun iv _ => qa.length - (intOf iv).toNat)
        case atStart => exact ⟨0, rfl, Nat.zero_le _, HOV⟩
        case round =>
          obtain ⟨j, rfl, hj, HW⟩ := hrel
          by_cases hjn : j < qa.length
          · obtain ⟨x, hx⟩ : ∃ x, qa[j]? = some x := ⟨_, List.getElem?_eq_getElem hjn⟩
            obtain rfl := HPA.out (by omega)
            obtain ⟨l, sp, sc, hsv, hl, _⟩ := HW.out.st j x hx
            have c1 := (HW.out.cells j x hx).2
            rw [hsv] at c1
            have HX := hid' (And.intro hx hsv)
            have j3 : (0 : Int) ≤ (j : Int) := by omega
            have j4 : (j : Int) < (qa.length : Int) := by omega
            have wj : IntKind.i64.wrap ((j : Int) + 1) = (j : Int) + 1 := IntWalk.i64_in _ (by omega)
            have g9 : decide (j < qa.length) = true := decide_eq_true hjn
            have hl' : (l.length : Int) ≤ 4096 := by omega
            have HJN := hid' hjn
            clear hx hsv c1
            go_wp2_with fail
            go_loopw [18] (fun kv wz => ∃ k : Nat, kv = .int .i64 (k : Int) ∧ k ≤ l.length ∧ Hid (Over wo.heap.size wo ba qa wz)) (fun kv _ => l.length - (intOf kv).toNat)
            case atStart => exact ⟨0, rfl, Nat.zero_le _, HW⟩
            case round =>
              obtain ⟨k, rfl, hk2, HV⟩ := hrel
              obtain ⟨l2, sp2, sc2, hsv2, _, hcl⟩ := HV.out.st j x HX.out.1
              have c1 := (HV.out.cells j x HX.out.1).2
              rw [HX.out.2] at c1 hsv2
              obtain ⟨rfl, hll, rfl⟩ := Value.slice.inj hsv2
              by_cases hkn : k < l.length
              · obtain ⟨g, rfl, h1, h2, ⟨y, hy⟩, hf⟩ := hcl k (by omega)
                have HN := hid' (HV.out.set h1 h2 hy)
                have k3 : (0 : Int) ≤ (k : Int) := by omega
                have k4 : (k : Int) < (l.length : Int) := by omega
                have wk : IntKind.i64.wrap ((k : Int) + 1) = (k : Int) + 1 := IntWalk.i64_in _ (by omega)
                have g10 : decide (k < l.length) = true := decide_eq_true hkn
                have HKN := hid' hkn
                clear hcl h1 h2 hsv2
                go_wp2_with fail
                go_roundw
                case rel => exact ⟨k + 1, by go_num, by have := HKN.out; omega, HN⟩
                case measure => have := HKN.out; simp [intOf]; omega
              · obtain rfl : k = l.length := by omega
                have g10 : decide (l.length < l.length) = false := by simp
                clear hcl hsv2
                go_wp2_with fail
                go_roundw
                case rel => exact ⟨j + 1, by go_num, by have := HJN.out; omega, HV⟩
                case measure => have := HJN.out; simp [intOf]; omega
          · obtain rfl : j = qa.length := by omega
            have g9 : decide (qa.length < qa.length) = false := by simp
            have HZ := hid' (HF.out.below HW.out.bel)
            clear hjn
            go_wp2_with fail
            refine (feeds_any w1.heap.size ta ma Q _ HZ.out.a).mono ?_
            rintro e w30 ⟨vc, qc, rfl, hfc, hnc⟩
            have HSC := hid' (hfc.is HZ.out.a hnc)
            have HT30 := hid' (HZ.out.below hfc.bel)
            clear hfc hnc
            obtain ⟨pc, cc2, rfl, _⟩ := HSC.out
            go_wp2_with fail
            refine (refFeeds_any w1.heap.size rb lv R w30 HT30.out.r).mono ?_
            rintro e w31 ⟨vd, rfl, b31, sd⟩
            rw [HFS.out] at sd
            have HSD := hid' sd
            have HT31 := hid' (HT30.out.below b31)
            have HSC1 := hid' (HSC.out.below b31)
            obtain ⟨pd, cd2, rfl, _⟩ := sd
            clear b31
            go_wp2_with fail
            refine (sameFeeds_yes _ _ _ w31 HSC1.out HSD.out).mono ?_
            rintro e w32 ⟨rfl, k32⟩
            have HT32 := hid' (HT31.out.below k32.below)
            have HSC2 := hid' (HSC1.out.below k32.below)
            clear k32
            go_wp2_with fail
            refine (rightFeeds_yes _ _ w32 HSC2.out HRT.out).mono ?_
            rintro e w33 ⟨rfl, k33⟩
            have HT33 := hid' (HT32.out.below k33.below)
            clear k33
            go_wp2_with fail
            go_ret
            exact ⟨rfl, Below.more HB1.out HT33.out.bel⟩
end Go.Proofs.YtmddaomchhigbaaGreatDoor

/- Proved: the law OracleApart: what one feed tells changes nothing of another one. -/
import Derived.Test.YtmddaomchhigbaaGreatDoorOrcTwo
import Derived.Test.YtmddaomchhigbaaGreatDoorOrcApartP
import Derived.Test.YtmddaomchhigbaaGreatDoorOrcSame
import Derived.IntWalk
namespace Go.Proofs.YtmddaomchhigbaaGreatDoor
open Go.RowKit Go.Maps
open Led Orc
set_option linter.unusedVariables false
set_option linter.unusedSimpArgs false
set_option maxRecDepth 100000
/-- Two tables, of which one takes what one feed alone tells. -/
structure Apt (base ta ma tb mb : Nat) (w : World) (o : ByteArray) (Qa Qb : List Orc.Kb) (W : World) : Prop where
  two : Two base ta ma tb mb w Qa Qb W
  kn : Qb.map (·.kn) = (Qa.map (·.kn)).map (Orc.mask o)
theorem Two.new {w1 w2 w3 : World} {ta ma tb mb : Nat} (ha : TabAt w1.heap.size ta ma [] w2) (b2 : Below w1.heap.size w1 w2) (hb : TabAt w2.heap.size tb mb [] w3) (b3 : Below w2.heap.size w2 w3) : Two w1.heap.size ta ma tb mb w1 [] [] w3 :=
  ⟨ha.below b3, hb.less b2.size, fun k h1 h2 => by have := (ha.foot h1).2; have := (hb.foot h2).1; omega, Below.more b2 b3, Nat.le_trans b2.size b3.size⟩
theorem encOf_len {t : Orc.Tip} (h : Orc.Fits t) : (Orc.encOf t).1.length ≤ 100000000 := by
  cases hr : Orc.right t with
  | true => rw [encOf_yes hr]; exact Nat.le_trans (Orc.enc_len h) (by omega)
  | false => rw [encOf_no hr]; exact Nat.zero_le _
theorem Kept.trans {w w' w'' : World} (h : Kept w w') (k : Kept w' w'') : Kept w w'' := by
  obtain ⟨n, rfl⟩ := h; obtain ⟨m, rfl⟩ := k; exact ⟨n + m, by rw [World.drewN_drewN]⟩
theorem namesK_mask (L : List Orc.Kn) (o : ByteArray) : namesK (L.map (Orc.mask o)) = namesK L := by
  unfold namesK
  rw [List.map_map]
  congr 1
  apply List.map_congr_left
  intro k _
  simp only [Function.comp_apply, Orc.mask_name]
theorem feedsK_mask {L : List Orc.Kn} {o : ByteArray} {i : Nat} {x : ByteArray × List (Int × Int)} (h : (feedsK L)[i]? = some x) :
    ∃ y, (feedsK (L.map (Orc.mask o)))[i]? = some y ∧ y.1 = x.1 ∧ (x.1 = o → y = x) ∧ (x.1 ≠ o → y.2 = []) := by
  obtain ⟨hn, hs⟩ := feedsK_at h
  have e1 : (⟨x.1.data.toList.toArray⟩ : ByteArray) = x.1 := by simp
  refine ⟨(x.1, stampsK (L.map (Orc.mask o)) x.1), ?_, rfl, fun ho => ?_, fun ho => ?_⟩
  · unfold feedsK
    rw [namesK_mask, List.getElem?_map, hn]
    simp only [Option.map_some, e1]
  · refine Prod.ext rfl ?_
    show stampsK _ _ = x.2
    rw [hs]
    unfold stampsK
    rw [Orc.findK_mask]
    cases hf : Orc.findK L x.1 with
    | none => rfl
    | some k => simp only [Option.map_some]; rw [Orc.mask_at ((Orc.findK_mem hf).2.trans ho)]
  · show stampsK _ _ = []
    unfold stampsK
    rw [Orc.findK_mask]
    cases hf : Orc.findK L x.1 with
    | none => rfl
    | some k => simp only [Option.map_some]; rw [Orc.mask_not (by rw [(Orc.findK_mem hf).2]; exact ho)]
theorem seqK_mask (L : List Orc.Kn) (o : ByteArray) : (match Orc.findK (L.map (Orc.mask o)) o with | none => (0 : Int) | some k => k.seq) = match Orc.findK L o with | none => 0 | some k => k.seq := by
  rw [Orc.findK_mask]
  cases hf : Orc.findK L o with
  | none => rfl
  | some k => simp only [Option.map_some]; rw [Orc.mask_at (Orc.findK_mem hf).2]
theorem FeedsSeen.sub {W : World} {b off n c : Nat} {l : List (ByteArray × List (Int × Int))} (h : FeedsSeen W (.slice (some ⟨b, off, none⟩) n c) l) {i : Nat} {x : ByteArray × List (Int × Int)} (hx : l[i]? = some x) : FeedsSeen W (.slice (some ⟨b, off + i * 2, none⟩) 1 (c - i)) [x] := by
  obtain ⟨p, c', e, ⟨hc, hl⟩, hh⟩ := h
  obtain ⟨rfl, -, rfl⟩ := Value.slice.inj e
  have hi := (List.getElem?_eq_some_iff.1 hx).1
  refine ⟨_, _, rfl, ⟨by show 1 ≤ _; omega, by show 1 ≤ 64; omega⟩, fun j y hy => ?_⟩
  obtain ⟨b', off', sv, e', hb, h1, h2, h3⟩ := hh i x hx
  obtain ⟨rfl, rfl⟩ : b = b' ∧ off = off' := by simpa using e'
  cases j with
  | zero =>
    obtain rfl : x = y := by simpa using hy
    exact ⟨b, off + i * 2, sv, rfl, hb, by rw [Nat.zero_mul, Nat.add_zero]; exact h1, by rw [Nat.zero_mul, Nat.add_zero]; exact h2, h3⟩
  | succ j => simp at hy
set_option maxHeartbeats 8000000 in
theorem law_apart (fr : Nat × Nat × Nat) (v0 : Value) (other : ByteArray) (ops : List Opv) (w : World) (hs : ScriptAt w v0 ops) (hos : other.size ≤ 10000000) (hk : Hid (Keys fr w)) (hg : ErrVar w) :
    Calls Tryz.prog 8 #[v0, .string other] w (True1 w) := by
  have HOS := hid' hos
  have HG := hid' hg
  obtain ⟨p0, c0, rfl, hlen, hso⟩ := hs
  have HSO := hid' hso
  clear hos hg hso
  go_enter Tryz.func8, Tryz.ntmps8
  go_wp2_with fail
  refine (shown_any fr w hk HG.out).mono ?_
  rintro e w1 ⟨rfl, b1⟩
  have HB1 := hid' b1
  have HP1 := hid' ((HG.out.below b1).pos)
  clear b1
  go_wp2_with fail
  refine (tabNew_any w1).mono ?_
  rintro e w2 ⟨ta, ma, rfl, ht2, b2⟩
  have HT2 := hid' ht2
  have HB2 := hid' b2
  clear ht2 b2
  go_wp2_with fail
  refine (tabNew_any w2).mono ?_
  rintro e w3 ⟨tb, mb, rfl, ht3, b3⟩
  have HA := hid' (show Apt w1.heap.size ta ma tb mb w1 other [] [] w3 from ⟨Two.new HT2.out HB2.out ht3 b3, rfl⟩)
  clear ht3 b3 HT2 HB2
  go_wp2_with fail
  go_loopw [8] (fun iv wr => ∃ (i : Nat) (Qa Qb : List Orc.Kb), iv = .int .i64 (i : Int) ∧ i ≤ ops.length ∧ Hid (Apt w1.heap.size ta ma tb mb w1 other Qa Qb wr)) (fun iv _ => ops.length - (intOf iv).toNat)
  case atStart => exact ⟨0, [], [], rfl, Nat.zero_le _, HA⟩
  case round =>
    obtain ⟨i, Qa, Qb, rfl, hi, HF⟩ := hrel
    have HI := hid' hi
    by_cases hin : i < ops.length ∧ i < 100
    · obtain ⟨h1, h2⟩ := hin
      obtain ⟨o, ho⟩ : ∃ o, ops[i]? = some o := ⟨_, List.getElem?_eq_getElem h1⟩
      have hb0 : Below w.heap.size w wr := Below.more HB1.out HF.out.two.bel
      obtain ⟨ob, oo, rv, rfl, hob, ⟨x0, x1, x2, ⟨x3, x4, x5, x6, x7⟩, x8, x9⟩, hr, hfit⟩ := HSO.out i o ho
      obtain ⟨rp, rc, rfl⟩ := hr.len
      have go : ∀ (j : Nat) (x : Value), w.cell? ⟨ob, j, none⟩ = some x → wr.cell? ⟨ob, j, none⟩ = some x := fun j x hx => (hb0.cell (p := ⟨ob, j, none⟩) hob).trans hx
      replace x0 := go _ _ x0
      replace x1 := go _ _ x1
      replace x2 := go _ _ x2
      replace x3 := go _ _ x3
      replace x4 := go _ _ x4
      replace x5 := go _ _ x5
      replace x6 := go _ _ x6
      replace x7 := go _ _ x7
      replace x8 := go _ _ x8
      replace x9 := go _ _ x9
      have HT0 := hid' (HF.out.two.turn (o := o) (hr.below HB1.out) (Nat.le_refl _))
      have HFIT := hid' hfit
      have HOI := hid' ho
      have HH1 := hid' h1
      have HH2 := hid' h2
      have g5 : decide ((i : Int) < (ops.length : Int)) = true := decide_eq_true (by omega)
      have g6 : decide ((i : Int) < 100) = true := decide_eq_true (by omega)
      have g5n : decide (i < ops.length) = true := decide_eq_true h1
      have j1 : (0 : Int) ≤ (i : Int) := by omega
      have j2 : (i : Int) < (ops.length : Int) := by omega
      have wi : IntKind.i64.wrap ((i : Int) + 1) = (i : Int) + 1 := IntWalk.i64_in _ (by omega)
      clear hob go hb0 hr hfit ho h1 h2
      go_upto_region 8 with (fail)
      clear x0 x1 x2 x3 x4 x5 x6 x7 x8 x9
      obtain ⟨xb, hxb⟩ : ∃ xb, xb = wr.heap.size := ⟨_, rfl⟩
      rw [← hxb] at HT0 ⊢
      clear hxb
      generalize wr.alloc (.cells #[.int .i64 o.kind, .string o.feed, .string o.key, .string o.tip.feed, .int .i64 o.tip.day, .int .i64 o.tip.n, .int .i64 o.tip.seq, .string o.tip.tag, .slice rp (nums o.raw).length rc, .int .i64 o.today] 42) = W1 at *
      by_cases hk0 : o.kind.tmod 3 = 0
      · have g0 : (o.kind.tmod 3 == 0) = true := by rw [hk0]; rfl
        obtain ⟨x0, x1, x2, ⟨x3, x4, x5, x6, x7⟩, x8, x9⟩ := HT0.out.box.cells
        clear hk0 x3 x4 x5 x6 x7 x8 x9
        go_wp2_with fail
        refine (setKey_any w1.heap.size ta ma Qa o.feed o.key W1 HT0.out.two.a HT0.out.two.sz (by have := HFIT.out.feed; omega) (by have := HFIT.out.key; omega)).mono ?_
        rintro e w5 ⟨rfl, hst⟩
        obtain ⟨Qa', ea, T5, _⟩ := HT0.out.stepA hst
        have HT5 := hid' T5
        have HEA := hid' ea
        clear x0 x1 x2 hst T5 ea
        obtain ⟨x0, x1, x2, ⟨x3, x4, x5, x6, x7⟩, x8, x9⟩ := HT5.out.box.cells
        clear x3 x4 x5 x6 x7 x8 x9 x0
        go_wp2_with fail
        refine (setKey_any w1.heap.size tb mb Qb o.feed o.key w5 HT5.out.two.b HT5.out.two.sz (by have := HFIT.out.feed; omega) (by have := HFIT.out.key; omega)).mono ?_
        rintro e w6 ⟨rfl, hst⟩
        obtain ⟨Qb', eb, T6, _⟩ := HT5.out.stepB hst
        have HF6 := hid' (show Apt w1.heap.size ta ma tb mb w1 other Qa' Qb' w6 from ⟨T6.two, by rw [eb, HEA.out, HF.out.kn, Orc.skNext_mask]⟩)
        clear x1 x2 hst T6 eb
        go_wp2_with fail
        go_roundw
        case rel => exact ⟨i + 1, Qa', Qb', by go_num, by have := HH1.out; omega, HF6⟩
        case measure => have := HH1.out; simp [intOf]; omega
      · have g0 : (o.kind.tmod 3 == 0) = false := by rw [beq_eq_false_iff_ne]; exact hk0
        obtain ⟨x0, x1, x2, ⟨x3, x4, x5, x6, x7⟩, x8, x9⟩ := HT0.out.box.cells
        have hbytes : o.kind.tmod 3 = 1 ∨ (o.kind.tmod 3 == 1) = false := by
          by_cases h1 : o.kind.tmod 3 = 1
          · exact .inl h1
          · exact .inr (by rw [beq_eq_false_iff_ne]; exact h1)
        clear hk0
        rcases hbytes with hk1 | g1
        · have g1 : (o.kind.tmod 3 == 1) = true := by rw [hk1]; rfl
          clear hk1
          go_wp2_with fail
          refine (signed_any o.tip o.key W1 HFIT.out.tip (by have := HFIT.out.key; omega)).mono ?_
          rintro e w5 ⟨v5, rfl, o5, b5⟩
          have HT5 := hid' (HT0.out.bytes b5 o5)
          have HL5 := hid' (encOf_len (Orc.tagged_fits HFIT.out.tip o.key))
          obtain ⟨p5, c5, rfl⟩ := o5.reads.len
          generalize (Orc.encOf (Orc.tagged o.tip o.key)).1 = l5 at *
          clear x0 x1 x2 x3 x4 x5 x6 x7 x8 x9 b5 o5 HT0
          go_upto_region 14 with (fail)
          go_wp2_with fail
          refine (refDecode_any0 _ l5 _ HT5.out.reads HL5.out).mono ?_
          rintro e w6 ⟨rfl, b6⟩
          have HT6 := hid' (HT5.out.below b6)
          clear b6 HT5
          have HTD := hid' (show (Orc.dec l5 = none ∧ decCode l5 = 210) ∨ ∃ t, Orc.dec l5 = some t ∧ decTip l5 = t ∧ decCode l5 = 0 from by
            unfold decTip decCode
            cases Orc.dec l5 with
            | none => exact .inl ⟨rfl, rfl⟩
            | some t => exact .inr ⟨t, rfl, rfl, rfl⟩)
          generalize decTip l5 = td at *
          generalize decCode l5 = dc at *
          have hbt : Below w6.heap.size w6 (w6.alloc (.cells #[.string td.feed, .int .i64 td.day, .int .i64 td.n, .int .i64 td.seq, .string td.tag] 23)) := (Below.refl _ _).alloc (Nat.le_refl _) _
          have HX7 := hid' (TipBox.new w6 td)
          have HT7 := hid' (HT6.out.below hbt)
          have HFB := hid' (show Free ta ma tb mb Qa Qb (w6.alloc (.cells #[.string td.feed, .int .i64 td.day, .int .i64 td.n, .int .i64 td.seq, .string td.tag] 23)) w6.heap.size from HT6.out.two.free_new _)
          clear hbt HT6
          go_upto_region 15 with (fail)
          obtain ⟨yb, hyb⟩ : ∃ yb, yb = w6.heap.size := ⟨_, rfl⟩
          rw [← hyb] at HX7 HFB ⊢
          clear hyb
          generalize w6.alloc (.cells #[.string td.feed, .int .i64 td.day, .int .i64 td.n, .int .i64 td.seq, .string td.tag] 23) = w7 at *
          obtain ⟨x0, x1, x2, ⟨x3, x4, x5, x6, x7⟩, x8, x9⟩ := HT7.out.box.cells
          clear x0 x1 x2 x3 x4 x5 x6 x7 x8
          go_wp2_with fail
          have hb7 := Below.more HB1.out HT7.out.two.bel
          refine (takeF_any fr w1.heap.size ta ma Qa _ l5 o.today w7 HT7.out.two.a HT7.out.two.sz HP1.out HT7.out.reads HL5.out (keys_below hk hb7) (HG.out.below hb7)).mono ?_
          rintro e w8 ⟨rfl, hs8⟩
          obtain ⟨Qa', ea, T8, f8⟩ := HT7.out.stepA hs8
          have HT8 := hid' T8
          have HEA := hid' ea
          have HX8 := hid' (show TipBox w8 yb td from (f8 yb HFB.out).2.trans HX7.out)
          clear hs8 ea T8 f8 hb7 x9 HT7 HX7 HFB
          obtain ⟨y0, _, _, _, _, _⟩ := HX8.out.cells
          rcases HTD.out with ⟨hd, rfl⟩ | ⟨t, hd, rfl, rfl⟩
          · have HF9 := hid' (show Apt w1.heap.size ta ma tb mb w1 other Qa' Qb w8 from ⟨HT8.out.two, by rw [HEA.out, Orc.tfNext_mask_none hd, HF.out.kn]⟩)
            clear hd
            go_wp2_with fail
            go_roundw
            case rel => exact ⟨i + 1, Qa', Qb, by go_num, by have := HH1.out; omega, HF9⟩
            case measure => have := HH1.out; simp [intOf]; omega
          · by_cases hfo : td.feed = other
            · have gf : (td.feed.toList == other.toList) = true := by rw [hfo]; simp
              have HD := hid' (And.intro hd hfo)
              obtain ⟨x0, x1, x2, ⟨x3, x4, x5, x6, x7⟩, x8, x9⟩ := HT8.out.box.cells
              clear x0 x1 x2 x3 x4 x5 x6 x7 x8 hd hfo
              go_wp2_with fail
              have hb8 := Below.more HB1.out HT8.out.two.bel
              refine (takeF_any fr w1.heap.size tb mb Qb _ l5 o.today w8 HT8.out.two.b HT8.out.two.sz HP1.out HT8.out.reads HL5.out (keys_below hk hb8) (HG.out.below hb8)).mono ?_
              rintro e w9 ⟨rfl, hs9⟩
              obtain ⟨Qb', eb, T9, _⟩ := HT8.out.stepB hs9
              have HF9 := hid' (show Apt w1.heap.size ta ma tb mb w1 other Qa' Qb' w9 from ⟨T9.two, by rw [eb, HEA.out, HF.out.kn, Orc.tfNext_mask_same HD.out.1 HD.out.2]⟩)
              clear hs9 eb T9 hb8
              go_wp2_with fail
              go_roundw
              case rel => exact ⟨i + 1, Qa', Qb', by go_num, by have := HH1.out; omega, HF9⟩
              case measure => have := HH1.out; simp [intOf]; omega
            · have gf : (td.feed.toList == other.toList) = false := by
                rw [beq_eq_false_iff_ne]
                intro e
                rw [ByteArray.toList_eq, ByteArray.toList_eq] at e
                exact hfo (ba_ext e)
              have HF9 := hid' (show Apt w1.heap.size ta ma tb mb w1 other Qa' Qb w8 from ⟨HT8.out.two, by rw [HEA.out, Orc.tfNext_mask_other HF.out.two.names hd hfo, HF.out.kn]⟩)
              clear hd hfo
              go_wp2_with fail
              go_roundw
              case rel => exact ⟨i + 1, Qa', Qb, by go_num, by have := HH1.out; omega, HF9⟩
              case measure => have := HH1.out; simp [intOf]; omega
        · have HL5 := hid' HFIT.out.raw
          have HT5 := HT0
          go_upto_region 14 with (fail)
          generalize o.raw = l5 at *
          clear x0 x1 x2 x3 x4 x5 x6 x7 x8 x9 HT0
          go_wp2_with fail
          refine (refDecode_any0 _ l5 _ HT5.out.reads HL5.out).mono ?_
          rintro e w6 ⟨rfl, b6⟩
          have HT6 := hid' (HT5.out.below b6)
          clear b6 HT5
          have HTD := hid' (show (Orc.dec l5 = none ∧ decCode l5 = 210) ∨ ∃ t, Orc.dec l5 = some t ∧ decTip l5 = t ∧ decCode l5 = 0 from by
            unfold decTip decCode
            cases Orc.dec l5 with
            | none => exact .inl ⟨rfl, rfl⟩
            | some t => exact .inr ⟨t, rfl, rfl, rfl⟩)
          generalize decTip l5 = td at *
          generalize decCode l5 = dc at *
          have hbt : Below w6.heap.size w6 (w6.alloc (.cells #[.string td.feed, .int .i64 td.day, .int .i64 td.n, .int .i64 td.seq, .string td.tag] 23)) := (Below.refl _ _).alloc (Nat.le_refl _) _
          have HX7 := hid' (TipBox.new w6 td)
          have HT7 := hid' (HT6.out.below hbt)
          have HFB := hid' (show Free ta ma tb mb Qa Qb (w6.alloc (.cells #[.string td.feed, .int .i64 td.day, .int .i64 td.n, .int .i64 td.seq, .string td.tag] 23)) w6.heap.size from HT6.out.two.free_new _)
          clear hbt HT6
          go_upto_region 15 with (fail)
          obtain ⟨yb, hyb⟩ : ∃ yb, yb = w6.heap.size := ⟨_, rfl⟩
          rw [← hyb] at HX7 HFB ⊢
          clear hyb
          generalize w6.alloc (.cells #[.string td.feed, .int .i64 td.day, .int .i64 td.n, .int .i64 td.seq, .string td.tag] 23) = w7 at *
          obtain ⟨x0, x1, x2, ⟨x3, x4, x5, x6, x7⟩, x8, x9⟩ := HT7.out.box.cells
          clear x0 x1 x2 x3 x4 x5 x6 x7 x8
          go_wp2_with fail
          have hb7 := Below.more HB1.out HT7.out.two.bel
          refine (takeF_any fr w1.heap.size ta ma Qa _ l5 o.today w7 HT7.out.two.a HT7.out.two.sz HP1.out HT7.out.reads HL5.out (keys_below hk hb7) (HG.out.below hb7)).mono ?_
          rintro e w8 ⟨rfl, hs8⟩
          obtain ⟨Qa', ea, T8, f8⟩ := HT7.out.stepA hs8
          have HT8 := hid' T8
          have HEA := hid' ea
          have HX8 := hid' (show TipBox w8 yb td from (f8 yb HFB.out).2.trans HX7.out)
          clear hs8 ea T8 f8 hb7 x9 HT7 HX7 HFB
          obtain ⟨y0, _, _, _, _, _⟩ := HX8.out.cells
          rcases HTD.out with ⟨hd, rfl⟩ | ⟨t, hd, rfl, rfl⟩
          · have HF9 := hid' (show Apt w1.heap.size ta ma tb mb w1 other Qa' Qb w8 from ⟨HT8.out.two, by rw [HEA.out, Orc.tfNext_mask_none hd, HF.out.kn]⟩)
            clear hd
            go_wp2_with fail
            go_roundw
            case rel => exact ⟨i + 1, Qa', Qb, by go_num, by have := HH1.out; omega, HF9⟩
            case measure => have := HH1.out; simp [intOf]; omega
          · by_cases hfo : td.feed = other
            · have gf : (td.feed.toList == other.toList) = true := by rw [hfo]; simp
              have HD := hid' (And.intro hd hfo)
              obtain ⟨x0, x1, x2, ⟨x3, x4, x5, x6, x7⟩, x8, x9⟩ := HT8.out.box.cells
              clear x0 x1 x2 x3 x4 x5 x6 x7 x8 hd hfo
              go_wp2_with fail
              have hb8 := Below.more HB1.out HT8.out.two.bel
              refine (takeF_any fr w1.heap.size tb mb Qb _ l5 o.today w8 HT8.out.two.b HT8.out.two.sz HP1.out HT8.out.reads HL5.out (keys_below hk hb8) (HG.out.below hb8)).mono ?_
              rintro e w9 ⟨rfl, hs9⟩
              obtain ⟨Qb', eb, T9, _⟩ := HT8.out.stepB hs9
              have HF9 := hid' (show Apt w1.heap.size ta ma tb mb w1 other Qa' Qb' w9 from ⟨T9.two, by rw [eb, HEA.out, HF.out.kn, Orc.tfNext_mask_same HD.out.1 HD.out.2]⟩)
              clear hs9 eb T9 hb8
              go_wp2_with fail
              go_roundw
              case rel => exact ⟨i + 1, Qa', Qb', by go_num, by have := HH1.out; omega, HF9⟩
              case measure => have := HH1.out; simp [intOf]; omega
            · have gf : (td.feed.toList == other.toList) = false := by
                rw [beq_eq_false_iff_ne]
                intro e
                rw [ByteArray.toList_eq, ByteArray.toList_eq] at e
                exact hfo (ba_ext e)
              have HF9 := hid' (show Apt w1.heap.size ta ma tb mb w1 other Qa' Qb w8 from ⟨HT8.out.two, by rw [HEA.out, Orc.tfNext_mask_other HF.out.two.names hd hfo, HF.out.kn]⟩)
              clear hd hfo
              go_wp2_with fail
              go_roundw
              case rel => exact ⟨i + 1, Qa', Qb, by go_num, by have := HH1.out; omega, HF9⟩
              case measure => have := HH1.out; simp [intOf]; omega
    · have hcase : decide (i < ops.length) = false ∨ (decide (i < ops.length) = true ∧ decide ((i : Int) < 100) = false) := by
        by_cases a1 : i < ops.length
        · exact .inr ⟨decide_eq_true a1, decide_eq_false (fun h => hin ⟨a1, by omega⟩)⟩
        · exact .inl (decide_eq_false a1)
      have HSQ := hid' (show seqOf Qb other = seqOf Qa other by rw [seqOf_is HF.out.kn, seqOf_is rfl]; exact seqK_mask _ _)
      have HKN := hid' HF.out.kn
      have HMS := hid' (fun (j : Nat) x (hx : (feedsK (Qa.map (·.kn)))[j]? = some x) => feedsK_mask (o := other) hx)
      rw [← HF.out.kn] at HMS
      have HLA := hid' (show (feedsK (Qb.map (·.kn))).length = (feedsK (Qa.map (·.kn))).length by rw [feedsK_len, feedsK_len, HF.out.kn, List.length_map])
      clear hin
      rcases hcase with b1 | ⟨b1, b2⟩
      all_goals
        go_wp2_with fail
        refine (feeds_any w1.heap.size ta ma Qa wr HF.out.two.a).mono ?_
        rintro e w10 ⟨va, qa, rfl, hfa, hna⟩
        have HSA := hid' (hfa.is HF.out.two.a hna)
        have HT10 := hid' (HF.out.two.below hfa.bel)
        clear hfa hna
        obtain ⟨pa, ca, rfl, ⟨hca, hla⟩, _⟩ := HSA.out
        go_wp2_with fail
        refine (feeds_any w1.heap.size tb mb Qb w10 HT10.out.b).mono ?_
        rintro e w11 ⟨vb, qb, rfl, hfb, hnb⟩
        have HSB := hid' (hfb.is HT10.out.b hnb)
        have HSA2 := hid' (HSA.out.below hfb.bel)
        have HT11 := hid' (HT10.out.below hfb.bel)
        clear hfb hnb HSA
        generalize feedsK (Qa.map (·.kn)) = la at *
        generalize feedsK (Qb.map (·.kn)) = lb at *
        obtain ⟨pb, cb, rfl, ⟨hcb, hlb⟩, _⟩ := HSB.out
        rw [HLA.out] at HSB hcb hlb ⊢
        have HK := hid' (Kept.refl w11)
        clear b1
        go_wp2_with fail
        go_loopw [15] (fun iv wr => ∃ i : Nat, iv = .int .i64 (i : Int) ∧ i ≤ la.length ∧ Hid (Kept w11 wr)) (fun iv _ => la.length - (intOf iv).toNat)
        case atStart => exact ⟨0, rfl, Nat.zero_le _, HK⟩
        case round =>
          obtain ⟨j, rfl, hj, HW⟩ := hrel
          by_cases hjn : j < la.length
          · obtain ⟨x, hx⟩ : ∃ x, la[j]? = some x := ⟨_, List.getElem?_eq_getElem hjn⟩
            obtain ⟨y, hy, hyn, hyo, hyz⟩ := HMS.out j x hx
            obtain ⟨_, _, ea, _, hha⟩ := HSA2.out
            obtain ⟨rfl, -, rfl⟩ := Value.slice.inj ea
            obtain ⟨ba, oa, sva, rfl, _, a0, a1, a2⟩ := hha j x hx
            obtain ⟨_, _, eb, _, hhb⟩ := HSB.out
            obtain ⟨rfl, -, rfl⟩ := Value.slice.inj eb
            obtain ⟨bb, ob2, svb, rfl, _, d0, d1, d2⟩ := hhb j y hy
            replace a0 := HW.out.cell a0
            replace a1 := HW.out.cell a1
            replace d0 := HW.out.cell d0
            replace d1 := HW.out.cell d1
            rw [hyn] at d0
            obtain ⟨spa, sca, rfl, hsla, _⟩ := a2
            obtain ⟨spb, scb, rfl, hslb, _⟩ := d2
            have j3 : (0 : Int) ≤ (j : Int) := by omega
            have j4 : (j : Int) < (la.length : Int) := by omega
            have j5 : (j : Int) ≤ (j : Int) + 1 := by omega
            have j6 : (j : Int) + 1 ≤ (ca : Int) := by omega
            have j7 : (j : Int) + 1 ≤ (cb : Int) := by omega
            have wj : IntKind.i64.wrap ((j : Int) + 1) = (j : Int) + 1 := IntWalk.i64_in _ (by omega)
            have g9 : decide (j < la.length) = true := decide_eq_true hjn
            by_cases hxo : x.1 = other
            · obtain rfl := hyo hxo
              have gf : (y.1.toList == other.toList) = true := by rw [hxo]; simp
              have HS := hid' (fun wx (h : Kept wr wx) => sameFeeds_yes _ _ [y] wx ((HSA2.out.sub hx).below (HW.out.trans h).below) ((HSB.out.sub hy).below (HW.out.trans h).below))
              clear hx hy hyn hyo hyz ea eb hha hhb hxo
              have wj2 : IntKind.i64.wrap ((j : Int) + 1) = (j : Int) + 1 := wj
              have gn : (y.1.toList != y.1.toList) = false := by simp
              clear HLA HMS HKN HT10 HK HF HA
              go_upto_region 25 with (fail)
              go_quiet ((go_at_call 25; exact Calls.quiet_of (HS.out _ ⟨_, rfl⟩)))
              go_wp2_with fail
              go_roundw
              case rel => exact ⟨j + 1, by go_num, by omega, hid' (Kept.more HW.out _)⟩
              case measure => simp [intOf]; omega
            · have hy2 := hyz hxo
              rw [hy2] at d1
              have gf : (x.1.toList == other.toList) = false := by
                rw [beq_eq_false_iff_ne]
                intro e
                rw [ByteArray.toList_eq, ByteArray.toList_eq] at e
                exact hxo (ba_ext e)
              have gf2 : (x.1.toList != other.toList) = true := by
                rw [bne_iff_ne]
                intro e
                rw [ByteArray.toList_eq, ByteArray.toList_eq] at e
                exact hxo (ba_ext e)
              replace d1 : wr.cell? ⟨bb, ob2 + j * 2 + 1, none⟩ = some (.slice spb 0 scb) := d1
              have gn : (x.1.toList != x.1.toList) = false := by simp
              clear hx hy hyn hyo hyz ea eb hha hhb hxo hslb hy2
              clear HLA HMS HKN HT10 HK HF HA
              go_upto_region 25 with (fail)
              go_quiet (fail)
              go_wp2_with fail
              go_roundw
              case rel => exact ⟨j + 1, by go_num, by omega, hid' (Kept.more HW.out _)⟩
              case measure => simp [intOf]; omega
          · obtain rfl : j = la.length := by omega
            have g9 : decide (la.length < la.length) = false := by simp
            have HTW := hid' (HT11.out.below HW.out.below)
            have HON := hid' (show other.size ≤ maxLen from Nat.le_trans HOS.out (by decide))
            clear hjn HLA HMS HKN HT10 HK HF HA
            go_wp2_with fail
            refine (seq_any w1.heap.size ta ma Qa other _ HTW.out.a HON.out).mono ?_
            rintro e w12 ⟨rfl, rfl⟩
            go_wp2_with fail
            refine (seq_any w1.heap.size tb mb Qb other _ HTW.out.b HON.out).mono ?_
            rintro e w13 ⟨rfl, rfl⟩
            rw [HSQ.out]
            go_wp2_with fail
            go_ret
            exact ⟨rfl, Below.more HB1.out HTW.out.bel⟩
end Go.Proofs.YtmddaomchhigbaaGreatDoor

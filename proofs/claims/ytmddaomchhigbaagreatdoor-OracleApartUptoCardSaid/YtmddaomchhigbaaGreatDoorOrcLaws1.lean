/- Proved: the laws OracleNone and OracleBack, whatever the input. -/
import Derived.Test.YtmddaomchhigbaaGreatDoorOrcShown
namespace Go.Proofs.YtmddaomchhigbaaGreatDoor
open Go.RowKit Go.Maps
open Led Orc
set_option linter.unusedVariables false
set_option linter.unusedSimpArgs false
set_option maxRecDepth 100000
set_option maxHeartbeats 2000000 in
theorem law_none (fr : Nat × Nat × Nat) (v0 : Value) (l : List UInt8) (feed : ByteArray) (today : Int) (w : World) (hr : Reads w v0 (nums l)) (hl : l.length ≤ 10000000) (hfs : feed.size ≤ 10000000) (hk : Hid (Keys fr w)) (hg : ErrVar w) :
    Calls Tryz.prog 7 #[v0, .string feed, .int .i64 today] w (True1 w) := by
  have HR := hid' hr
  have HL := hid' hl
  have HFS := hid' hfs
  have HG := hid' hg
  obtain ⟨p0, c0, rfl⟩ := hr.len
  clear hr hl hfs hg
  go_enter Tryz.func7, Tryz.ntmps7
  go_wp2_with fail
  refine (shown_any fr w hk HG.out).mono ?_
  rintro e w1 ⟨rfl, b1⟩
  have HB1 := hid' b1
  clear b1
  go_wp2_with fail
  refine (takeF_nil _ 0 p0 c0 _ rfl today w1).mono ?_
  rintro e w2 ⟨rfl, b2⟩
  have HB2 := hid' (Below.more HB1.out b2)
  clear b2
  go_upto_region 4 with (fail)
  have HB3 := hid' (Below.more HB2.out (show Below w2.heap.size w2 (w2.alloc (.cells #[.string ⟨#[]⟩, .int .i64 0, .int .i64 0, .int .i64 0, .string ⟨#[]⟩] 23)) from (Below.refl _ _).alloc (Nat.le_refl _) _))
  generalize w2.alloc (.cells #[.string ⟨#[]⟩, .int .i64 0, .int .i64 0, .int .i64 0, .string ⟨#[]⟩] 23) = w3 at *
  go_wp2_with fail
  refine (setKey_nil _ _ w3).mono ?_
  rintro e w4 ⟨rfl, rfl⟩
  go_wp2_with fail
  refine (feeds_nil _).mono ?_
  rintro e w5 ⟨rfl, rfl⟩
  go_wp2_with fail
  refine (seq_nil _ _).mono ?_
  rintro e w6 ⟨rfl, rfl⟩
  go_wp2_with fail
  refine (reftag_any _ feed _ (nums l) (HR.out.below HB3.out) (by rw [nums_length]; have := HL.out; omega) (fun x hx => by
      unfold nums at hx
      obtain ⟨c, _, rfl⟩ := List.mem_map.1 hx
      have := c.toNat_lt
      omega) HFS.out).mono ?_
  rintro e w7 ⟨v, rfl, b7, o7⟩
  have HB7 := hid' (Below.more HB3.out b7)
  obtain ⟨p7, c7, rfl⟩ := o7.reads.len
  clear o7 b7
  go_wp2_with fail
  go_ret
  exact ⟨rfl, HB7.out⟩
theorem decTip_some {l : List UInt8} {t : Orc.Tip} (h : Orc.dec l = some t) : decTip l = t ∧ decCode l = 0 := by
  unfold decTip decCode
  rw [h]
  exact ⟨rfl, rfl⟩
theorem decCode_none {l : List UInt8} (h : Orc.dec l = none) : decCode l = 210 := by
  unfold decCode
  rw [h]
def tipV (t : Orc.Tip) : Value := .agg #[.string t.feed, .int .i64 t.day, .int .i64 t.n, .int .i64 t.seq, .string t.tag]
theorem nums_inj {l m : List UInt8} (h : l = m) : strOfNums (nums l) = strOfNums (nums m) := by rw [h]
theorem dec_fits {l : List UInt8} {t : Orc.Tip} (h : Orc.dec l = some t) : Orc.Fits t := by
  have hr := (Orc.enc_dec h).2
  obtain ⟨h1, h2, h3, h4, h5, h6, h7⟩ := Orc.core_parts (Orc.right_core hr).1
  have h8 := (Orc.right_core hr).2
  have h9 := Led.name_len h1
  exact ⟨by omega, by omega, by omega, by omega, by omega⟩
set_option maxHeartbeats 4000000 in
/-- The law's second half: bytes that are read are their tip's own. -/
theorem law_back (fr : Nat × Nat × Nat) (t : Orc.Tip) (v1 : Value) (l : List UInt8) (w : World) (hf : Orc.Fits t) (hr : Reads w v1 (nums l)) (hl : l.length ≤ 10000000) (hk : Hid (Keys fr w)) (hg : ErrVar w) :
    Calls Tryz.prog 4 #[.agg #[.string t.feed, .int .i64 t.day, .int .i64 t.n, .int .i64 t.seq, .string t.tag], v1] w (True1 w) := by
  have HF := hid' hf
  have HR := hid' hr
  have HL := hid' hl
  have HG := hid' hg
  have HB0 := hid' (show Below w.heap.size w (w.alloc (.cells #[.string t.feed, .int .i64 t.day, .int .i64 t.n, .int .i64 t.seq, .string t.tag] 23)) from (Below.refl _ _).alloc (Nat.le_refl _) _)
  have HT := hid' (TipBox.new w t)
  obtain ⟨p0, c0, rfl⟩ := hr.len
  clear hr hl hf hg
  go_enter Tryz.func4, Tryz.ntmps4
  go_upto_region 1 with (fail)
  obtain ⟨xb, hxb⟩ : ∃ xb, xb = w.heap.size := ⟨_, rfl⟩
  rw [← hxb] at HT ⊢
  clear hxb
  generalize w.alloc (.cells #[.string t.feed, .int .i64 t.day, .int .i64 t.n, .int .i64 t.seq, .string t.tag] 23) = w0 at *
  go_wp2_with fail
  refine (shown_any fr w0 (keys_below hk HB0.out) (HG.out.below HB0.out)).mono ?_
  rintro e w1 ⟨rfl, b1⟩
  have HB1 := hid' (Below.more HB0.out b1)
  have HT1 := hid' (HT.out.below b1)
  obtain ⟨x0, x1, x2, x3, x4, _⟩ := HT1.out.cells
  clear b1 HT HB0
  go_wp2_with fail
  refine (encode_any t w1 HF.out).mono ?_
  rintro e w2 ⟨vx, rfl, ox, b2⟩
  have HB2 := hid' (Below.more HB1.out b2)
  have HT2 := hid' (HT1.out.below b2)
  have HX2 := hid' ox.reads
  obtain ⟨px, cx, rfl⟩ := ox.reads.len
  clear b2 ox x0 x1 x2 x3 x4 HT1 HB1
  have HXL := hid' (show (Orc.encOf t).1.length ≤ 100000000 by
    unfold Orc.encOf
    split
    · exact Nat.le_trans (Orc.enc_len HF.out) (by omega)
    · show 0 ≤ _; omega)
  go_wp2_with fail
  refine (decode_any _ (Orc.encOf t).1 w2 HX2.out HXL.out (HG.out.below HB2.out)).mono ?_
  rintro e w3 ⟨rfl, b3⟩
  have HB3 := hid' (Below.more HB2.out b3)
  have HT3 := hid' (HT2.out.below b3)
  clear b3 HT2 HB2 HX2
  have HDT := hid' (show Orc.right t = true → decTip (Orc.encOf t).1 = t ∧ decCode (Orc.encOf t).1 = 0 from fun e => by rw [Orc.encOf_yes e]; exact decTip_some (Orc.dec_enc t e))
  generalize hT : decTip (Orc.encOf t).1 = T at *
  generalize hD : decCode (Orc.encOf t).1 = D at *
  have hb4 : Below w3.heap.size w3 (w3.alloc (.cells #[.string T.feed, .int .i64 T.day, .int .i64 T.n, .int .i64 T.seq, .string T.tag] 23)) := (Below.refl _ _).alloc (Nat.le_refl _) _
  have HB4 := hid' (Below.more HB3.out hb4)
  have HT4 := hid' (HT3.out.below hb4)
  have HP4 := hid' (TipBox.new w3 T)
  go_upto_region 4 with (fail)
  obtain ⟨pb, hpb⟩ : ∃ pb, pb = w3.heap.size := ⟨_, rfl⟩
  rw [← hpb] at HP4 ⊢
  clear hpb hb4 HT3 HB3 hT hD
  generalize w3.alloc (.cells #[.string T.feed, .int .i64 T.day, .int .i64 T.n, .int .i64 T.seq, .string T.tag] 23) = w4 at *
  obtain ⟨x0, x1, x2, x3, x4, _⟩ := HT4.out.cells
  obtain ⟨y0, y1, y2, y3, y4, _⟩ := HP4.out.cells
  have HC := hid' (show ((Orc.encOf t).2 = 0 ∧ T = t ∧ D = 0) ∨ (Orc.encOf t).2 = 210 from by
    cases hrt : Orc.right t with
    | true => exact .inl ⟨by rw [Orc.encOf_yes hrt], HDT.out hrt⟩
    | false => exact .inr (by rw [Orc.encOf_no hrt]))
  clear HDT
  generalize (Orc.encOf t).2 = E at *
  have HDB := hid' (decode_any _ l w4 (HR.out.below HB4.out) (by have := HL.out; omega) (HG.out.below HB4.out))
  rcases HC.out with ⟨rfl, rfl, rfl⟩ | rfl
  all_goals
    go_wp2_with fail
    refine HDB.out.mono ?_
    rintro e w5 ⟨rfl, b5⟩
    have HB5 := hid' (Below.more HB4.out b5)
    clear b5 x0 x1 x2 x3 x4 y0 y1 y2 y3 y4 HDB HC HT4 HP4 HXL
    cases hd : Orc.dec l with
    | none =>
      rw [decCode_none hd]
      generalize decTip l = T2
      have HB6 := hid' (Below.more HB5.out (show Below w5.heap.size w5 (w5.alloc (.cells #[.string T2.feed, .int .i64 T2.day, .int .i64 T2.n, .int .i64 T2.seq, .string T2.tag] 23)) from (Below.refl _ _).alloc (Nat.le_refl _) _))
      clear hd
      go_wp2_with fail
      go_ret
      exact ⟨rfl, HB6.out⟩
    | some q =>
      rw [(decTip_some hd).1, (decTip_some hd).2]
      have HQE := hid' (show Orc.encOf q = (l, 0) by rw [Orc.encOf_yes (Orc.enc_dec hd).2, (Orc.enc_dec hd).1])
      have HQF := hid' (dec_fits hd)
      have HQB := hid' (TipBox.new w5 q)
      have hb6 : Below w5.heap.size w5 (w5.alloc (.cells #[.string q.feed, .int .i64 q.day, .int .i64 q.n, .int .i64 q.seq, .string q.tag] 23)) := (Below.refl _ _).alloc (Nat.le_refl _) _
      have HB6 := hid' (Below.more HB5.out hb6)
      clear hd hb6
      go_upto_region 7 with (fail)
      obtain ⟨qb, hqb⟩ : ∃ qb, qb = w5.heap.size := ⟨_, rfl⟩
      rw [← hqb] at HQB ⊢
      clear hqb HB5
      generalize w5.alloc (.cells #[.string q.feed, .int .i64 q.day, .int .i64 q.n, .int .i64 q.seq, .string q.tag] 23) = w6 at *
      obtain ⟨x0, x1, x2, x3, x4, _⟩ := HQB.out.cells
      go_wp2_with fail
      refine (encode_any q w6 HQF.out).mono ?_
      rintro e w7 ⟨vy, rfl, oy, b7⟩
      rw [HQE.out] at oy
      rw [HQE.out]
      have HB7 := hid' (Below.more HB6.out b7)
      have cy := oy.conv
      obtain ⟨py, cy2, rfl⟩ := oy.reads.len
      have cv := (HR.out.below HB7.out).conv
      clear b7 oy x0 x1 x2 x3 x4
      go_wp2_with fail
      go_ret
      exact ⟨rfl, HB7.out⟩
end Go.Proofs.YtmddaomchhigbaaGreatDoor

/- Proved: the law OracleBytes, whatever the input. -/
import Derived.Test.YtmddaomchhigbaaGreatDoorOrcShown
namespace Go.Proofs.YtmddaomchhigbaaGreatDoor
open Go.RowKit Go.Maps
open Led Orc
set_option linter.unusedVariables false
set_option linter.unusedSimpArgs false
set_option maxRecDepth 100000
def BytesAs (l : List Int) (c : Int) (w : World) (e : Ending) (w' : World) : Prop := ∃ v, e = .returned (.tuple #[v, .int .i64 c]) ∧ Owns w.heap.size w' v l ∧ Below w.heap.size w w'
set_option maxHeartbeats 8000000 in
theorem law_bytes (fr : Nat × Nat × Nat) (t : Orc.Tip) (key : ByteArray) (v2 : Value) (l : List UInt8) (w : World) (hf : Orc.Fits t) (hks : key.size ≤ 10000000) (hr : Reads w v2 (nums l)) (hl : l.length ≤ 10000000) (hk : Hid (Keys fr w)) (hg : ErrVar w) :
    Calls Tryz.prog 3 #[.agg #[.string t.feed, .int .i64 t.day, .int .i64 t.n, .int .i64 t.seq, .string t.tag], .string key, v2] w (True1 w) := by
  have HF := hid' hf
  have HKS := hid' hks
  have HR := hid' hr
  have HL := hid' hl
  have HG := hid' hg
  have HB0 := hid' (show Below w.heap.size w (w.alloc (.cells #[.string t.feed, .int .i64 t.day, .int .i64 t.n, .int .i64 t.seq, .string t.tag] 23)) from (Below.refl _ _).alloc (Nat.le_refl _) _)
  have HT := hid' (TipBox.new w t)
  obtain ⟨p0, c0, rfl⟩ := hr.len
  clear hr hl hf hg hks
  go_enter Tryz.func3, Tryz.ntmps3
  go_upto_region 1 with (fail)
  obtain ⟨xb, hxb⟩ : ∃ xb, xb = w.heap.size := ⟨_, rfl⟩
  rw [← hxb] at HT ⊢
  clear hxb
  generalize w.alloc (.cells #[.string t.feed, .int .i64 t.day, .int .i64 t.n, .int .i64 t.seq, .string t.tag] 23) = w0 at *
  go_wp2_with fail
  refine (shown_any fr w0 (keys_below hk HB0.out) (HG.out.below HB0.out)).mono ?_
  rintro e w1 ⟨rfl, b1⟩
  have HB1 := hid' (Below.more HB0.out b1)
  have HT1 := hid' (HT.out.below b1)
  obtain ⟨x0, x1, x2, x3, x4, _⟩ := HT1.out.cells
  clear b1 HT HB0
  have HE1 := hid' (fun W => encode_any t W HF.out)
  have HE2 := hid' (fun W => refEncode_any t W HF.out)
  obtain ⟨L, E, hLE⟩ : ∃ L E, Orc.encOf t = (L, E) := ⟨_, _, rfl⟩
  go_wp2_with fail
  refine (HE1.out w1).mono ?_
  rintro e w2 ⟨vx, rfl, ox, b2⟩
  rw [hLE] at ox ⊢
  have HB2 := hid' (Below.more HB1.out b2)
  have HT2 := hid' (HT1.out.below b2)
  have HX2 := hid' ox.reads
  obtain ⟨px, cx, rfl⟩ := ox.reads.len
  clear b2 ox x0 x1 x2 x3 x4 HT1 HB1
  obtain ⟨x0, x1, x2, x3, x4, _⟩ := HT2.out.cells
  go_wp2_with fail
  refine (HE2.out w2).mono ?_
  rintro e w3 ⟨vy, rfl, oy, b3⟩
  rw [hLE] at oy ⊢
  have HB3 := hid' (Below.more HB2.out b3)
  have HT3 := hid' (HT2.out.below b3)
  have HX3 := hid' (HX2.out.below b3)
  have HY3 := hid' oy.reads
  obtain ⟨py, cy, rfl⟩ := oy.reads.len
  clear b3 oy x0 x1 x2 x3 x4 HT2 HB2 HX2 HE1 HE2 hLE
  have HD1 := hid' (fun W (B : Below w.heap.size w W) => decode_any _ l W (HR.out.below B) (by have := HL.out; omega) (HG.out.below B))
  have HD2 := hid' (fun W (B : Below w.heap.size w W) => refDecode_any _ l W (HR.out.below B) (by have := HL.out; omega))
  generalize hT : decTip l = T at *
  generalize hD : decCode l = D at *
  have HTE := hid' hT
  have HDE := hid' hD
  clear hT hD
  go_wp2_with fail
  refine (HD1.out w3 HB3.out).mono ?_
  rintro e w4 ⟨rfl, b4⟩
  rw [HTE.out, HDE.out]
  have hb5 : Below w4.heap.size w4 (w4.alloc (.cells #[.string T.feed, .int .i64 T.day, .int .i64 T.n, .int .i64 T.seq, .string T.tag] 23)) := (Below.refl _ _).alloc (Nat.le_refl _) _
  have hb35 := Below.more b4 hb5
  have HB5 := hid' (Below.more HB3.out hb35)
  have HT5 := hid' (HT3.out.below hb35)
  have HX5 := hid' (HX3.out.below hb35)
  have HY5 := hid' (HY3.out.below hb35)
  have HP5 := hid' (TipBox.new w4 T)
  clear b4 hb5 hb35 HB3 HT3 HX3 HY3
  go_upto_region 5 with (fail)
  obtain ⟨pb, hpb⟩ : ∃ pb, pb = w4.heap.size := ⟨_, rfl⟩
  rw [← hpb] at HP5 ⊢
  clear hpb
  generalize w4.alloc (.cells #[.string T.feed, .int .i64 T.day, .int .i64 T.n, .int .i64 T.seq, .string T.tag] 23) = w5 at *
  go_wp2_with fail
  refine (HD2.out w5 HB5.out).mono ?_
  rintro e w6 ⟨rfl, b6⟩
  rw [HTE.out, HDE.out]
  have hb7 : Below w6.heap.size w6 (w6.alloc (.cells #[.string T.feed, .int .i64 T.day, .int .i64 T.n, .int .i64 T.seq, .string T.tag] 23)) := (Below.refl _ _).alloc (Nat.le_refl _) _
  have hb57 := Below.more b6 hb7
  have HB7 := hid' (Below.more HB5.out hb57)
  have HT7 := hid' (HT5.out.below hb57)
  have HX7 := hid' (HX5.out.below hb57)
  have HY7 := hid' (HY5.out.below hb57)
  have HP7 := hid' (HP5.out.below hb57)
  have HQ7 := hid' (TipBox.new w6 T)
  clear b6 hb7 hb57 HB5 HT5 HX5 HY5 HP5 HD1 HD2
  go_upto_region 6 with (fail)
  obtain ⟨qb, hqb⟩ : ∃ qb, qb = w6.heap.size := ⟨_, rfl⟩
  rw [← hqb] at HQ7 ⊢
  clear hqb
  generalize w6.alloc (.cells #[.string T.feed, .int .i64 T.day, .int .i64 T.n, .int .i64 T.seq, .string T.tag] 23) = w7 at *
  obtain ⟨S, hS⟩ : ∃ S : ByteArray, Hid (S = Orc.sign t key) := ⟨_, hid' rfl⟩
  have HS1 := hid' (fun (wx : World) (hb : Below w7.heap.size w7 wx) => sign_any fr t key wx HF.out HKS.out (keys_below hk (Below.more HB7.out hb)))
  have HS2 := hid' (fun (wx : World) => refSign_any t key wx HF.out HKS.out)
  rw [← hS.out] at HS1 HS2
  have HC := hid' (fun (wx : World) (hb : Below w7.heap.size w7 wx) => And.intro (HT7.out.below hb).cells (And.intro (HP7.out.below hb).cells (And.intro (HQ7.out.below hb).cells (And.intro (HX7.out.below hb).conv (HY7.out.below hb).conv))))
  have hbx := (Below.refl w7.heap.size w7).drew
  clear HT7 HX7 HY7 HP7 HQ7
  go_region_held3 (fun w' => (w'.cell? ⟨xb, 0, none⟩ = some (.string t.feed) ∧ w'.cell? ⟨xb, 1, none⟩ = some (.int .i64 t.day) ∧ w'.cell? ⟨xb, 2, none⟩ = some (.int .i64 t.n) ∧ w'.cell? ⟨xb, 3, none⟩ = some (.int .i64 t.seq) ∧ w'.cell? ⟨xb, 4, none⟩ = some (.string t.tag)) ∧
      (w'.cell? ⟨pb, 0, none⟩ = some (.string T.feed) ∧ w'.cell? ⟨pb, 1, none⟩ = some (.int .i64 T.day) ∧ w'.cell? ⟨pb, 2, none⟩ = some (.int .i64 T.n) ∧ w'.cell? ⟨pb, 3, none⟩ = some (.int .i64 T.seq) ∧ w'.cell? ⟨pb, 4, none⟩ = some (.string T.tag)) ∧
      (w'.cell? ⟨qb, 0, none⟩ = some (.string T.feed) ∧ w'.cell? ⟨qb, 1, none⟩ = some (.int .i64 T.day) ∧ w'.cell? ⟨qb, 2, none⟩ = some (.int .i64 T.n) ∧ w'.cell? ⟨qb, 3, none⟩ = some (.int .i64 T.seq) ∧ w'.cell? ⟨qb, 4, none⟩ = some (.string T.tag)) ∧
      (convert 24 9 (.slice px (nums L).length cx)).run Tryz.prog w' = .ok (.string (strOfNums (nums L))) w' ∧ (convert 24 9 (.slice py (nums L).length cy)).run Tryz.prog w' = .ok (.string (strOfNums (nums L))) w')
    (exact ⟨⟨(HC.out _ hbx).1.1, (HC.out _ hbx).1.2.1, (HC.out _ hbx).1.2.2.1, (HC.out _ hbx).1.2.2.2.1, (HC.out _ hbx).1.2.2.2.2.1⟩, ⟨(HC.out _ hbx).2.1.1, (HC.out _ hbx).2.1.2.1, (HC.out _ hbx).2.1.2.2.1, (HC.out _ hbx).2.1.2.2.2.1, (HC.out _ hbx).2.1.2.2.2.2.1⟩, ⟨(HC.out _ hbx).2.2.1.1, (HC.out _ hbx).2.2.1.2.1, (HC.out _ hbx).2.2.1.2.2.1, (HC.out _ hbx).2.2.1.2.2.2.1, (HC.out _ hbx).2.2.1.2.2.2.2.1⟩, (HC.out _ hbx).2.2.2.1, (HC.out _ hbx).2.2.2.2⟩)
    (first | (go_at_call 14; refine (HS1.out _ hbx).mono ?_; rintro e wa ⟨rfl, ba⟩; have hbx := Below.more hbx ba; clear ba) | (go_at_call 15; refine (HS2.out _).mono ?_; rintro e wa ⟨rfl, ba⟩; have hbx := Below.more hbx ba; clear ba))
  all_goals
    go_wp2_with fail
    go_ret
    exact ⟨rfl, Below.more HB7.out hbx⟩
end Go.Proofs.YtmddaomchhigbaaGreatDoor

/- Proved: what is signed, and the law's 'shown' is true. -/
import Derived.Test.YtmddaomchhigbaaGreatDoorOrcTake2
import Derived.Test.YtmddaomchhigbaaGreatDoorOrcRef2
namespace Go.Proofs.YtmddaomchhigbaaGreatDoor
open Go.RowKit Go.Maps
open Led Orc
set_option linter.unusedVariables false
set_option linter.unusedSimpArgs false
set_option maxRecDepth 100000
theorem Orc.sign_size (t : Orc.Tip) (key : ByteArray) : (Orc.sign t key).size = 32 ∨ (Orc.sign t key).size = 0 := by
  cases hc : Orc.core t with
  | true => left; rw [Orc.sign_yes hc, strOfNums_size, Sha.tag_length]
  | false => right; rw [Orc.sign_no hc]; rfl
/-- The tip with its tag. -/
def Orc.tagged (t : Orc.Tip) (key : ByteArray) : Orc.Tip := { t with tag := Orc.sign t key }
theorem Orc.tagged_fits {t : Orc.Tip} (h : Orc.Fits t) (key : ByteArray) : Orc.Fits (Orc.tagged t key) :=
  ⟨h.feed, by show (Orc.sign t key).size ≤ _; have := Orc.sign_size t key; omega, h.day, h.n, h.seq⟩
theorem Orc.tagged_core (t : Orc.Tip) (key : ByteArray) : Orc.core (Orc.tagged t key) = Orc.core t := rfl
theorem Orc.tagged_sign (t : Orc.Tip) (key k2 : ByteArray) : Orc.sign (Orc.tagged t key) k2 = Orc.sign t k2 := rfl
theorem Orc.tagged_right {t : Orc.Tip} (h : Orc.core t = true) (key : ByteArray) : Orc.right (Orc.tagged t key) = true := by
  unfold Orc.right
  rw [Orc.tagged_core, h]
  have : (Orc.sign t key).size = 32 := by rw [Orc.sign_yes h, strOfNums_size, Sha.tag_length]
  simp [Orc.tagged, this]
def SignedPost (t : Orc.Tip) (key : ByteArray) (w : World) (e : Ending) (w' : World) : Prop := ∃ v, e = .returned v ∧ Owns w.heap.size w' v (nums (Orc.encOf (Orc.tagged t key)).1) ∧ Below w.heap.size w w'
set_option maxHeartbeats 2000000 in
theorem signed_any (t : Orc.Tip) (key : ByteArray) (w : World) (h : Orc.Fits t) (hkl : key.size ≤ 10000000) :
    Calls Tryz.prog 19 #[.agg #[.string t.feed, .int .i64 t.day, .int .i64 t.n, .int .i64 t.seq, .string t.tag], .string key] w (SignedPost t key w) := by
  have HF := hid' h
  have HB0 := hid' (show Below w.heap.size w (w.alloc (.cells #[.string t.feed, .int .i64 t.day, .int .i64 t.n, .int .i64 t.seq, .string t.tag] 23)) from (Below.refl _ _).alloc (Nat.le_refl _) _)
  have HT := hid' (TipBox.new w t)
  have HTC := hid' (fun (W : World) (hb : Below (w.alloc (.cells #[.string t.feed, .int .i64 t.day, .int .i64 t.n, .int .i64 t.seq, .string t.tag] 23)).heap.size (w.alloc (.cells #[.string t.feed, .int .i64 t.day, .int .i64 t.n, .int .i64 t.seq, .string t.tag] 23)) W) => HT.out.below hb)
  have HSG := hid' (fun (W : World) => refSign_any t key W HF.out hkl)
  have HTS := hid' (show (Orc.tagged t key).feed = t.feed ∧ (Orc.tagged t key).day = t.day ∧ (Orc.tagged t key).n = t.n ∧ (Orc.tagged t key).seq = t.seq ∧ (Orc.tagged t key).tag = Orc.sign t key from ⟨rfl, rfl, rfl, rfl, rfl⟩)
  have HEN := hid' (fun (W : World) => refEncode_any (Orc.tagged t key) W (Orc.tagged_fits HF.out key))
  generalize hT2 : Orc.tagged t key = T2 at *
  generalize hsg : Orc.sign t key = sg at *
  clear h hkl
  go_enter Tryz.func19, Tryz.ntmps19
  go_upto_region 1 with (fail)
  obtain ⟨b, hb⟩ : ∃ b, b = w.heap.size := ⟨_, rfl⟩
  have HBL := hid' (show w.heap.size ≤ b by omega)
  rw [← hb] at HT HTC ⊢
  clear hb
  generalize w.alloc (.cells #[.string t.feed, .int .i64 t.day, .int .i64 t.n, .int .i64 t.seq, .string t.tag] 23) = W1 at *
  obtain ⟨x0, x1, x2, x3, x4, _⟩ := HT.out.cells
  go_wp2_with fail
  refine (HSG.out _).mono ?_
  rintro e w2 ⟨rfl, b2⟩
  have hk2 := HTC.out _ b2
  have HB2 := hid' (Below.more HB0.out b2)
  clear x0 x1 x2 x3 x4 b2 HTC HT HSG
  obtain ⟨x0, x1, x2, x3, x4, xf⟩ := hk2.cells
  have xf4 := (block_cells hk2).2 4
  have hk3 : (w2.setCell ⟨b, 4, none⟩ (.string sg)).heap[b]? = some (.cells #[.string T2.feed, .int .i64 T2.day, .int .i64 T2.n, .int .i64 T2.seq, .string T2.tag] 23 (0, 0)) := by
    rw [HTS.out.1, HTS.out.2.1, HTS.out.2.2.1, HTS.out.2.2.2.1, HTS.out.2.2.2.2]
    exact heap_setCell_same _ _ _ _ _ _ hk2
  have HK3 := hid' hk3
  have HB3 := hid' (show Below w.heap.size w (w2.setCell ⟨b, 4, none⟩ (.string sg)) from HB2.out.setCell (p := ⟨b, 4, none⟩) HBL.out _)
  clear hk2 hk3 xf
  go_upto_region 2 with (fail)
  clear x0 x1 x2 x3 x4 xf4
  generalize w2.setCell ⟨b, 4, none⟩ (.string sg) = w3 at *
  obtain ⟨c, _⟩ := block_cells HK3.out
  have x0 := c 0 _ rfl
  have x1 := c 1 _ rfl
  have x2 := c 2 _ rfl
  have x3 := c 3 _ rfl
  have x4 := c 4 _ rfl
  clear c
  go_wp2_with fail
  refine (HEN.out _).mono ?_
  rintro e w4 ⟨v, rfl, o4, b4⟩
  have HO := hid' (o4.mono HB3.out.size)
  have HB4 := hid' (Below.more HB3.out b4)
  obtain ⟨p4, c4, rfl⟩ := o4.reads.len
  clear o4 b4 x0 x1 x2 x3 x4
  go_wp2_with fail
  go_ret
  exact ⟨_, rfl, by rw [hT2]; exact HO.out, HB4.out⟩
namespace Orc
def eurB : ByteArray := ⟨#[101, 117, 114]⟩
def kB : ByteArray := ⟨#[107]⟩
def shTip : Tip := ⟨eurB, 5, 1500000, 1, ⟨#[]⟩⟩
def shT : Tip := tagged shTip kB
theorem sh_core : core shTip = true := by kernel_rfl
theorem sh_fits : Fits shTip := ⟨by decide, by decide, by decide, by decide, by decide⟩
theorem sh_right : right shT = true := tagged_right sh_core _
theorem sh_enc : (encOf shT).1 = enc shT := by rw [encOf_yes sh_right]
theorem sh_dec : dec (enc shT) = some shT := dec_enc _ sh_right
theorem sh_set : skCode [] eurB kB = 0 ∧ skNext [] eurB kB = [⟨eurB, kB, 0, []⟩] := by
  have h : skOk eurB kB = true := by kernel_rfl
  unfold skCode skNext
  rw [if_pos h, if_pos h]
  exact ⟨rfl, rfl⟩
theorem sh_code1 : tkCode [⟨eurB, kB, 0, []⟩] shT 5 = 0 := by
  unfold tkCode
  have h : findK [⟨eurB, kB, 0, []⟩] shT.feed = some ⟨eurB, kB, 0, []⟩ := by
    show List.find? _ _ = _
    rw [List.find?_cons_of_pos]; exact decide_eq_true rfl
  rw [h]
  simp only
  rw [if_neg (fun e => e rfl), if_neg (by show ¬ (1 : Int) ≤ 0; omega), if_neg (by show ¬ ((5 : Int) < 5 ∨ (5 : Int) ≤ -1); omega), if_neg (by show ¬ (0 = 4096); omega)]
theorem sh_take1 : tfCode [⟨eurB, kB, 0, []⟩] (enc shT) 5 = 0 ∧ tfTip [⟨eurB, kB, 0, []⟩] (enc shT) 5 = shT ∧ tfNext [⟨eurB, kB, 0, []⟩] (enc shT) 5 = [⟨eurB, kB, 1, [(5, 1500000)]⟩] := by
  unfold tfCode tfTip tfNext
  rw [if_neg (by omega), if_neg (by omega), if_neg (by omega), sh_dec]
  simp only
  rw [if_pos sh_code1]
  refine ⟨sh_code1, rfl, ?_⟩
  unfold tkNext
  have h : findK [⟨eurB, kB, 0, []⟩] shT.feed = some ⟨eurB, kB, 0, []⟩ := by
    show List.find? _ _ = _
    rw [List.find?_cons_of_pos]; exact decide_eq_true rfl
  rw [h]
  simp only
  rw [if_pos sh_code1]
  show [updK _ _ _] = _
  unfold updK
  rw [if_pos (show eurB = shT.feed from rfl)]
  rfl
theorem sh_take2 : tfCode [⟨eurB, kB, 1, [(5, 1500000)]⟩] (enc shT) 5 = 213 ∧ tfNext [⟨eurB, kB, 1, [(5, 1500000)]⟩] (enc shT) 5 = [⟨eurB, kB, 1, [(5, 1500000)]⟩] := by
  have hc : tkCode [⟨eurB, kB, 1, [(5, 1500000)]⟩] shT 5 = 213 := by
    unfold tkCode
    have h : findK [⟨eurB, kB, 1, [(5, 1500000)]⟩] shT.feed = some ⟨eurB, kB, 1, [(5, 1500000)]⟩ := by
      show List.find? _ _ = _
      rw [List.find?_cons_of_pos]; exact decide_eq_true rfl
    rw [h]
    simp only
    rw [if_neg (fun e => e rfl), if_pos (by show (1 : Int) ≤ 1; omega)]
  unfold tfCode tfNext
  rw [if_neg (by omega), if_neg (by omega), sh_dec]
  simp only
  exact ⟨hc, tkNext_no (by rw [hc]; decide)⟩
end Orc
theorem Orc.enc_len {t : Orc.Tip} (h : Orc.Fits t) : (Orc.enc t).length ≤ 5000000 := by
  have h1 := said_len h
  have h2 := h.tag
  rw [nums_length] at h1
  have e : (Orc.enc t).length = (Orc.said t).length + t.tag.size := by unfold Orc.enc; rw [List.length_append]; rfl
  omega
theorem Owns.only {base : Nat} {F : Nat → Prop} {w w' : World} {v : Value} {l : List Int} (h : Owns base w v l) (o : OnlyF F w w') (hF : ∀ k, F k → k < base) : Owns base w' v l := by
  obtain ⟨h1, h2 | ⟨g, cap, cur, hv, hg, hh, r⟩⟩ := h
  · exact ⟨h1, Or.inl h2⟩
  · exact ⟨h1, Or.inr ⟨g, cap, cur, hv, hg, (o.block g (lt_of_block hh) (fun e => by have := hF g e; omega)).trans hh, r⟩⟩
theorem block_only {F : Nat → Prop} {w w' : World} {k : Nat} {o : Obj} (h : w.heap[k]? = some o) (of : OnlyF F w w') (hF : ¬ F k) : w'.heap[k]? = some o := (of.block k (lt_of_block h) hF).trans h
theorem ErrVar.pos {w : World} (h : ErrVar w) : 0 < w.heap.size := by
  rcases Nat.eq_zero_or_pos w.heap.size with h0 | h0
  · exfalso
    unfold ErrVar World.cell? at h
    rw [Array.getElem?_eq_none (by omega)] at h
    simp at h
  · exact h0
theorem seqOf_is {Q : List Orc.Kb} {L : List Orc.Kn} (h : Q.map (·.kn) = L) (s : ByteArray) : seqOf Q s = match Orc.findK L s with | none => 0 | some k => k.seq := by
  subst h
  unfold seqOf
  rw [Orc.findK_is]
  cases Orc.find Q s <;> rfl
set_option maxHeartbeats 4000000 in
theorem shown_any (fr : Nat × Nat × Nat) (w : World) (hk : Hid (Keys fr w)) (hg : ErrVar w) : Calls Tryz.prog 9 #[] w (True1 w) := by
  have HP := hid' hg.pos
  have HG := hid' hg
  clear hg
  go_enter Tryz.func9, Tryz.ntmps9
  go_wp2_with fail
  refine (tabNew_any w).mono ?_
  rintro e w1 ⟨tb, mb, rfl, ht1, hb1⟩
  have HT1 := hid' ht1
  have HB1 := hid' hb1
  clear ht1 hb1
  go_wp2_with fail
  refine (setKey_any w.heap.size tb mb [] Orc.eurB Orc.kB w1 HT1.out HB1.out.size (by decide) (by decide)).mono ?_
  rintro e w2 ⟨rfl, Q2, hQ2, ht2, ho2, hf2⟩
  rw [show ([] : List Orc.Kb).map (·.kn) = [] from rfl, Orc.sh_set.2] at hQ2
  rw [show ([] : List Orc.Kb).map (·.kn) = [] from rfl, Orc.sh_set.1]
  have HT2 := hid' ht2
  have HB2 := hid' (HB1.out.trans (ho2.to_below (fun k hk => (HT1.out.foot hk).1) HB1.out.size))
  have HQ2 := hid' hQ2
  clear ht2 ho2 hf2 hQ2 HT1 HB1
  go_wp2_with fail
  refine (signed_any Orc.shTip Orc.kB w2 Orc.sh_fits (by decide)).mono ?_
  rintro e w3 ⟨v, rfl, o3, b3⟩
  rw [show Orc.tagged Orc.shTip Orc.kB = Orc.shT from rfl, Orc.sh_enc] at o3
  have HO3 := hid' o3
  have HT3 := hid' (HT2.out.below b3)
  have HB3 := hid' (Below.more HB2.out b3)
  have HSZ := hid' b3.size
  have HLN := hid' (show (Orc.enc Orc.shT).length ≤ 100000000 from Nat.le_trans (Orc.enc_len (Orc.tagged_fits Orc.sh_fits _)) (by omega))
  obtain ⟨p3, c3, rfl⟩ := o3.reads.len
  clear o3 b3
  go_wp2_with fail
  refine (takeF_any fr w.heap.size tb mb Q2 _ (Orc.enc Orc.shT) 5 w3 HT3.out HB3.out.size HP.out (Or.inl HO3.out.reads) HLN.out (keys_below hk HB3.out) (HG.out.below HB3.out)).mono ?_
  rintro e w4 ⟨rfl, Q4, hQ4, ht4, ho4, hf4⟩
  rw [HQ2.out] at hQ4 ⊢
  rw [Orc.sh_take1.2.2] at hQ4
  rw [Orc.sh_take1.1, Orc.sh_take1.2.1]
  have HT4 := hid' ht4
  have HQ4 := hid' hQ4
  have HB4 := hid' (HB3.out.trans (ho4.to_below (fun k hk => (HT3.out.foot hk).1) HB3.out.size))
  have HO4 := hid' (HO3.out.only ho4 (fun k hk => (HT2.out.foot hk).2))
  have HZ4 := hid' ho4.size
  clear ht4 ho4 hf4 hQ4 HO3 HT3 HB3 HT2 HB2
  have hbt : Below w4.heap.size w4 (w4.alloc (.cells #[.string Orc.shT.feed, .int .i64 Orc.shT.day, .int .i64 Orc.shT.n, .int .i64 Orc.shT.seq, .string Orc.shT.tag] 23)) := (Below.refl _ _).alloc (Nat.le_refl _) _
  have HX5 := hid' (TipBox.new w4 Orc.shT)
  have HT5 := hid' (HT4.out.below hbt)
  have HB5 := hid' (Below.more HB4.out hbt)
  have HO5 := hid' (HO4.out.below hbt)
  clear hbt
  go_upto_region 5 with (fail)
  obtain ⟨xb, hxb⟩ : ∃ xb, xb = w4.heap.size := ⟨_, rfl⟩
  have HXB := hid' hxb
  rw [← hxb] at HX5 ⊢
  clear hxb
  generalize w4.alloc (.cells #[.string Orc.shT.feed, .int .i64 Orc.shT.day, .int .i64 Orc.shT.n, .int .i64 Orc.shT.seq, .string Orc.shT.tag] 23) = w5 at *
  go_wp2_with fail
  refine (takeF_any fr w.heap.size tb mb Q4 _ (Orc.enc Orc.shT) 5 w5 HT5.out HB5.out.size HP.out (Or.inl HO5.out.reads) HLN.out (keys_below hk HB5.out) (HG.out.below HB5.out)).mono ?_
  rintro e w6 ⟨rfl, Q6, hQ6, ht6, ho6, hf6⟩
  rw [HQ4.out] at hQ6 ⊢
  rw [Orc.sh_take2.2] at hQ6
  rw [Orc.sh_take2.1]
  have HB6 := hid' (HB5.out.trans (ho6.to_below (fun k hk => (HT5.out.foot hk).1) HB5.out.size))
  have hx6 : TipBox w6 xb Orc.shT := block_only HX5.out ho6 (fun hF => by have := (HT4.out.foot hF).2; have := HXB.out; omega)
  generalize hT6 : Orc.tfTip [⟨Orc.eurB, Orc.kB, 1, [(5, 1500000)]⟩] (Orc.enc Orc.shT) 5 = T6 at *
  have hbt : Below w6.heap.size w6 (w6.alloc (.cells #[.string T6.feed, .int .i64 T6.day, .int .i64 T6.n, .int .i64 T6.seq, .string T6.tag] 23)) := (Below.refl _ _).alloc (Nat.le_refl _) _
  have HX7 := hid' (hx6.below hbt)
  have HT7 := hid' (ht6.below hbt)
  have HB7 := hid' (Below.more HB6.out hbt)
  have HSQ := hid' (show seqOf Q6 Orc.eurB = 1 by rw [seqOf_is hQ6]; rfl)
  clear hbt hx6 ho6 hf6 ht6 hQ6 HB6 HB5 HB4 HT4 HT5 HO4 HO5 HX5
  go_upto_region 6 with (fail)
  generalize w6.alloc (.cells #[.string T6.feed, .int .i64 T6.day, .int .i64 T6.n, .int .i64 T6.seq, .string T6.tag] 23) = w7 at *
  obtain ⟨x0, x1, x2, x3, x4, _⟩ := HX7.out.cells
  replace x2 : w7.cell? ⟨xb, 2, none⟩ = some (.int .i64 1500000) := x2
  go_wp2_with fail
  refine (seq_any w.heap.size tb mb Q6 Orc.eurB w7 HT7.out (by decide)).mono ?_
  rintro e w8 ⟨rfl, rfl⟩
  rw [HSQ.out]
  go_wp2_with fail
  go_ret
  exact ⟨rfl, HB7.out⟩
end Go.Proofs.YtmddaomchhigbaaGreatDoor

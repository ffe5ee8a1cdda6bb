/- Proved: MacSums, MacParts and MacKeys as contracts: each returns true and writes nothing that was there. Conditions: at most 10,000,000 parts and bytes, the table mac.keys in place. -/
import Derived.Test.YthhmedpafjdocaaDoorMacLaws
import Derived.Lib.ConvBytes
import Derived.Lib.AtoiErrMem
namespace Go.Proofs.YthhmedpafjdocaaDoor
open Go.RowKit
set_option linter.unusedVariables false

/-- '[]byte(s)'. -/
theorem bytes_of_text (w : World) (s : ByteArray) (hs : s.size ≤ 140737488355328) : ∃ v w', (convert 9 25 (.string s)).run Tryd.prog w = .ok v w' ∧ Reads w' v (Sha.nums s) ∧ Below w.heap.size w w' := by
  refine ⟨_, _, Lib.run_convert_string_bytes w 9 25 5 (u := .string) s Tryd.underlying9 Tryd.underlying25 Tryd.underlying5, Or.inr ⟨w.heap.size, 0, grownCap w s.size 0 5, ?_, ?_, ?_, ?_, fun i hi => ?_⟩, Lib.bytesWorld_below _ _ _⟩
  · rw [Sha.nums_length]
  · rw [Lib.bytesWorld_size]
    omega
  · rw [Sha.nums_length]
    exact grownCap_ge _ _ _ _
  · exact grownCap_le_maxLen _ _ _ _ (by unfold maxLen; omega)
  · rw [Sha.nums_length] at hi
    rw [Nat.zero_add, Lib.bytesWorld_cell w 5 s i hi]
    simp [Sha.nums, List.getD_eq_getElem?_getD, hi]

set_option maxHeartbeats 1000000 in
theorem law_sums (fr : Nat × Nat × Nat) (w : World) (v : Value) (xs : List ByteArray) (hp : PartsAre w v xs) (hlen : (cat xs).size ≤ 10000000) (hk : Hid (Keys fr w)) :
    Calls Tryd.prog 3 #[v] w (True1 w) := by
  obtain ⟨a, c, rfl⟩ := hp.len
  have HP := hid' hp
  clear hp
  go_enter Tryd.func3, Tryd.ntmps3
  go_wp2_with fail
  refine (shown_any fr w hk).mono ?_
  rintro e w1 ⟨rfl, b1⟩
  go_wp2_with fail
  refine (sum_any fr w1 _ xs (HP.out.below b1) (by omega) (keys_below hk b1)).mono ?_
  rintro e w2 ⟨rfl, b2⟩
  have b12 := b1.trans (b2.mono b1.size)
  generalize hq : strOfNums (Sha.sum (Sha.nums (cat xs))) = q
  have HQ := hid' hq
  clear hq
  go_wp2_with fail
  refine (joined_any w2 _ xs (HP.out.below b12) (by omega)).mono ?_
  rintro e w3 ⟨rfl, b3⟩
  obtain ⟨v4, w4, hcv, R4, b4⟩ := bytes_of_text w3 (cat xs) (by omega)
  have b34 := b12.trans (b3.mono b12.size)
  have b35 := b34.trans (b4.mono b34.size)
  clear b1 b2 b3 b4 b12 b34
  have HL := hid' hlen
  clear hlen
  generalize hnn : Sha.nums (cat xs) = l at *
  have hl : l.length = (cat xs).size := by rw [← hnn, Sha.nums_length]
  have hby : ∀ x ∈ l, 0 ≤ x ∧ x ≤ 255 := by rw [← hnn]; exact fun x hx => Sha.nums_byte _ x hx
  have HB := hid' hby
  have HLL := hid' hl
  clear hnn hby hl
  generalize cat xs = u at *
  go_wp2_with fail
  refine (refsum_any w4 v4 l R4 (by have := HL.out; have := HLL.out; omega) HB.out).mono ?_
  rintro e w5 ⟨v5, rfl, b5, O5⟩
  have hcv5 := O5.conv
  rw [HQ.out] at hcv5
  have b56 := b35.trans (b5.mono b35.size)
  clear hcv R4 O5 b35 b5
  go_wp2_with fail
  go_ret
  exact ⟨rfl, b56⟩

set_option maxHeartbeats 1000000 in
theorem law_parts (fr : Nat × Nat × Nat) (key : ByteArray) (w : World) (v : Value) (xs : List ByteArray) (hp : PartsAre w v xs) (hkl : key.size ≤ 10000000) (hx : xs.length ≤ 10000000) (hlen : (cat xs).size ≤ 10000000) (hk : Hid (Keys fr w)) :
    Calls Tryd.prog 5 #[.string key, v] w (True1 w) := by
  obtain ⟨a, c, rfl⟩ := hp.len
  have HP := hid' hp
  clear hp
  go_enter Tryd.func5, Tryd.ntmps5
  go_wp2_with fail
  refine (shown_any fr w hk).mono ?_
  rintro e w1 ⟨rfl, b1⟩
  go_wp2_with fail
  refine (joined_any w1 _ xs (HP.out.below b1) (by omega)).mono ?_
  rintro e w2 ⟨rfl, b2⟩
  have b12 := b1.trans (b2.mono b1.size)
  have hc1 : Sha.nums (cat [cat xs]) = Sha.nums (cat xs) := cat_one _
  have hz1 : (cat [cat xs]).size = (cat xs).size := by rw [← Sha.nums_length, hc1, Sha.nums_length]
  have HC1 := hid' hc1
  have HZ1 := hid' hz1
  have HL := hid' hlen
  have HSZ1 := hid' (show (strOfNums (Sha.sum (Sha.nums (cat xs)))).size = 32 by rw [strOfNums_size, Sha.sum_length])
  have HSZ2 := hid' (show (strOfNums (Sha.tag (Sha.nums key) (Sha.nums (cat xs)))).size = 32 by rw [strOfNums_size, Sha.tag_length])
  clear hc1 hz1 hlen
  go_wp2_with fail
  refine (sum_any fr w2 _ xs (HP.out.below b12) (by have := HL.out; omega) (keys_below hk b12)).mono ?_
  rintro e w3 ⟨rfl, b3⟩
  have b13 := b12.trans (b3.mono b12.size)
  generalize hq : strOfNums (Sha.sum (Sha.nums (cat xs))) = q at *
  have HQ := hid' hq
  clear hq b12 b1 b2 b3
  go_wp2_with fail
  refine (tag_any fr w3 key _ xs (HP.out.below b13) (by omega) (by omega) (by have := HL.out; omega) (keys_below hk b13)).mono ?_
  rintro e w4 ⟨rfl, b4⟩
  have b14 := b13.trans (b4.mono b13.size)
  generalize hq2 : strOfNums (Sha.tag (Sha.nums key) (Sha.nums (cat xs))) = q2 at *
  have HQ2 := hid' hq2
  clear hq2 b13 b4
  generalize hal : cat xs = al at *
  have hsz1 := HSZ1.out
  have hsz2 := HSZ2.out
  have ba := b14.alloc b14.size (.cells #[.string al] 9)
  go_wp2_with fail
  refine (sum_any fr _ _ [al] (parts_one w4 al) (by have := HL.out; have := HZ1.out; omega) (keys_below hk ba)).mono ?_
  rintro e w5 ⟨rfl, b5⟩
  have b15 := ba.trans (b5.mono ba.size)
  rw [HC1.out, HQ.out]
  clear ba b5 b14
  have ba := b15.alloc b15.size (.cells #[.string al] 9)
  go_wp2_with fail
  refine (tag_any fr _ key _ [al] (parts_one w5 al) (by omega) (by simp) (by have := HL.out; have := HZ1.out; omega) (keys_below hk ba)).mono ?_
  rintro e w6 ⟨rfl, b6⟩
  have b16 := ba.trans (b6.mono ba.size)
  rw [HC1.out, HQ2.out]
  clear ba b6 b15
  go_wp2_with fail
  go_ret
  exact ⟨rfl, b16⟩

theorem key_nought (key : ByteArray) (h : key.size < 64) (b : Int) : Sha.pad (Sha.key (Sha.nums (key ++ ⟨#[0]⟩))) b = Sha.pad (Sha.key (Sha.nums key)) b := by
  have e1 : Sha.nums (key ++ ⟨#[0]⟩) = Sha.nums key ++ [0] := by
    simp [Sha.nums]
  have l1 : (Sha.nums key).length = key.size := Sha.nums_length key
  rw [Sha.key, Sha.key, e1, if_neg (by simp [l1]; omega), if_neg (by omega), Sha.pad, Sha.pad]
  apply List.map_congr_left
  intro i _
  congr 1
  rw [List.getD_eq_getElem?_getD, List.getD_eq_getElem?_getD, List.getElem?_append]
  split
  · rfl
  · rename_i hi
    rw [List.getElem?_eq_none (l := Sha.nums key) (by omega)]
    cases hj : i - (Sha.nums key).length <;> simp
theorem tag_nought (key : ByteArray) (h : key.size < 64) (l : List Int) : Sha.tag (Sha.nums (key ++ ⟨#[0]⟩)) l = Sha.tag (Sha.nums key) l := by
  unfold Sha.tag
  rw [key_nought key h, key_nought key h]
theorem tag_summed (key : ByteArray) (h : 64 < key.size) (l : List Int) : Sha.tag (Sha.nums (strOfNums (Sha.sum (Sha.nums key)))) l = Sha.tag (Sha.nums key) l := by
  have e : Sha.key (Sha.nums (strOfNums (Sha.sum (Sha.nums key)))) = Sha.key (Sha.nums key) := by
    have e2 : Sha.key (Sha.nums key) = Sha.sum (Sha.nums key) := by rw [Sha.key, if_pos (by rw [Sha.nums_length]; omega)]
    rw [key_long key h, e2, Sha.key, if_neg (by rw [Sha.sum_length]; omega)]
  unfold Sha.tag
  rw [e]

set_option maxHeartbeats 1000000 in
theorem law_keys (fr : Nat × Nat × Nat) (key s : ByteArray) (w : World) (hkl : key.size ≤ 10000000) (hs : s.size ≤ 10000000) (hk : Hid (Keys fr w)) :
    Calls Tryd.prog 6 #[.string key, .string s] w (True1 w) := by
  have hc1 : Sha.nums (cat [s]) = Sha.nums s := cat_one _
  have hz1 : (cat [s]).size = s.size := by rw [← Sha.nums_length, hc1, Sha.nums_length]
  have HC1 := hid' hc1
  have HZ1 := hid' hz1
  clear hc1 hz1
  have hcase : 64 < key.size ∨ key.size = 64 ∨ key.size < 64 := by omega
  have HCASE := hid' hcase
  clear hcase
  go_enter Tryd.func6, Tryd.ntmps6
  go_wp2_with fail
  refine (shown_any fr w hk).mono ?_
  rintro e w1 ⟨rfl, b1⟩
  have ba := b1.alloc b1.size (.cells #[.string s] 9)
  go_wp2_with fail
  refine (tag_any fr _ key _ [s] (parts_one w1 s) (by omega) (by simp) (by have := HZ1.out; omega) (keys_below hk ba)).mono ?_
  rintro e w2 ⟨rfl, b2⟩
  have b12 := ba.trans (b2.mono ba.size)
  rw [HC1.out]
  rcases HCASE.out with h64 | h64 | h64
  · have HT := hid' (tag_summed key h64 (Sha.nums s))
    have hz : (strOfNums (Sha.sum (Sha.nums key))).size ≤ 10000000 := by rw [strOfNums_size, Sha.sum_length]; omega
    generalize hq : strOfNums (Sha.tag (Sha.nums key) (Sha.nums s)) = q at *
    have HQ := hid' hq
    clear hq
    have h64' : (64 : Int) < (key.size : Int) := by omega
    have PK := hid' (parts_one w2 key)
    have bk := b12.alloc b12.size (.cells #[.string key] 9)
    clear b1 b2 ba b12 HCASE
    go_wp2_with fail
    refine (sum_any fr _ _ [key] PK.out (by rw [cat_size, cat_one, Sha.nums_length]; omega) (keys_below hk bk)).mono ?_
    rintro e w3 ⟨rfl, b3⟩
    have b23 := bk.trans (b3.mono bk.size)
    rw [cat_one]
    generalize strOfNums (Sha.sum (Sha.nums key)) = key2 at *
    clear bk b3 PK
    have ba := b23.alloc b23.size (.cells #[.string s] 9)
    go_wp2_with fail
    refine (tag_any fr _ key2 _ [s] (parts_one w3 s) (by omega) (by simp) (by have := HZ1.out; omega) (keys_below hk ba)).mono ?_
    rintro e w4 ⟨rfl, b4⟩
    have b34 := ba.trans (b4.mono ba.size)
    rw [HC1.out, HT.out, HQ.out]
    clear ba b4
    go_wp2_with fail
    go_ret
    exact ⟨rfl, b34⟩
  · generalize strOfNums (Sha.tag (Sha.nums key) (Sha.nums s)) = q at *
    have h64' : ¬ (64 : Int) < (key.size : Int) := by omega
    have h65 : (key.size : Int) = 64 := by omega
    clear b1 b2 ba HCASE
    go_wp2_with fail
    go_ret
    exact ⟨rfl, b12⟩
  · have HT := hid' (tag_nought key h64 (Sha.nums s))
    generalize hq : strOfNums (Sha.tag (Sha.nums key) (Sha.nums s)) = q at *
    have HQ := hid' hq
    clear hq
    have h64' : ¬ (64 : Int) < (key.size : Int) := by omega
    have h65 : ¬ (key.size : Int) = 64 := by omega
    have hz : (key ++ ⟨#[0]⟩ : ByteArray).size ≤ 10000000 := by rw [ByteArray.size_append]; show key.size + 1 ≤ _; omega
    clear b1 b2 ba HCASE
    go_wp2_with fail
    have ba := b12.alloc b12.size (.cells #[.string s] 9)
    refine (tag_any fr _ _ _ [s] (parts_one w2 s) (by omega) (by simp) (by have := HZ1.out; omega) (keys_below hk ba)).mono ?_
    rintro e w4 ⟨rfl, b4⟩
    have b34 := ba.trans (b4.mono ba.size)
    rw [HC1.out, HT.out, HQ.out]
    clear ba b4
    go_wp2_with fail
    go_ret
    exact ⟨rfl, b34⟩
end Go.Proofs.YthhmedpafjdocaaDoor

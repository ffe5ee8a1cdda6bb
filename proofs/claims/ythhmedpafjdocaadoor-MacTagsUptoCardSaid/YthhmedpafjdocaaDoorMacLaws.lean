/- Proved: the six laws of layer 5 as contracts: shown, MacHex and MacBack return true and write nothing that was there. Conditions: texts of at most 10,000,000 bytes, the table mac.keys in place. -/
import Derived.Test.YthhmedpafjdocaaDoorMacRefUnhex
import Derived.Test.YthhmedpafjdocaaDoorMacTag
import Derived.Test.YthhmedpafjdocaaDoorMacRef
namespace Go.Proofs.YthhmedpafjdocaaDoor
open Go.RowKit
set_option linter.unusedVariables false

def True1 (w : World) (e : Ending) (w' : World) : Prop := e = .returned (.bool true) ∧ Below w.heap.size w w'
theorem parts_one (w : World) (s : ByteArray) : PartsAre (w.alloc (.cells #[.string s] 9)) (.slice (some ⟨w.heap.size, 0, none⟩) 1 1) [s] := OwnsS.parts (OwnsS.lit [s] (Nat.le_refl _) (by simp)) (by simp)
theorem cat_one (s : ByteArray) : Sha.nums (cat [s]) = Sha.nums s := by rw [cat_cons, cat_nil, List.append_nil]
theorem keys_below {fr : Nat × Nat × Nat} {w w' : World} (hk : Hid (Keys fr w)) (hb : Below w.heap.size w w') : Hid (Keys fr w') := (hb.block _ hk.out.lt).trans hk.out

theorem abc_sum : Sha.nums (cat [⟨#[97, 98, 99]⟩]) = [97, 98, 99] := by decide
theorem shown_text : strOfNums (Sha.hex (Sha.sum [97, 98, 99])) = ⟨#[98, 97, 55, 56, 49, 54, 98, 102, 56, 102, 48, 49, 99, 102, 101, 97, 52, 49, 52, 49, 52, 48, 100, 101, 53, 100, 97, 101, 50, 50, 50, 51, 98, 48, 48, 51, 54, 49, 97, 51, 57, 54, 49, 55, 55, 97, 57, 99, 98, 52, 49, 48, 102, 102, 54, 49, 102, 50, 48, 48, 49, 53, 97, 100]⟩ := by
  decide +kernel

set_option maxHeartbeats 1000000 in
theorem shown_any (fr : Nat × Nat × Nat) (w : World) (hk : Hid (Keys fr w)) : Calls Tryd.prog 9 #[] w (True1 w) := by
  have b0 : Below w.heap.size w (w.alloc (.cells #[.string ⟨#[97, 98, 99]⟩] 9)) := (Below.refl _ _).alloc (Nat.le_refl _) _
  have HP := hid' (parts_one w ⟨#[97, 98, 99]⟩)
  go_enter Tryd.func9, Tryd.ntmps9
  go_wp2_with fail
  refine (sum_any fr _ _ _ HP.out (by decide) (keys_below hk b0)).mono ?_
  rintro e w1 ⟨rfl, b1⟩
  have b1' : Below w.heap.size w w1 := b0.trans (b1.mono (by simp))
  have hn : Sha.nums (strOfNums (Sha.sum (Sha.nums (cat [⟨#[97, 98, 99]⟩])))) = Sha.sum (Sha.nums (cat [⟨#[97, 98, 99]⟩])) := nums_strOfNums _ (Sha.sum_byte _)
  have hsz : (strOfNums (Sha.sum (Sha.nums (cat [⟨#[97, 98, 99]⟩])))).size = 32 := by rw [strOfNums_size, Sha.sum_length]
  have HT := hid' shown_text
  rw [abc_sum] at hn hsz ⊢
  generalize strOfNums (Sha.sum [97, 98, 99]) = q at *
  have HN := hid' hn
  clear hn b0 b1 HP
  go_wp2_with fail
  refine (hex_any q w1 (by omega)).mono ?_
  rintro e w2 ⟨rfl, b2⟩
  rw [HN.out, HT.out]
  go_wp2_with fail
  go_ret
  exact ⟨rfl, b1'.trans (b2.mono b1'.size)⟩

set_option maxHeartbeats 1000000 in
theorem law_hex (fr : Nat × Nat × Nat) (s t : ByteArray) (w : World) (hs : s.size ≤ 10000000) (ht : t.size ≤ 10000000) (hk : Hid (Keys fr w)) :
    Calls Tryd.prog 7 #[.string s, .string t] w (True1 w) := by
  go_enter Tryd.func7, Tryd.ntmps7
  go_wp2_with fail
  refine (shown_any fr w hk).mono ?_
  rintro e w1 ⟨rfl, b1⟩
  go_wp2_with fail
  refine (unhex_any t w1 (by omega)).mono ?_
  rintro e w2 ⟨rfl, b2⟩
  generalize hu1 : strOfNums ((Sha.unhexs (Sha.nums t)).getD []) = u1
  generalize hu2 : (Sha.unhexs (Sha.nums t)).isSome = u2
  have HU1 := hid' hu1
  have HU2 := hid' hu2
  clear hu1 hu2
  go_wp2_with fail
  refine (refunhex_any t w2 (by omega)).mono ?_
  rintro e w3 ⟨rfl, b3⟩
  rw [HU1.out, HU2.out]
  go_wp2_with fail
  refine (hex_any s w3 (by omega)).mono ?_
  rintro e w4 ⟨rfl, b4⟩
  generalize hh : strOfNums (Sha.hex (Sha.nums s)) = h1
  have HH := hid' hh
  clear hh
  go_wp2_with fail
  refine (refhex_any s w4 (by omega)).mono ?_
  rintro e w5 ⟨rfl, b5⟩
  rw [HH.out]
  go_wp2_with fail
  go_ret
  exact ⟨rfl, ((((b1.trans (b2.mono b1.size)).trans (b3.mono (Nat.le_trans b1.size b2.size))).trans (b4.mono (Nat.le_trans b1.size (Nat.le_trans b2.size b3.size)))).trans (b5.mono (Nat.le_trans b1.size (Nat.le_trans b2.size (Nat.le_trans b3.size b4.size)))))⟩

/-! What was written as digits. -/
theorem val_digit (n : Int) (h0 : 0 ≤ n) (h1 : n < 16) : Sha.val (Sha.digit n) = n := by
  unfold Sha.digit
  split
  · rw [Sha.val, if_pos (by omega)]; omega
  · rw [Sha.val, if_neg (by omega), if_pos (by omega)]; omega
theorem digit_val (a : Int) (h : 0 ≤ Sha.val a) : Sha.digit (Sha.val a) = a := by
  unfold Sha.val at h ⊢
  split at h
  · rw [if_pos ‹_›, Sha.digit, if_pos (by omega)]; omega
  · split at h
    · rw [if_neg ‹_›, if_pos ‹_›, Sha.digit, if_neg (by omega)]; omega
    · omega
theorem unhexs_hex : ∀ (l : List Int), (∀ x ∈ l, 0 ≤ x ∧ x ≤ 255) → Sha.unhexs (Sha.hex l) = some l
  | [], _ => rfl
  | x :: l, h => by
    have hx := h x (by simp)
    have ih := unhexs_hex l (fun y hy => h y (by simp [hy]))
    rw [show Sha.hex (x :: l) = Sha.digit (x / 16) :: Sha.digit (x % 16) :: Sha.hex l from rfl, Sha.unhexs, val_digit _ (by omega) (by omega), val_digit _ (by omega) (by omega), if_neg (by omega), ih]
    simp only [Option.map_some]
    congr 2
    omega
theorem hex_unhexs : ∀ (l m : List Int), Sha.unhexs l = some m → Sha.hex m = l ∧ ∀ x ∈ m, 0 ≤ x ∧ x ≤ 255
  | [], m, h => by
    simp [Sha.unhexs] at h
    subst h
    exact ⟨rfl, by simp⟩
  | [_], m, h => by simp [Sha.unhexs] at h
  | a :: b :: r, m, h => by
    rw [Sha.unhexs] at h
    split at h
    · simp at h
    · rename_i hab
      cases hr : Sha.unhexs r with
      | none => rw [hr] at h; simp at h
      | some m' =>
        rw [hr] at h
        simp only [Option.map_some, Option.some.injEq] at h
        subst h
        have ih := hex_unhexs r m' hr
        have va := val_range a
        have vb := val_range b
        refine ⟨?_, ?_⟩
        · rw [show Sha.hex ((16 * Sha.val a + Sha.val b) :: m') = Sha.digit ((16 * Sha.val a + Sha.val b) / 16) :: Sha.digit ((16 * Sha.val a + Sha.val b) % 16) :: Sha.hex m' from rfl,
            show (16 * Sha.val a + Sha.val b) / 16 = Sha.val a by omega, show (16 * Sha.val a + Sha.val b) % 16 = Sha.val b by omega, digit_val a (by omega), digit_val b (by omega), ih.1]
        · intro x hx
          simp only [List.mem_cons] at hx
          rcases hx with rfl | hx
          · omega
          · exact ih.2 x hx
theorem unhexs_length : ∀ (l m : List Int), Sha.unhexs l = some m → m.length ≤ l.length
  | [], m, h => by
    simp [Sha.unhexs] at h
    subst h
    simp
  | [_], m, h => by simp [Sha.unhexs] at h
  | a :: b :: r, m, h => by
    rw [Sha.unhexs] at h
    split at h
    · simp at h
    · cases hr : Sha.unhexs r with
      | none => rw [hr] at h; simp at h
      | some m' =>
        rw [hr] at h
        simp only [Option.map_some, Option.some.injEq] at h
        subst h
        have := unhexs_length r m' hr
        simp
        omega

set_option maxHeartbeats 1000000 in
theorem law_back (fr : Nat × Nat × Nat) (s t : ByteArray) (w : World) (hs : s.size ≤ 10000000) (ht : t.size ≤ 10000000) (hk : Hid (Keys fr w)) :
    Calls Tryd.prog 8 #[.string s, .string t] w (True1 w) := by
  go_enter Tryd.func8, Tryd.ntmps8
  go_wp2_with fail
  refine (shown_any fr w hk).mono ?_
  rintro e w1 ⟨rfl, b1⟩
  go_wp2_with fail
  refine (hex_any s w1 (by omega)).mono ?_
  rintro e w2 ⟨rfl, b2⟩
  have hn : Sha.nums (strOfNums (Sha.hex (Sha.nums s))) = Sha.hex (Sha.nums s) := nums_strOfNums _ (hex_byte _ (fun x hx => Sha.nums_byte s x hx))
  have hz : (strOfNums (Sha.hex (Sha.nums s))).size ≤ 20000000 := by rw [strOfNums_size, hex_length, Sha.nums_length]; omega
  generalize strOfNums (Sha.hex (Sha.nums s)) = h1 at *
  have HN := hid' hn
  clear hn
  go_wp2_with fail
  refine (unhex_any h1 w2 (by omega)).mono ?_
  rintro e w3 ⟨rfl, b3⟩
  rw [HN.out, unhexs_hex _ (fun x hx => Sha.nums_byte s x hx)]
  rw [show strOfNums ((some (Sha.nums s)).getD []) = s from strOf_nums s, show (some (Sha.nums s)).isSome = true from rfl]
  go_wp2_with fail
  refine (unhex_any t w3 (by omega)).mono ?_
  rintro e w4 ⟨rfl, b4⟩
  have bb : Below w.heap.size w w4 := ((b1.trans (b2.mono b1.size)).trans (b3.mono (Nat.le_trans b1.size b2.size))).trans (b4.mono (Nat.le_trans b1.size (Nat.le_trans b2.size b3.size)))
  clear b1 b2 b3 b4
  cases hu : Sha.unhexs (Sha.nums t) with
  | none =>
    rw [show (none : Option (List Int)).isSome = false from rfl]
    go_wp2_with fail
    go_ret
    exact ⟨rfl, bb⟩
  | some m =>
    have hm := hex_unhexs _ _ hu
    have hl := unhexs_length _ _ hu
    rw [Sha.nums_length] at hl
    have hn2 : Sha.nums (strOfNums m) = m := nums_strOfNums _ hm.2
    have hz2 : (strOfNums m).size ≤ 10000000 := by rw [strOfNums_size]; omega
    rw [show (some m).isSome = true from rfl, show (some m).getD [] = m from rfl]
    generalize strOfNums m = u at *
    have HM := hid' hm
    have HN2 := hid' hn2
    clear hm hn2 hu hl
    go_wp2_with fail
    refine (hex_any u w4 (by omega)).mono ?_
    rintro e w5 ⟨rfl, b5⟩
    rw [HN2.out, HM.out.1, strOf_nums]
    go_wp2_with fail
    go_ret
    exact ⟨rfl, bb.trans (b5.mono bb.size)⟩
end Go.Proofs.YthhmedpafjdocaaDoor

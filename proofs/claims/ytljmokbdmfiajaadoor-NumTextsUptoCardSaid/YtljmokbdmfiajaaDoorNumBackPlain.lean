/- Proved: what Show writes is read as the number that it was (plain words: parse of show' is the clamped number). -/
import Derived.Test.YtljmokbdmfiajaaDoorNumParse
namespace Go.Proofs.YtljmokbdmfiajaaDoor
set_option linter.unusedVariables false
namespace Num
open Go.RowKit
def dg (n : Nat) : UInt8 := UInt8.ofNat (48 + n % 10)
theorem dg_nat (n : Nat) : (dg n).toNat = 48 + n % 10 := by
  unfold dg
  rw [UInt8.toNat_ofNat']
  omega
theorem dg_isDig (n : Nat) : isDig (dg n) = true := by
  unfold isDig; rw [dg_nat]; simp; omega
theorem pre_list (n : Nat) (s : ByteArray) : (pre n s).data.toList = dg n :: s.data.toList := by
  unfold pre
  rw [ByteArray.data_append, Array.toList_append]
  rfl
/-- A number's digits. -/
def digs (n : Nat) : List UInt8 := if h : n < 10 then [dg n] else digs (n / 10) ++ [dg n]
termination_by n
theorem digs_lo {n : Nat} (h : n < 10) : digs n = [dg n] := by rw [digs, dif_pos h]
theorem digs_hi {n : Nat} (h : ¬ n < 10) : digs n = digs (n / 10) ++ [dg n] := by rw [digs, dif_neg h]
theorem decOnto_list (n : Nat) : ∀ s : ByteArray, (decOnto n s).data.toList = digs n ++ s.data.toList := by
  induction n using Nat.strongRecOn with
  | _ n ih =>
    intro s
    rw [decOnto]
    by_cases h : n < 10
    · rw [dif_pos h, digs_lo h, pre_list]; rfl
    · rw [dif_neg h, digs_hi h, ih _ (by omega), pre_list, List.append_assoc]; rfl
theorem digs_all' (n : Nat) : (digs n).all isDig = true := by
  induction n using Nat.strongRecOn with
  | _ n ih =>
    by_cases h : n < 10
    · rw [digs_lo h]; simp [dg_isDig]
    · rw [digs_hi h, List.all_append, ih _ (by omega)]; simp [dg_isDig]
theorem digs_val (n : Nat) : valFrom 0 (digs n) = n := by
  induction n using Nat.strongRecOn with
  | _ n ih =>
    by_cases h : n < 10
    · rw [digs_lo h]
      show 10 * 0 + ((dg n).toNat - 48) = n
      rw [dg_nat]; omega
    · rw [digs_hi h, valFrom_append, ih _ (by omega)]
      show 10 * (n / 10) + ((dg n).toNat - 48) = n
      rw [dg_nat]; omega
theorem digs_ne (n : Nat) : digs n ≠ [] := by
  by_cases h : n < 10
  · rw [digs_lo h]; simp
  · rw [digs_hi h]; simp
theorem digs_len (k : Nat) : ∀ n, n < 10 ^ (k + 1) → (digs n).length ≤ k + 1 := by
  induction k with
  | zero => intro n h; rw [digs_lo (by simpa using h)]; simp
  | succ k ih =>
    intro n h
    by_cases h1 : n < 10
    · rw [digs_lo h1]; simp
    · rw [digs_hi h1, List.length_append]
      have := ih (n / 10) (by rw [Nat.pow_succ] at h; omega)
      simp; omega
theorem digs_head (n : Nat) (h1 : 1 ≤ n) : (digs n).head? ≠ some 48 := by
  induction n using Nat.strongRecOn with
  | _ n ih =>
    by_cases h : n < 10
    · rw [digs_lo h]
      simp only [List.head?_cons, ne_eq, Option.some.injEq]
      intro e
      have := congrArg UInt8.toNat e
      rw [dg_nat] at this
      simp at this
      omega
    · have h2 := ih (n / 10) (by omega) (by omega)
      rw [digs_hi h]
      cases hd : digs (n / 10) with
      | nil => exact absurd hd (digs_ne _)
      | cons c t => rw [hd] at h2; exact h2
theorem digs_good (n : Nat) (h : n ≤ 1000000000) : badWhole (digs n) = false := by
  have h1 : isDigs (digs n) = true := by
    unfold isDigs
    rw [digs_all' n]
    have := digs_ne n
    cases hd : digs n with
    | nil => exact absurd hd this
    | cons a l => rfl
  have h2 := digs_len 9 n (by omega)
  unfold badWhole
  rw [h1, decide_eq_false (by omega)]
  by_cases h3 : 1 < (digs n).length
  · have h4 : 1 ≤ n := by
      refine Decidable.byContradiction fun hc => ?_
      rw [digs_lo (by omega)] at h3
      simp at h3
    have := digs_head n h4
    rw [decide_eq_true h3]
    simpa using this
  · rw [decide_eq_false h3]; rfl
/-- The lowest digits, so many. -/
theorem go1_list (x : Nat) : ∀ i m, valFrom m (go1 x i).1.data.toList = m * 10 ^ i + x % 10 ^ i ∧ (go1 x i).1.data.toList.all isDig = true ∧ (go1 x i).2 = x / 10 ^ i := by
  intro i
  induction i with
  | zero => intro m; exact ⟨by rw [Nat.pow_zero, Nat.mod_one, Nat.mul_one]; rfl, rfl, by rw [Nat.pow_zero, Nat.div_one]; rfl⟩
  | succ i ih =>
    intro m
    have e2 := (ih 0).2.2
    refine ⟨?_, ?_, ?_⟩
    · show valFrom m (pre (go1 x i).2 (go1 x i).1).data.toList = _
      rw [pre_list, e2]
      show valFrom (10 * m + ((dg (x / 10 ^ i)).toNat - 48)) (go1 x i).1.data.toList = _
      rw [(ih _).1, dg_nat, Nat.mod_pow_succ, Nat.pow_succ, show 48 + x / 10 ^ i % 10 - 48 = x / 10 ^ i % 10 by omega, Nat.add_mul]
      have : 10 * m * 10 ^ i = m * (10 ^ i * 10) := by rw [Nat.mul_comm 10 m, Nat.mul_assoc, Nat.mul_comm 10]
      have e3 : x / 10 ^ i % 10 * 10 ^ i = 10 ^ i * (x / 10 ^ i % 10) := Nat.mul_comm _ _
      omega
    · show (pre (go1 x i).2 (go1 x i).1).data.toList.all isDig = true
      rw [pre_list, List.all_cons, (ih 0).2.1]
      rw [show isDig (dg (go1 x i).2) = true from dg_isDig _]; rfl
    · show (go1 x i).2 / 10 = _
      rw [e2, Nat.div_div_eq_div_mul, Nat.pow_succ]
theorem trim_noughts (l : List UInt8) : ∃ k, l = Lib.trimRightB l 48 ++ noughts k ∧ k + (Lib.trimRightB l 48).length = l.length := by
  unfold Lib.trimRightB noughts
  have h := List.takeWhile_append_dropWhile (p := fun x : UInt8 => x == 48) (l := l.reverse)
  have h2 : ∀ m : List UInt8, m.takeWhile (fun x : UInt8 => x == 48) = List.replicate (m.takeWhile (fun x : UInt8 => x == 48)).length 48 := by
    intro m
    rw [List.eq_replicate_iff]
    refine ⟨rfl, fun b hb => ?_⟩
    have := List.all_takeWhile (p := fun x : UInt8 => x == 48) (l := m)
    rw [List.all_eq_true] at this
    simpa using this b hb
  refine ⟨(l.reverse.takeWhile (fun x : UInt8 => x == 48)).length, ?_, ?_⟩
  · have h3 := congrArg List.reverse h
    rw [List.reverse_append, List.reverse_reverse, h2, List.reverse_replicate] at h3
    rw [h3]
  · have h3 := congrArg List.length h
    rw [List.length_append, List.length_reverse] at h3
    rw [List.length_reverse]
    exact h3
theorem index46_none (l : List UInt8) (h : l.all isDig = true) : Lib.index l [46] = -1 := by
  rw [Lib.index_one]
  induction l with
  | nil => rfl
  | cons c l ih =>
    simp only [List.all_cons, Bool.and_eq_true] at h
    have hc : (c == 46) = false := by
      rw [beq_eq_false_iff_ne]
      intro e
      subst e
      exact absurd h.1 (by decide)
    rw [Lib.indexByte, hc, ih h.2]; rfl
theorem index46_at (l t : List UInt8) (h : l.all isDig = true) : Lib.index (l ++ 46 :: t) [46] = (l.length : Int) := by
  rw [Lib.index_one]
  induction l with
  | nil => rfl
  | cons c l ih =>
    simp only [List.all_cons, Bool.and_eq_true] at h
    have hc : (c == 46) = false := by
      rw [beq_eq_false_iff_ne]
      intro e
      subst e
      exact absurd h.1 (by decide)
    rw [List.cons_append, Lib.indexByte, hc, ih h.2]
    have : (((l.length : Nat) : Int) == -1) = false := by rw [beq_eq_false_iff_ne]; omega
    rw [this, List.length_cons]
    simp
theorem cut_digits (l : List UInt8) (h : l.all isDig = true) : Lib.cut l [46] = (l, [], false) := by
  unfold Lib.cut
  rw [index46_none l h, if_neg (by omega)]
theorem cut_point (l t : List UInt8) (h : l.all isDig = true) : Lib.cut (l ++ 46 :: t) [46] = (l, t, true) := by
  unfold Lib.cut
  rw [index46_at l t h, if_pos (by omega), Int.toNat_natCast, List.take_left, List.length_singleton, show l.length + 1 = (l ++ [46]).length by simp, show l ++ 46 :: t = (l ++ [46]) ++ t by simp, List.drop_left]
/-- A size's text in plain words. -/
theorem text_parse (x : Nat) (hx : x ≤ 1000000000000000) (below : Bool) :
    (let c := Lib.cut (text x).data.toList [46]; parts3 below c.1 c.2.1 c.2.2) = tell below x := by
  obtain ⟨g1, g2, g3⟩ := go1_list x 6 (x / 10 ^ 6)
  have hw : (go1 x 6).2 ≤ 1000000000 := by rw [g3]; omega
  have hv : x / 10 ^ 6 * 10 ^ 6 + x % 10 ^ 6 = x := by omega
  rw [hv] at g1
  rw [show text x = if tailOf (go1 x 6).1 = ⟨#[]⟩ then decOnto (go1 x 6).2 ⟨#[]⟩ else decOnto (go1 x 6).2 ⟨#[]⟩ ++ (⟨#[46]⟩ ++ tailOf (go1 x 6).1) from rfl]
  have hl : (go1 x 6).1.data.toList.length = 6 := by rw [Array.length_toList]; exact go1_size x 6
  obtain ⟨k, k1, k2⟩ := trim_noughts (go1 x 6).1.data.toList
  have ht : (tailOf (go1 x 6).1).data.toList = Lib.trimRightB (go1 x 6).1.data.toList 48 := by unfold tailOf; simp
  have hd : (decOnto (go1 x 6).2 ⟨#[]⟩).data.toList = digs (go1 x 6).2 := by rw [decOnto_list]; exact List.append_nil _
  rw [hl] at k2
  have hall : (Lib.trimRightB (go1 x 6).1.data.toList 48).all isDig = true := by
    rw [k1, List.all_append, Bool.and_eq_true] at g2
    exact g2.1
  have hval : valFrom 0 (digs (go1 x 6).2 ++ Lib.trimRightB (go1 x 6).1.data.toList 48 ++ noughts k) = x := by
    rw [List.append_assoc, ← k1, valFrom_append, digs_val, g3, g1]
  have hgood := digs_good _ hw
  have hda := digs_all' (go1 x 6).2
  by_cases h0 : tailOf (go1 x 6).1 = ⟨#[]⟩
  · rw [if_pos h0]
    rw [h0] at ht
    rw [← ht] at hval k2
    have hk : k = 6 := by simpa using k2
    subst hk
    rw [hd, cut_digits _ hda]
    show parts3 below (digs (go1 x 6).2) [] false = _
    unfold parts3
    rw [hgood]
    show tell below (valFrom 0 (digs (go1 x 6).2 ++ [] ++ noughts 6)) = _
    rw [show (⟨#[]⟩ : ByteArray).data.toList = [] from rfl] at hval
    rw [hval]
  · rw [if_neg h0]
    have hlist : (decOnto (go1 x 6).2 ⟨#[]⟩ ++ (⟨#[46]⟩ ++ tailOf (go1 x 6).1)).data.toList = digs (go1 x 6).2 ++ 46 :: Lib.trimRightB (go1 x 6).1.data.toList 48 := by
      rw [ByteArray.data_append, ByteArray.data_append, Array.toList_append, Array.toList_append, hd, ht]; rfl
    rw [hlist, cut_point _ _ hda]
    show parts3 below (digs (go1 x 6).2) (Lib.trimRightB (go1 x 6).1.data.toList 48) true = _
    have hne : Lib.trimRightB (go1 x 6).1.data.toList 48 ≠ [] := by
      intro e
      rw [← ht] at e
      apply h0
      cases hc : tailOf (go1 x 6).1
      rw [hc] at e
      simpa using e
    have hp : badPart (Lib.trimRightB (go1 x 6).1.data.toList 48) = false := by
      unfold badPart isDigs
      rw [hall, decide_eq_false (by omega)]
      cases hc : Lib.trimRightB (go1 x 6).1.data.toList 48 with
      | nil => exact absurd hc hne
      | cons a t => rfl
    unfold parts3
    rw [hgood, hp]
    show tell below (valFrom 0 (digs (go1 x 6).2 ++ Lib.trimRightB (go1 x 6).1.data.toList 48 ++ noughts (6 - (Lib.trimRightB (go1 x 6).1.data.toList 48).length))) = _
    rw [show 6 - (Lib.trimRightB (go1 x 6).1.data.toList 48).length = k by omega, hval]
theorem text_head (x : Nat) : ∃ c t, (text x).data.toList = c :: t ∧ c ≠ 45 := by
  have h : ∀ n : Nat, ∃ c t, digs n = c :: t ∧ c ≠ 45 := by
    intro n
    have ha := digs_all' n
    cases hd : digs n with
    | nil => exact absurd hd (digs_ne n)
    | cons c t =>
      rw [hd] at ha
      simp only [List.all_cons, Bool.and_eq_true] at ha
      refine ⟨c, t, rfl, ?_⟩
      rintro rfl
      exact absurd ha.1 (by decide)
  have hd : ∀ y, (decOnto y ⟨#[]⟩).data.toList = digs y := fun y => by rw [decOnto_list]; exact List.append_nil _
  rw [show text x = if tailOf (go1 x 6).1 = ⟨#[]⟩ then decOnto (go1 x 6).2 ⟨#[]⟩ else decOnto (go1 x 6).2 ⟨#[]⟩ ++ (⟨#[46]⟩ ++ tailOf (go1 x 6).1) from rfl]
  obtain ⟨c, t, e, hc⟩ := h (go1 x 6).2
  split
  · exact ⟨c, t, by rw [hd, e], hc⟩
  · exact ⟨c, _, by rw [ByteArray.data_append, Array.toList_append, hd, e]; rfl, hc⟩
theorem parse_text (x : Nat) (hx : x ≤ 1000000000000000) : parse (text x).data.toList = tell false x := by
  obtain ⟨c, t, e, hc⟩ := text_head x
  have hp : Lib.hasPrefix (text x).data.toList [45] = false := by
    rw [e, Lib.hasPrefix]
    simp [List.isPrefixOf, Ne.symm hc]
  unfold parse
  rw [Lib.trimPrefix, hp]
  exact text_parse x hx false
theorem parse_minus (x : Nat) (hx : x ≤ 1000000000000000) : parse (45 :: (text x).data.toList) = tell true x := by
  have hp : Lib.hasPrefix (45 :: (text x).data.toList) [45] = true := by
    rw [Lib.hasPrefix]
    simp [List.isPrefixOf]
  unfold parse
  rw [Lib.trimPrefix, hp]
  exact text_parse x hx true
theorem minus_list (t : ByteArray) : ((⟨#[45]⟩ : ByteArray) ++ t).data.toList = 45 :: t.data.toList := by
  rw [ByteArray.data_append, Array.toList_append]; rfl
theorem parse_show (a : Int) : parse (show' a).data.toList = (clamp a, true) := by
  have a1 := clamp_le a
  have a2 := clamp_ge a
  unfold show'
  by_cases h : clamp a < 0
  · rw [if_pos h, minus_list, parse_minus _ (by omega), tell, if_neg (by omega)]
    rw [if_pos rfl]
    congr 1
    omega
  · rw [if_neg h, parse_text _ (by omega), tell, if_neg (by simp; omega)]
    rw [if_neg (by simp)]
    congr 1
    omega
theorem tell_in (b : Bool) (n : Nat) : -1000000000000000 ≤ (tell b n).1 ∧ (tell b n).1 ≤ 1000000000000000 := by
  unfold tell
  split
  · exact ⟨by simp, by simp⟩
  · cases b
    · simp; omega
    · simp; omega
theorem parse_in (l : List UInt8) : -1000000000000000 ≤ (parse l).1 ∧ (parse l).1 ≤ 1000000000000000 := by
  unfold parse parts3
  dsimp only
  split
  · exact ⟨by simp, by simp⟩
  · split
    · exact ⟨by simp, by simp⟩
    · exact tell_in _ _
end Num
end Go.Proofs.YtljmokbdmfiajaaDoor

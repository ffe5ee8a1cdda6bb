/- Proved: the reference's Digits and Show as contracts: Show answers the same text. No conditions. -/
import Derived.Test.YtljmokbdmfiajaaDoorNumBackPlain
import Derived.WalkSpells
import Derived.Laws.DeepStrings4
import Derived.Lib.IndexBytes
import Derived.Deep.DeepCutAuto
namespace Go.Proofs.YtljmokbdmfiajaaDoor
open Go.RowKit
set_option linter.unusedVariables false
open Num
namespace Num
theorem digit_ext (d : Nat) (h : d < 10) : (⟨#[48, 49, 50, 51, 52, 53, 54, 55, 56, 57]⟩ : ByteArray).extract d (d + 1) = ⟨#[UInt8.ofNat (48 + d)]⟩ := by
  have : ∀ d : Fin 10, (⟨#[48, 49, 50, 51, 52, 53, 54, 55, 56, 57]⟩ : ByteArray).extract d.val (d.val + 1) = ⟨#[UInt8.ofNat (48 + d.val)]⟩ := by decide +kernel
  exact this ⟨d, h⟩
end Num
def smeas (v : Value) : Nat := match v with | .string s => (if s.size = 0 then 1 else 0) | _ => 0
theorem smeas_pos (s : ByteArray) (h : 0 < s.size) : smeas (.string s) = 0 := by unfold smeas; simp only; rw [if_neg (by omega)]
theorem smeas_nil : smeas (.string ⟨#[]⟩) = 1 := rfl
set_option maxHeartbeats 1000000 in
theorem digits_any (y : Nat) (hy : y ≤ 1000000000000000000) (w : World) :
    Calls Tryd.prog 42 #[.int .i64 (y : Int)] w (Ret (.string (decOnto y ⟨#[]⟩)) w) := by
  have HR := hid' (show decOnto y ⟨#[]⟩ = decOnto y ⟨#[]⟩ from rfl)
  obtain ⟨dd, hdd⟩ : ∃ dd, Hid (dd = decOnto y ⟨#[]⟩) := ⟨_, rfl⟩
  rw [← hdd.out]
  go_enter Tryd.func42, Tryd.ntmps42
  go_wp2_with fail
  go_loop [0, 3] (fun vn vs => ∃ (n : Nat) (s : ByteArray), vn = .int .i64 (n : Int) ∧ vs = .string s ∧ n ≤ y ∧ Hid (DecAt y s n)) (fun vn vs => (intOf vn).toNat + smeas vs)
  case atStart => exact ⟨y, ⟨#[]⟩, rfl, rfl, Nat.le_refl _, DecAt.start y⟩
  case round =>
    obtain ⟨n, s, rfl, rfl, hny, HC⟩ := hrel
    have hb := HC.out.bound
    by_cases hgo : s.size = 0 ∨ 0 < n
    · have HC2 := hid' (HC.out.step hgo)
      have hx := digit_ext (n % 10) (by omega)
      have hpre : (⟨#[UInt8.ofNat (48 + n % 10)]⟩ : ByteArray) ++ s = pre n s := rfl
      have e4 : (n : Int).tmod 10 = (n : Int) % 10 := Int.tmod_eq_emod_of_nonneg (by omega)
      have hsum : ¬ (9223372036854775807 < (⟨#[UInt8.ofNat (48 + n % 10)]⟩ : ByteArray).size + s.size) := by show ¬ (9223372036854775807 < 1 + s.size); omega
      have hps := pre_size n s
      have hsm := smeas_pos (pre n s) (by omega)
      generalize (⟨#[UInt8.ofNat (48 + n % 10)]⟩ : ByteArray) = d at *
      rcases Nat.eq_zero_or_pos s.size with h0 | h0
      · obtain rfl : s = ⟨#[]⟩ := by cases s; simpa [ByteArray.size] using h0
        go_wp2_with fail
        go_round
        case rel => exact ⟨n / 10, pre n ⟨#[]⟩, by go_num, rfl, by omega, HC2⟩
        case measure => rw [smeas_nil, hsm]; simp [intOf]; omega
      · have hne : ¬ s = ⟨#[]⟩ := by rintro rfl; simp [ByteArray.size] at h0
        have hn : (0 : Int) < (n : Int) := by omega
        have hnl : s.toList.isEmpty = false := nonempty_list hne
        go_wp2_with fail
        go_round
        case rel => exact ⟨n / 10, pre n s, by go_num, rfl, by omega, HC2⟩
        case measure => rw [smeas_pos s h0, hsm]; simp [intOf]; omega
    · have hne : ¬ s = ⟨#[]⟩ := by rintro rfl; exact hgo (Or.inl rfl)
      obtain rfl : n = 0 := by omega
      have hnl : s.toList.isEmpty = false := nonempty_list hne
      have hd := hid' (HC.out.done hne)
      go_wp2_with fail
      go_ret
      exact ⟨by rw [hdd.out, ← hd.out]; rfl, rfl⟩
namespace Num
theorem val_zero (l : List UInt8) (ha : l.all isDig = true) (n : Nat) (h : valFrom n l = 0) : n = 0 ∧ l = noughts l.length := by
  induction l generalizing n with
  | nil => exact ⟨h, rfl⟩
  | cons c l ih =>
    simp only [List.all_cons, Bool.and_eq_true] at ha
    have h2 := ih ha.2 (10 * n + (c.toNat - 48)) h
    have hc : 48 ≤ c.toNat ∧ c.toNat ≤ 57 := by have := ha.1; unfold isDig at this; simpa using this
    have e : c = 48 := UInt8.toNat_inj.1 (by rw [show UInt8.toNat 48 = 48 from rfl]; omega)
    refine ⟨by omega, ?_⟩
    rw [List.length_cons, noughts, List.replicate_succ, e]
    congr 1
    exact h2.2
theorem trim_snoc (l : List UInt8) (c : UInt8) : Lib.trimRightB (l ++ [c]) 48 = if c = 48 then Lib.trimRightB l 48 else l ++ [c] := by
  unfold Lib.trimRightB
  rw [List.reverse_append, List.reverse_singleton, List.singleton_append, List.dropWhile_cons]
  by_cases h : c = 48
  · subst h; simp
  · rw [if_neg (by simpa using h), if_neg h]; simp
theorem trim_all (k : Nat) : Lib.trimRightB (noughts k) 48 = [] := by
  unfold Lib.trimRightB noughts
  rw [List.reverse_replicate]
  have : (List.replicate k (48 : UInt8)).dropWhile (fun x => x == 48) = [] := by
    rw [dropWhile_nil, List.all_replicate]; split <;> rfl
  rw [this]; rfl
theorem val_noughts (k : Nat) : valFrom 0 (noughts k) = 0 := by
  induction k with
  | zero => rfl
  | succ k ih => rw [noughts, List.replicate_succ]; exact ih
theorem tail_none (x : Nat) (h : x % 1000000 = 0) : tailOf (go1 x 6).1 = ⟨#[]⟩ := by
  obtain ⟨g1, g2, g3⟩ := go1_list x 6 0
  rw [show x % 10 ^ 6 = 0 from h, Nat.zero_mul] at g1
  have := (val_zero _ g2 0 g1).2
  unfold tailOf
  rw [this, trim_all]
theorem tail_some (x : Nat) (h : x % 1000000 ≠ 0) : Lib.trimRightB (go1 x 6).1.data.toList 48 ≠ [] := by
  obtain ⟨g1, g2, g3⟩ := go1_list x 6 0
  obtain ⟨k, k1, k2⟩ := trim_noughts (go1 x 6).1.data.toList
  intro e
  rw [e, List.nil_append] at k1
  rw [k1, val_noughts] at g1
  have : x % 10 ^ 6 = x % 1000000 := rfl
  omega
theorem dg_mod (a b : Nat) (h : a % 10 = b % 10) : dg a = dg b := by unfold dg; rw [h]
theorem six_digits (x : Nat) : (decOnto (1000000 + x % 1000000) ⟨#[]⟩).data.toList.drop 1 = (go1 x 6).1.data.toList := by
  rw [decOnto_list, List.append_nil]
  generalize hp : x % 1000000 = p
  have hp2 : p < 1000000 := by omega
  have e0 : digs ((1000000 + p) / 10 / 10 / 10 / 10 / 10 / 10) = [dg ((1000000 + p) / 10 / 10 / 10 / 10 / 10 / 10)] := digs_lo (by omega)
  have e1 : digs ((1000000 + p) / 10 / 10 / 10 / 10 / 10) = _ := digs_hi (by omega)
  have e2 : digs ((1000000 + p) / 10 / 10 / 10 / 10) = _ := digs_hi (by omega)
  have e3 : digs ((1000000 + p) / 10 / 10 / 10) = _ := digs_hi (by omega)
  have e4 : digs ((1000000 + p) / 10 / 10) = _ := digs_hi (by omega)
  have e5 : digs ((1000000 + p) / 10) = _ := digs_hi (by omega)
  have e6 : digs (1000000 + p) = _ := digs_hi (by omega)
  rw [e6, e5, e4, e3, e2, e1, e0]
  show _ = (pre (x / 10 / 10 / 10 / 10 / 10) (pre (x / 10 / 10 / 10 / 10) (pre (x / 10 / 10 / 10) (pre (x / 10 / 10) (pre (x / 10) (pre x ⟨#[]⟩)))))).data.toList
  rw [pre_list, pre_list, pre_list, pre_list, pre_list, pre_list]
  show [dg _, dg _, dg _, dg _, dg _, dg _] = [dg _, dg _, dg _, dg _, dg _, dg _]
  rw [dg_mod ((1000000 + p) / 10 / 10 / 10 / 10 / 10) (x / 10 / 10 / 10 / 10 / 10) (by omega), dg_mod ((1000000 + p) / 10 / 10 / 10 / 10) (x / 10 / 10 / 10 / 10) (by omega),
    dg_mod ((1000000 + p) / 10 / 10 / 10) (x / 10 / 10 / 10) (by omega), dg_mod ((1000000 + p) / 10 / 10) (x / 10 / 10) (by omega), dg_mod ((1000000 + p) / 10) (x / 10) (by omega), dg_mod (1000000 + p) x (by omega)]
theorem snoc_ba (T : ByteArray) (h : 0 < T.size) : T.data.toList = (T.extract 0 (T.size - 1)).data.toList ++ [T[T.size - 1]] := by
  rw [Lib.extract_data, List.drop_zero, Nat.sub_zero]
  have hl : T.data.toList.length = T.size := Array.length_toList
  have h2 := List.take_succ_eq_append_getElem (l := T.data.toList) (i := T.size - 1) (by omega)
  rw [show T.size - 1 + 1 = T.size by omega, List.take_of_length_le (by omega)] at h2
  exact h2
theorem ba_ext {a b : ByteArray} (h : a.data.toList = b.data.toList) : a = b := by
  cases a; cases b; simp at h; subst h; rfl
end Num
set_option maxHeartbeats 2000000 in
theorem refshow_any (a : Int) (w : World) : Calls Tryd.prog 29 #[.int .i64 a] w (Ret (.string (show' a)) w) := by
  have a1 := clamp_le a
  have a2 := clamp_ge a
  have HS := hid' (show show' a = if clamp a < 0 then ⟨#[45]⟩ ++ text (clamp a).natAbs else text (clamp a).natAbs from rfl)
  generalize show' a = sh at *
  have HC := hid' (refclamp_any a w)
  have HZ := hid' (size_any (clamp a) (by omega) w)
  have hx : (clamp a).natAbs ≤ 1000000000000000 := by omega
  have hsgn : clamp a < 0 ∨ ¬ clamp a < 0 := by omega
  generalize (clamp a).natAbs = x at *
  generalize clamp a = c at *
  have HT := hid' (show text x = if tailOf (go1 x 6).1 = ⟨#[]⟩ then decOnto (go1 x 6).2 ⟨#[]⟩ else decOnto (go1 x 6).2 ⟨#[]⟩ ++ (⟨#[46]⟩ ++ tailOf (go1 x 6).1) from rfl)
  have h6 := (go1_list x 6 0).2.2
  rw [show x / 10 ^ 6 = x / 1000000 from rfl] at h6
  rw [h6] at HT
  have E1 : (x : Int) / 1000000 = ((x / 1000000 : Nat) : Int) := by omega
  have E2 : (x : Int) % 1000000 = ((x % 1000000 : Nat) : Int) := by omega
  have HD1 := hid' (digits_any (x / 1000000) (by omega) w)
  have HD2 := hid' (digits_any (1000000 + x % 1000000) (by omega) w)
  have h7 := six_digits x
  have hs1 := digs_len 9 (x / 1000000) (by omega)
  have hs2 : (decOnto (x / 1000000) ⟨#[]⟩).size ≤ 10 := by
    have : (decOnto (x / 1000000) ⟨#[]⟩).data.toList.length = (digs (x / 1000000)).length := by rw [decOnto_list]; simp
    rw [Array.length_toList] at this
    show (decOnto (x / 1000000) ⟨#[]⟩).data.size ≤ 10
    omega
  have hz7 : (go1 x 6).1.size = 6 := go1_size x 6
  have htn := tail_none x
  have hts := tail_some x
  generalize (go1 x 6).1 = G at *
  clear h6 hs1
  have HH7 := hid' h7
  clear h7
  generalize decOnto (x / 1000000) ⟨#[]⟩ = S at *
  have hd2 : (decOnto (1000000 + x % 1000000) ⟨#[]⟩).size = 7 := by
    have h8 := congrArg List.length HH7.out
    rw [List.length_drop, Array.length_toList, Array.length_toList] at h8
    show (decOnto (1000000 + x % 1000000) ⟨#[]⟩).data.size = 7
    have : G.data.size = 6 := hz7
    omega
  generalize decOnto (1000000 + x % 1000000) ⟨#[]⟩ = D at *
  generalize hp : x % 1000000 = p at *
  generalize x / 1000000 = q at *
  have hp6 : p < 1000000 := by omega
  clear hp
  have k0 : ¬ 9223372036854775807 < (⟨#[45]⟩ : ByteArray).size + S.size := by show ¬ 9223372036854775807 < 1 + S.size; omega
  go_enter Tryd.func29, Tryd.ntmps29
  go_wp2_with fail
  refine HC.out.mono ?_
  rintro e w1 ⟨rfl, rfl⟩
  go_wp2_with fail
  refine HZ.out.mono ?_
  rintro e w1 ⟨rfl, rfl⟩
  go_wp2_with fail
  refine HD1.out.mono ?_
  rintro e w1 ⟨rfl, rfl⟩
  by_cases hp0 : p = 0
  · subst hp0
    have E3 : (x : Int) % 1000000 = 0 := E2
    have HTx := HT.out
    rw [if_pos (htn rfl)] at HTx
    have HSx := HS.out
    rw [HTx] at HSx
    have HF := hid' HSx
    clear HTx HSx HT HS E2 htn hts HH7 HD2
    rcases hsgn with hg | hg
    · go_wp2_with fail
      refine HZ.out.mono ?_
      rintro e w1 ⟨rfl, rfl⟩
      go_wp2_with fail
      go_ret
      exact ⟨by rw [HF.out, if_pos hg]; rfl, rfl⟩
    · go_wp2_with fail
      refine HZ.out.mono ?_
      rintro e w1 ⟨rfl, rfl⟩
      go_wp2_with fail
      go_ret
      exact ⟨by rw [HF.out, if_neg (by omega)]; rfl, rfl⟩
  · have hR := hts hp0
    have HTx := HT.out
    have htail : ¬ tailOf G = ⟨#[]⟩ := by
      intro e
      apply hR
      have := congrArg (fun b : ByteArray => b.data.toList) e
      unfold tailOf at this
      simpa using this
    rw [if_neg htail] at HTx
    have HSx := HS.out
    rw [HTx] at HSx
    have HF := hid' HSx
    have hxx : D.extract 1 D.size = G := ba_ext (by rw [Lib.extract_to_end, HH7.out])
    have p0 : ((p : Int) == 0) = false := by rw [beq_eq_false_iff_ne]; omega
    rw [show ((1000000 + p : Nat) : Int) = 1000000 + (p : Int) by omega] at HD2
    have hd3 : 1 ≤ D.size := by omega
    have hz3 : G.size ≤ 6 := by omega
    have hz4 : 1 ≤ G.size := by omega
    clear HTx HSx HT HS htn hts HH7 htail hd2 hz7
    obtain ⟨R, HR⟩ : ∃ R, Hid (Lib.trimRightB G.data.toList 48 = R) := ⟨_, rfl⟩
    rw [HR.out] at hR
    have HRn := hid' hR
    clear hR
    rcases hsgn with hg | hg
    all_goals go_wp2_with fail
    all_goals refine HZ.out.mono ?_
    all_goals rintro e w1 ⟨rfl, rfl⟩
    all_goals go_wp2_with fail
    all_goals refine HD2.out.mono ?_
    all_goals rintro e w1 ⟨rfl, rfl⟩
    all_goals go_wp2_with fail
    · have hF := HF.out
      rw [if_pos hg, ← ByteArray.append_assoc] at hF
      have hs3 : ((⟨#[45]⟩ : ByteArray) ++ S).size ≤ 11 := by rw [ByteArray.size_append]; show 1 + S.size ≤ 11; omega
      have HF := hid' hF
      clear hF
      generalize (⟨#[45]⟩ : ByteArray) ++ S = S2 at *
      go_loop [5] (fun v => ∃ T : ByteArray, v = .string T ∧ Hid (Lib.trimRightB T.data.toList 48 = R) ∧ 1 ≤ T.size ∧ T.size ≤ 6) (fun v => match v with | .string T => T.size | _ => 0)
      case atStart => exact ⟨G, rfl, HR, hz4, hz3⟩
      case round =>
        clear hxx hz3 hz4
        obtain ⟨T, rfl, HT, ht1, ht2⟩ := hrel
        have HSn := hid' (snoc_ba T (by omega))
        by_cases hl : (T[T.size - 1].toNat : Int) = 48
        · have HT2 := hid' (show Lib.trimRightB (T.extract 0 (T.size - 1)).data.toList 48 = R by
            have := HT.out
            rw [HSn.out, trim_snoc, if_pos (UInt8.toNat_inj.1 (by rw [show UInt8.toNat 48 = 48 from rfl]; omega))] at this
            exact this)
          have hsz : (T.extract 0 (T.size - 1)).size = T.size - 1 := by rw [ByteArray.size_extract]; omega
          have hne : 1 ≤ (T.extract 0 (T.size - 1)).size := by
            refine Decidable.byContradiction fun hc => HRn.out ?_
            rw [← HT2.out, show (T.extract 0 (T.size - 1)).data.toList = [] by rw [← List.length_eq_zero_iff, Array.length_toList]; show (T.extract 0 (T.size - 1)).size = 0; omega]
            rfl
          have hle : (T.extract 0 (T.size - 1)).size + 1 ≤ T.size := by omega
          clear hsz
          go_wp2_with fail
          go_round
          case rel => exact ⟨_, rfl, HT2, hne, by omega⟩
          case measure => show (T.extract 0 (T.size - 1)).size < T.size; omega
        · have hTG := hid' (show T = tailOf G by
            apply ba_ext
            have := HT.out
            rw [HSn.out, trim_snoc, if_neg (by intro e; apply hl; rw [e]; rfl), ← HSn.out] at this
            rw [this, ← HR.out]
            unfold tailOf; simp)
          have hl' : ((T[T.size - 1].toNat : Int) == 48) = false := by rw [beq_eq_false_iff_ne]; exact hl
          have k1 : ¬ 9223372036854775807 < S2.size + (⟨#[46]⟩ : ByteArray).size := by show ¬ 9223372036854775807 < S2.size + 1; omega
          have k2 : ¬ 9223372036854775807 < (S2 ++ ⟨#[46]⟩).size + T.size := by rw [ByteArray.size_append]; show ¬ 9223372036854775807 < S2.size + 1 + T.size; omega
          clear hl
          go_wp2_with fail
          go_ret
          exact ⟨by rw [HF.out, ← hTG.out, ← ByteArray.append_assoc]; rfl, rfl⟩
    · have hF := HF.out
      rw [if_neg (by omega)] at hF
      have hs3 : S.size ≤ 11 := by omega
      have HF := hid' hF
      clear hF
      obtain ⟨S2, hS2⟩ : ∃ S2, S = S2 := ⟨_, rfl⟩
      subst hS2
      go_loop [5] (fun v => ∃ T : ByteArray, v = .string T ∧ Hid (Lib.trimRightB T.data.toList 48 = R) ∧ 1 ≤ T.size ∧ T.size ≤ 6) (fun v => match v with | .string T => T.size | _ => 0)
      case atStart => exact ⟨G, rfl, HR, hz4, hz3⟩
      case round =>
        clear hxx hz3 hz4
        obtain ⟨T, rfl, HT, ht1, ht2⟩ := hrel
        have HSn := hid' (snoc_ba T (by omega))
        by_cases hl : (T[T.size - 1].toNat : Int) = 48
        · have HT2 := hid' (show Lib.trimRightB (T.extract 0 (T.size - 1)).data.toList 48 = R by
            have := HT.out
            rw [HSn.out, trim_snoc, if_pos (UInt8.toNat_inj.1 (by rw [show UInt8.toNat 48 = 48 from rfl]; omega))] at this
            exact this)
          have hsz : (T.extract 0 (T.size - 1)).size = T.size - 1 := by rw [ByteArray.size_extract]; omega
          have hne : 1 ≤ (T.extract 0 (T.size - 1)).size := by
            refine Decidable.byContradiction fun hc => HRn.out ?_
            rw [← HT2.out, show (T.extract 0 (T.size - 1)).data.toList = [] by rw [← List.length_eq_zero_iff, Array.length_toList]; show (T.extract 0 (T.size - 1)).size = 0; omega]
            rfl
          have hle : (T.extract 0 (T.size - 1)).size + 1 ≤ T.size := by omega
          clear hsz
          go_wp2_with fail
          go_round
          case rel => exact ⟨_, rfl, HT2, hne, by omega⟩
          case measure => show (T.extract 0 (T.size - 1)).size < T.size; omega
        · have hTG := hid' (show T = tailOf G by
            apply ba_ext
            have := HT.out
            rw [HSn.out, trim_snoc, if_neg (by intro e; apply hl; rw [e]; rfl), ← HSn.out] at this
            rw [this, ← HR.out]
            unfold tailOf; simp)
          have hl' : ((T[T.size - 1].toNat : Int) == 48) = false := by rw [beq_eq_false_iff_ne]; exact hl
          have k1 : ¬ 9223372036854775807 < S.size + (⟨#[46]⟩ : ByteArray).size := by show ¬ 9223372036854775807 < S.size + 1; omega
          have k2 : ¬ 9223372036854775807 < (S ++ ⟨#[46]⟩).size + T.size := by rw [ByteArray.size_append]; show ¬ 9223372036854775807 < S.size + 1 + T.size; omega
          clear hl
          go_wp2_with fail
          go_ret
          exact ⟨by rw [HF.out, ← hTG.out, ← ByteArray.append_assoc]; rfl, rfl⟩
end Go.Proofs.YtljmokbdmfiajaaDoor

/- Proved: one feed's table in plain words: a later tip that its key signed is taken, and not taken again. -/
import Derived.Test.YtmddaomchhigbaaGreatDoorOrcShown
namespace Go.Proofs.YtmddaomchhigbaaGreatDoor
open Led Orc
set_option linter.unusedVariables false
set_option linter.unusedSimpArgs false
namespace Orc
theorem findK_one (k : Kn) : findK [k] k.name = some k := by
  show List.find? _ _ = _
  rw [List.find?_cons_of_pos]
  exact decide_eq_true rfl
theorem lastDay_snoc (S : List (Int × Int)) (x : Int × Int) : lastDay (S ++ [x]) = x.1 := by unfold lastDay; rw [List.getLast?_concat]
theorem core_mk {f : ByteArray} {d v s : Int} (hn : Led.isName f = true) (hd : 0 ≤ d ∧ d ≤ 73048) (hv : -1000000000000000 ≤ v ∧ v ≤ 1000000000000000) (hs : 1 ≤ s ∧ s ≤ 4611686018427387904) : core ⟨f, d, v, s, ⟨#[]⟩⟩ = true := by
  unfold core
  simp only [Bool.and_eq_true, decide_eq_true_eq]
  exact ⟨hn, hd.1, hd.2, hv.1, hv.2, hs.1, hs.2⟩
theorem one_code {f key : ByteArray} {n : Int} {S : List (Int × Int)} {d v : Int} (hd : lastDay S < d) (hS : S.length ≠ 4096) :
    tkCode [⟨f, key, n, S⟩] (tagged ⟨f, d, v, n + 1, ⟨#[]⟩⟩ key) d = 0 := by
  unfold tkCode
  rw [show (tagged ⟨f, d, v, n + 1, ⟨#[]⟩⟩ key).feed = (⟨f, key, n, S⟩ : Kn).name from rfl, findK_one]
  simp only
  rw [if_neg (fun e => e rfl), if_neg (by show ¬ (n + 1 ≤ n); omega), if_neg (by show ¬ (d < d ∨ d ≤ lastDay S); omega), if_neg hS]
theorem one_take {f key : ByteArray} {n : Int} {S : List (Int × Int)} {d v : Int} (hn : Led.isName f = true) (hdr : 0 ≤ d ∧ d ≤ 73048) (hv : -1000000000000000 ≤ v ∧ v ≤ 1000000000000000) (hs : 0 ≤ n ∧ n ≤ 1000000) (hd : lastDay S < d) (hS : S.length ≠ 4096) :
    tfCode [⟨f, key, n, S⟩] (encOf (tagged ⟨f, d, v, n + 1, ⟨#[]⟩⟩ key)).1 d = 0 ∧ tfNext [⟨f, key, n, S⟩] (encOf (tagged ⟨f, d, v, n + 1, ⟨#[]⟩⟩ key)).1 d = [⟨f, key, n + 1, S ++ [(d, v)]⟩] := by
  have hc := core_mk (s := n + 1) hn hdr hv (by omega)
  have hr := tagged_right hc key
  rw [encOf_yes hr]
  unfold tfCode tfNext
  rw [if_neg (by omega), if_neg (by omega), dec_enc _ hr]
  simp only
  have h0 := one_code (f := f) (key := key) (n := n) (v := v) hd hS
  refine ⟨h0, ?_⟩
  unfold tkNext
  rw [show findK [⟨f, key, n, S⟩] (tagged ⟨f, d, v, n + 1, ⟨#[]⟩⟩ key).feed = some ⟨f, key, n, S⟩ from findK_one ⟨f, key, n, S⟩]
  simp only
  rw [if_pos h0]
  show [updK _ _ _] = _
  unfold updK
  rw [if_pos (show f = (tagged ⟨f, d, v, n + 1, ⟨#[]⟩⟩ key).feed from rfl)]
  rfl
theorem one_again {f key : ByteArray} {n : Int} {S : List (Int × Int)} {d v : Int} (hn : Led.isName f = true) (hdr : 0 ≤ d ∧ d ≤ 73048) (hv : -1000000000000000 ≤ v ∧ v ≤ 1000000000000000) (hs : 0 ≤ n ∧ n ≤ 1000000) :
    tfCode [⟨f, key, n + 1, S⟩] (encOf (tagged ⟨f, d, v, n + 1, ⟨#[]⟩⟩ key)).1 d = 213 ∧ tfNext [⟨f, key, n + 1, S⟩] (encOf (tagged ⟨f, d, v, n + 1, ⟨#[]⟩⟩ key)).1 d = [⟨f, key, n + 1, S⟩] := by
  have hc := core_mk (s := n + 1) hn hdr hv (by omega)
  have hr := tagged_right hc key
  have h213 : tkCode [⟨f, key, n + 1, S⟩] (tagged ⟨f, d, v, n + 1, ⟨#[]⟩⟩ key) d = 213 := by
    unfold tkCode
    rw [show (tagged ⟨f, d, v, n + 1, ⟨#[]⟩⟩ key).feed = (⟨f, key, n + 1, S⟩ : Kn).name from rfl, findK_one]
    simp only
    rw [if_neg (fun e => e rfl), if_pos (by show n + 1 ≤ n + 1; omega)]
  rw [encOf_yes hr]
  unfold tfCode tfNext
  rw [if_neg (by omega), if_neg (by omega), dec_enc _ hr]
  simp only
  exact ⟨h213, tkNext_no (by rw [h213]; decide)⟩
theorem one_set {f key : ByteArray} (h : skOk f key = true) : skCode [] f key = 0 ∧ skNext [] f key = [⟨f, key, 0, []⟩] := by
  unfold skCode skNext
  rw [if_pos h, if_pos h]
  exact ⟨rfl, rfl⟩
theorem one_bad {f key : ByteArray} (h : skOk f key = false) : skCode [] f key = 210 := if_neg (by rw [h]; simp)
end Orc
end Go.Proofs.YtmddaomchhigbaaGreatDoor

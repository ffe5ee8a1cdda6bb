/- Proved: two tables' lists in plain words: one that takes all, one that takes what one feed alone tells. -/
import Derived.Test.YtmddaomchhigbaaGreatDoorOrcShown
namespace Go.Proofs.YtmddaomchhigbaaGreatDoor
open Led Orc
set_option linter.unusedVariables false
set_option linter.unusedSimpArgs false
namespace Orc
theorem findK_mem {L : List Kn} {s : ByteArray} {k : Kn} (h : findK L s = some k) : k ∈ L ∧ k.name = s := ⟨List.mem_of_find?_eq_some h, by have := List.find?_some h; simpa using this⟩
/-- What is known of a feed, without what it told, unless it is the one. -/
def mask (o : ByteArray) (k : Kn) : Kn := if k.name = o then k else ⟨k.name, k.key, 0, []⟩
theorem mask_name (o : ByteArray) (k : Kn) : (mask o k).name = k.name := by unfold mask; split <;> rfl
theorem mask_key (o : ByteArray) (k : Kn) : (mask o k).key = k.key := by unfold mask; split <;> rfl
theorem mask_at {o : ByteArray} {k : Kn} (h : k.name = o) : mask o k = k := if_pos h
theorem mask_not {o : ByteArray} {k : Kn} (h : k.name ≠ o) : mask o k = ⟨k.name, k.key, 0, []⟩ := if_neg h
theorem mask_eq {o : ByteArray} {a b : Kn} (hn : a.name = b.name) (hk : a.key = b.key) (h : a.name ≠ o) : mask o a = mask o b := by
  rw [mask_not h, mask_not (hn ▸ h), hn, hk]
theorem findK_mask (L : List Kn) (o s : ByteArray) : findK (L.map (mask o)) s = (findK L s).map (mask o) := by
  unfold findK
  rw [List.find?_map]
  congr 2
  funext k
  simp only [Function.comp_apply, mask_name]
theorem skCode_mask (L : List Kn) (o s key : ByteArray) : skCode (L.map (mask o)) s key = skCode L s key := by
  unfold skCode
  rw [findK_mask, List.length_map]
  cases findK L s <;> rfl
theorem skNext_mask (L : List Kn) (o s key : ByteArray) : skNext (L.map (mask o)) s key = (skNext L s key).map (mask o) := by
  unfold skNext
  rw [findK_mask, List.length_map]
  by_cases h : skOk s key = true
  · rw [if_pos h, if_pos h]
    cases hf : findK L s with
    | none =>
      simp only [Option.map_none]
      by_cases h64 : L.length = 64
      · rw [if_pos h64, if_pos h64]
      · rw [if_neg h64, if_neg h64, List.map_append]
        congr 1
        show _ = [mask o _]
        unfold mask
        split <;> rfl
    | some k =>
      simp only [Option.map_some]
      rw [List.map_map, List.map_map]
      apply List.map_congr_left
      intro x hx
      simp only [Function.comp_apply, updK, mask_name]
      by_cases hs : x.name = s
      · rw [if_pos hs, if_pos hs]
        unfold mask
        by_cases hk : k.name = o
        · simp [hk]
        · simp [hk]
      · rw [if_neg hs, if_neg hs]
  · rw [if_neg h, if_neg h]
/-- A tip of another feed changes nothing of what is left. -/
theorem tkNext_mask_other {L : List Kn} {o : ByteArray} {t : Tip} {today : Int} (hu : L.Pairwise fun a b => a.name ≠ b.name) (h : t.feed ≠ o) : (tkNext L t today).map (mask o) = L.map (mask o) := by
  unfold tkNext
  cases hf : findK L t.feed with
  | none => rfl
  | some k =>
    simp only
    split
    · rw [List.map_map]
      apply List.map_congr_left
      intro x hx
      simp only [Function.comp_apply, updK]
      split
      · rename_i hn
        obtain ⟨hk, hkn⟩ := findK_mem hf
        have e : k = x := by
          by_cases e : k = x
          · exact e
          · exfalso
            rcases List.pairwise_iff_getElem.1 hu with hp
            obtain ⟨i, hi, rfl⟩ := List.getElem_of_mem hk
            obtain ⟨j, hj, rfl⟩ := List.getElem_of_mem hx
            rcases Nat.lt_trichotomy i j with hij | rfl | hij
            · exact hp i j hi hj hij (by rw [hkn, hn])
            · exact e rfl
            · exact hp j i hj hi hij (by rw [hkn, hn])
        subst e
        exact mask_eq rfl rfl (by show k.name ≠ o; rw [hkn]; exact h)
      · rfl
    · rfl
/-- A tip of the one feed is taken alike. -/
theorem tkNext_mask_same {L : List Kn} {o : ByteArray} {t : Tip} {today : Int} (h : t.feed = o) : tkNext (L.map (mask o)) t today = (tkNext L t today).map (mask o) := by
  have hc : tkCode (L.map (mask o)) t today = tkCode L t today := by
    unfold tkCode
    rw [findK_mask]
    cases hf : findK L t.feed with
    | none => rfl
    | some k =>
      simp only [Option.map_some]
      rw [mask_at ((findK_mem hf).2.trans h)]
  unfold tkNext
  rw [hc, findK_mask]
  cases hf : findK L t.feed with
  | none => rfl
  | some k =>
    simp only [Option.map_some]
    have hk := (findK_mem hf).2.trans h
    rw [mask_at hk]
    split
    · rw [List.map_map, List.map_map]
      apply List.map_congr_left
      intro x hx
      simp only [Function.comp_apply, updK, mask_name]
      split
      · rw [mask_at (show (tkKn k t).name = o from hk)]
      · rfl
    · rfl
theorem tfNext_mask_none {L : List Kn} {o : ByteArray} {l : List UInt8} {today : Int} (h : dec l = none) : (tfNext L l today).map (mask o) = L.map (mask o) := by
  unfold tfNext
  split
  · rfl
  · rw [h]
theorem tfNext_mask_other {L : List Kn} {o : ByteArray} {l : List UInt8} {today : Int} {t : Tip} (hu : L.Pairwise fun a b => a.name ≠ b.name) (hd : dec l = some t) (h : t.feed ≠ o) : (tfNext L l today).map (mask o) = L.map (mask o) := by
  unfold tfNext
  split
  · rfl
  · rw [hd]; exact tkNext_mask_other hu h
theorem tfNext_mask_same {L : List Kn} {o : ByteArray} {l : List UInt8} {today : Int} {t : Tip} (hd : dec l = some t) (h : t.feed = o) : tfNext (L.map (mask o)) l today = (tfNext L l today).map (mask o) := by
  unfold tfNext
  split
  · rfl
  · rw [hd]; exact tkNext_mask_same h
end Orc
end Go.Proofs.YtmddaomchhigbaaGreatDoor

/- Proved: the reference's digit and Parse as contracts: Parse answers the same plain number. Condition: the text is shorter than 4 000 000 000 bytes. -/
import Derived.Test.YtljmokbdmfiajaaDoorNumBackPlain
namespace Go.Proofs.YtljmokbdmfiajaaDoor
open Go.RowKit
set_option linter.unusedVariables false
open Num
namespace Num
/-- How many digits a text begins with. -/
def lead (l : List UInt8) : Nat := (l.takeWhile isDig).length
/-- The number, as the reference reads it, behind the sign. -/
def refTail (below : Bool) (l : List UInt8) (k : Nat) : Int × Bool :=
  if k < 1 ∨ 10 < k ∨ (1 < k ∧ l.head? = some 48) then (0, false)
  else if k < l.length ∧ (l[k]? ≠ some 46 ∨ l.length < k + 2 ∨ k + 7 < l.length) then (0, false)
  else if (l.drop (k + 1)).all isDig = false then (0, false)
  else tell below (valFrom 0 (l.take k ++ l.drop (k + 1) ++ noughts (6 - (l.drop (k + 1)).length)))
theorem lead_split (l : List UInt8) : l = l.take (lead l) ++ l.drop (lead l) ∧ l.take (lead l) = l.takeWhile isDig ∧ l.drop (lead l) = l.dropWhile isDig := by
  have h := List.takeWhile_append_dropWhile (p := isDig) (l := l)
  have h1 : l.take (lead l) = l.takeWhile isDig := (List.prefix_iff_eq_take.1 (List.takeWhile_prefix isDig)).symm
  have h2 : l.drop (lead l) = l.dropWhile isDig := by
    have h3 := List.take_append_drop (lead l) l
    rw [h1] at h3
    exact List.append_cancel_left (h3.trans h.symm)
  exact ⟨(List.take_append_drop _ _).symm, h1, h2⟩
theorem lead_le (l : List UInt8) : lead l ≤ l.length := (List.takeWhile_sublist _).length_le
theorem lead_dig (l : List UInt8) (j : Nat) (h : j < lead l) (c : UInt8) (hc : l[j]? = some c) : isDig c = true := by
  have h0 := lead_split l
  have h1 : (l.take (lead l))[j]? = some c := by rw [List.getElem?_take, if_pos h]; exact hc
  rw [h0.2.1] at h1
  have h2 := List.mem_of_getElem? h1
  have h3 := List.all_takeWhile (p := isDig) (l := l)
  rw [List.all_eq_true] at h3
  exact h3 c h2
theorem lead_not (l : List UInt8) (c : UInt8) (hc : l[lead l]? = some c) : isDig c = false := by
  have h0 := lead_split l
  have h1 : (l.drop (lead l))[0]? = some c := by rw [List.getElem?_drop]; simpa using hc
  rw [h0.2.2, ← List.head?_eq_getElem?] at h1
  have h4 := List.head?_dropWhile_not isDig l
  rw [h1] at h4
  simpa using h4
theorem badWhole_iff (l : List UInt8) (h : l.all isDig = true) : badWhole l = true ↔ (l.length < 1 ∨ 10 < l.length ∨ (1 < l.length ∧ l.head? = some 48)) := by
  unfold badWhole isDigs
  rw [h]
  cases l with
  | nil => simp
  | cons a t => simp
theorem all_take_false (l : List UInt8) (i : Nat) (h : lead l < i) (hl : lead l < l.length) : (l.take i).all isDig = false := by
  have hc := lead_not l (l[lead l]'hl) (List.getElem?_eq_getElem hl)
  rw [List.all_eq_false]
  refine ⟨l[lead l]'hl, ?_, by rw [hc]; simp⟩
  exact List.mem_of_getElem? (i := lead l) (by rw [List.getElem?_take, if_pos h]; exact List.getElem?_eq_getElem hl)
theorem ref_tail (below : Bool) (l : List UInt8) :
    parts3 below (Lib.cut l [46]).1 (Lib.cut l [46]).2.1 (Lib.cut l [46]).2.2 = refTail below l (lead l) := by
  obtain ⟨hs, ht, hd⟩ := lead_split l
  have hle := lead_le l
  have hall : (l.take (lead l)).all isDig = true := by rw [ht]; exact List.all_takeWhile
  have hlen : (l.take (lead l)).length = lead l := by rw [List.length_take]; omega
  by_cases hk : lead l < l.length
  · have hnd := lead_not l _ (List.getElem?_eq_getElem hk)
    by_cases h46 : l[lead l]'hk = 46
    · have hl : l = l.take (lead l) ++ 46 :: l.drop (lead l + 1) := by
        conv => lhs; rw [hs, List.drop_eq_getElem_cons hk, h46]
      have hcut : Lib.cut l [46] = (l.take (lead l), l.drop (lead l + 1), true) := by
        conv => lhs; rw [hl]
        exact cut_point _ _ hall
      rw [hcut]
      show parts3 below (l.take (lead l)) (l.drop (lead l + 1)) true = _
      have hhead : (l.take (lead l)).head? = some 48 ↔ (1 ≤ lead l ∧ l.head? = some 48) := by
        cases l with
        | nil => simp at hk
        | cons a t =>
          cases hz : lead (a :: t) with
          | zero => simp
          | succ z => simp
      unfold parts3 refTail
      by_cases hb : badWhole (l.take (lead l)) = true
      · rw [if_pos hb, if_pos]
        rw [badWhole_iff _ hall, hlen, hhead] at hb
        rcases hb with h | h | ⟨h, _, h'⟩
        · exact Or.inl h
        · exact Or.inr (Or.inl h)
        · exact Or.inr (Or.inr ⟨h, h'⟩)
      · have hb' : badWhole (l.take (lead l)) = false := by simpa using hb
        have hng : ¬ (lead l < 1 ∨ 10 < lead l ∨ (1 < lead l ∧ l.head? = some 48)) := by
          rw [badWhole_iff _ hall, hlen, hhead] at hb
          intro hc
          apply hb
          rcases hc with h | h | ⟨h, h'⟩
          · exact Or.inl h
          · exact Or.inr (Or.inl h)
          · exact Or.inr (Or.inr ⟨h, by omega, h'⟩)
        rw [if_neg hb, if_neg hng]
        have hpl : (l.drop (lead l + 1)).length = l.length - (lead l + 1) := List.length_drop
        have h4 : l[lead l]? = some 46 := by rw [List.getElem?_eq_getElem hk, h46]
        by_cases hp : badPart (l.drop (lead l + 1)) = true
        · rw [hp, if_pos (show (true && true) = true from rfl)]
          by_cases hq : lead l < l.length ∧ (l[lead l]? ≠ some 46 ∨ l.length < lead l + 2 ∨ lead l + 7 < l.length)
          · rw [if_pos hq]
          · rw [if_neg hq, if_pos]
            unfold badPart isDigs at hp
            have hq2 : ¬ (l.length < lead l + 2) ∧ ¬ (lead l + 7 < l.length) := by
              constructor <;> intro h <;> apply hq
              · exact ⟨hk, Or.inr (Or.inl h)⟩
              · exact ⟨hk, Or.inr (Or.inr h)⟩
            rw [decide_eq_false (by omega), Bool.or_false] at hp
            cases hx : l.drop (lead l + 1) with
            | nil => rw [hx] at hpl; simp at hpl; omega
            | cons a t =>
              rw [hx] at hp
              have h9 : (!(true && (a :: t).all isDig)) = true := hp
              simpa only [Bool.true_and, Bool.not_eq_true'] using h9
        · have hp' : badPart (l.drop (lead l + 1)) = false := by simpa using hp
          rw [hp', if_neg (show ¬ (true && false) = true by decide)]
          unfold badPart isDigs at hp'
          rw [Bool.or_eq_false_iff] at hp'
          have h1 := hp'.1
          have h2 := hp'.2
          simp only [decide_eq_false_iff_not] at h2
          have hne : l.drop (lead l + 1) ≠ [] := by
            intro e; rw [e] at h1; cases h1
          have hne2 : 0 < (l.drop (lead l + 1)).length := List.length_pos_iff.2 hne
          have ha : (l.drop (lead l + 1)).all isDig = true := by
            cases hx : l.drop (lead l + 1) with
            | nil => exact absurd hx hne
            | cons a t => rw [hx] at h1; simpa using h1
          rw [if_neg (by rw [h4]; simp; omega), if_neg (by rw [ha]; simp)]
    · have hbw : badWhole (Lib.cut l [46]).1 = true := by
        have key : (Lib.cut l [46]).1.all isDig = false := by
          unfold Lib.cut
          by_cases hi : 0 ≤ Lib.index l [46]
          · rw [if_pos hi]
            have hsp := Lib.index_spec l [46]
            rcases hsp with ⟨h, _⟩ | ⟨i, h1, h2, h3, h5⟩
            · omega
            · rw [h1, Int.toNat_natCast]
              refine all_take_false l i ?_ hk
              refine Decidable.byContradiction fun hc => ?_
              have h6 : l[i]? = some 46 := by
                unfold Lib.occAt at h3
                cases hx : l.drop i with
                | nil => rw [hx] at h3; cases h3
                | cons a t =>
                  rw [hx] at h3
                  have : a = 46 := by simpa [List.isPrefixOf] using (Eq.symm (by simpa [List.isPrefixOf] using h3) : a = 46)
                  have h7 : (l.drop i)[0]? = some a := by rw [hx]; rfl
                  rw [List.getElem?_drop] at h7
                  rw [← this]; simpa using h7
              by_cases he : i = lead l
              · subst he
                rw [List.getElem?_eq_getElem hk] at h6
                exact h46 (Option.some.inj h6)
              · exact absurd (lead_dig l i (by omega) 46 h6) (by decide)
          · rw [if_neg hi]
            have := all_take_false l l.length hk hk
            rwa [List.take_length] at this
        unfold badWhole isDigs
        rw [key]; simp
      unfold parts3 refTail
      rw [if_pos hbw]
      split
      · rfl
      · rw [if_pos]
        refine ⟨hk, Or.inl ?_⟩
        rw [List.getElem?_eq_getElem hk]
        simpa using h46
  · have hk' : lead l = l.length := by omega
    have hla : l.all isDig = true := by rw [hk', List.take_length] at hall; exact hall
    rw [cut_digits l hla]
    show parts3 below l [] false = _
    have hdrop : l.drop (lead l + 1) = [] := List.drop_eq_nil_of_le (by omega)
    unfold parts3 refTail
    rw [hdrop, hk', List.take_length]
    by_cases hb : badWhole l = true
    · rw [if_pos hb, if_pos ((badWhole_iff l hla).1 hb)]
    · rw [if_neg hb, if_neg (fun h => hb ((badWhole_iff l hla).2 h)), if_neg (by simp), if_neg (by omega), if_neg (by simp)]
end Num
end Go.Proofs.YtljmokbdmfiajaaDoor

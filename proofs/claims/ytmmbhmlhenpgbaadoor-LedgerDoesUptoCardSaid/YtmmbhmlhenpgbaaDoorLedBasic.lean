/- Proved: isName, isCur, of, compare (and cmp.Or on ints) as contracts. No conditions. -/
import Derived.Test.YtmmbhmlhenpgbaaDoorBase
import Derived.Test.YtmmbhmlhenpgbaaDoorLedgerPlain
import Derived.Test.YtmmbhmlhenpgbaaDoorShelf
import Derived.Shelf.Strings.SlTrimAscii
import Derived.Outline
import Derived.BigQuiet
import Derived.BigRegion
import Derived.Deep.QuietTactic
import Derived.Deep.RegionWith
import Derived.StillTailTactics
namespace Go.Proofs.YtmmbhmlhenpgbaaDoor
open Go.RowKit
set_option linter.unusedVariables false
set_option linter.unusedSimpArgs false
namespace Led
def nameSet : List UInt8 := [97, 98, 99, 100, 101, 102, 103, 104, 105, 106, 107, 108, 109, 110, 111, 112, 113, 114, 115, 116, 117, 118, 119, 120, 121, 122, 48, 49, 50, 51, 52, 53, 54, 55, 56, 57, 95]
def curSet : List UInt8 := [65, 66, 67, 68, 69, 70, 71, 72, 73, 74, 75, 76, 77, 78, 79, 80, 81, 82, 83, 84, 85, 86, 87, 88, 89, 90]
theorem of_fin (p q : UInt8 → Bool) (h : ∀ n : Fin 256, p (UInt8.ofNat n.val) = q (UInt8.ofNat n.val)) : ∀ c, p c = q c := by
  intro c
  have := h ⟨c.toNat, c.toNat_lt⟩
  simpa using this
theorem nameSet_contains : ∀ c : UInt8, nameSet.contains c = nameB c := of_fin _ _ (by decide +kernel)
theorem curSet_contains : ∀ c : UInt8, curSet.contains c = curB c := of_fin _ _ (by decide +kernel)
theorem trim_nil (set : List UInt8) (p : UInt8 → Bool) (hp : ∀ c, set.contains c = p c) (l : List UInt8) : (Lib.trimS l set = []) ↔ l.all p = true := by
  have e : (fun x => set.contains x) = p := funext hp
  unfold Lib.trimS Lib.trimLeftS Lib.trimRightS
  rw [e, dropWhile_nil]
  constructor
  · intro h
    have h2 : (l.reverse.dropWhile p).all p = true := by simpa using h
    have h3 : l.reverse.dropWhile p = [] := by
      cases hc : l.reverse.dropWhile p with
      | nil => rfl
      | cons a t =>
        have h4 := List.head?_dropWhile_not p l.reverse
        rw [hc] at h4 h2
        simp at h4 h2
        rw [h2.1] at h4
        cases h4
    rw [dropWhile_nil] at h3
    simpa using h3
  · intro h
    have h3 : l.reverse.dropWhile p = [] := by rw [dropWhile_nil]; simpa using h
    rw [h3]
    rfl
theorem isName_eq (s : ByteArray) (h : 0 < s.size) : isName s = (decide (s.size ≤ 24) && (lowB s[0] && s.data.toList.all nameB)) := by
  have e := head_ba s h
  have hl := len_ba s
  unfold isName
  cases hc : s.data.toList with
  | nil => rw [hc] at hl; simp at hl; omega
  | cons c t =>
    rw [hc] at e hl
    have : c = s[0] := Option.some.inj e
    simp only [List.length_cons] at hl
    simp only [this, hl]
theorem isName_nil : isName ⟨#[]⟩ = false := rfl
end Led
open Led

/-- strings.Trim at the names' signs: nothing is left just where all are such. -/
theorem trimName_any (s : ByteArray) (w : World) (hs : s.size ≤ 9223372036854775807) :
    Calls Tryd.prog 60 #[.string s, .string ⟨#[97, 98, 99, 100, 101, 102, 103, 104, 105, 106, 107, 108, 109, 110, 111, 112, 113, 114, 115, 116, 117, 118, 119, 120, 121, 122, 48, 49, 50, 51, 52, 53, 54, 55, 56, 57, 95]⟩] w fun e w' => e = .returned (.string ⟨(Lib.trimS s.data.toList nameSet).toArray⟩) ∧ Below w.heap.size w w' :=
  Any.strings_Trim_laid Tryd.lays160 (by kernel_rfl) s ⟨#[97, 98, 99, 100, 101, 102, 103, 104, 105, 106, 107, 108, 109, 110, 111, 112, 113, 114, 115, 116, 117, 118, 119, 120, 121, 122, 48, 49, 50, 51, 52, 53, 54, 55, 56, 57, 95]⟩ w hs (by decide) (ascii_of_all (by decide))
theorem trimCur_any (s : ByteArray) (w : World) (hs : s.size ≤ 9223372036854775807) :
    Calls Tryd.prog 60 #[.string s, .string ⟨#[65, 66, 67, 68, 69, 70, 71, 72, 73, 74, 75, 76, 77, 78, 79, 80, 81, 82, 83, 84, 85, 86, 87, 88, 89, 90]⟩] w fun e w' => e = .returned (.string ⟨(Lib.trimS s.data.toList curSet).toArray⟩) ∧ Below w.heap.size w w' :=
  Any.strings_Trim_laid Tryd.lays160 (by kernel_rfl) s ⟨#[65, 66, 67, 68, 69, 70, 71, 72, 73, 74, 75, 76, 77, 78, 79, 80, 81, 82, 83, 84, 85, 86, 87, 88, 89, 90]⟩ w hs (by decide) (ascii_of_all (by decide))
/-- What of a trimmed text is asked: is it empty? -/
theorem trim_cases (set : List UInt8) (p : UInt8 → Bool) (hp : ∀ c, set.contains c = p c) (l : List UInt8) :
    (l.all p = true ∧ (⟨(Lib.trimS l set).toArray⟩ : ByteArray) = ⟨#[]⟩) ∨ (l.all p = false ∧ ∃ t : ByteArray, (⟨(Lib.trimS l set).toArray⟩ : ByteArray) = t ∧ t.toList.isEmpty = false) := by
  have T := trim_nil set p hp l
  cases h : l.all p with
  | true => rw [T.2 h]; exact Or.inl ⟨rfl, rfl⟩
  | false =>
    refine Or.inr ⟨rfl, _, rfl, nonempty_list ?_⟩
    intro e
    have h1 : (Lib.trimS l set).toArray = #[] := congrArg ByteArray.data e
    have h2 : Lib.trimS l set = [] := by simpa using h1
    rw [T.1 h2] at h
    cases h

set_option maxHeartbeats 1000000 in
theorem isName_any (s : ByteArray) (w : World) (hs : s.size ≤ 9223372036854775807) : Calls Tryd.prog 46 #[.string s] w (Gives (.bool (isName s)) w) := by
  by_cases h0 : 0 < s.size
  · have hnl : s.toList.isEmpty = false := nonempty_list (by rintro rfl; simp [ByteArray.size] at h0)
    have E := hid' (isName_eq s h0)
    rw [E.out]
    clear E
    by_cases h24 : s.size ≤ 24
    · rw [decide_eq_true h24]
      by_cases hlo : 97 ≤ (s[0].toNat : Int)
      · by_cases hhi : (s[0].toNat : Int) ≤ 122
        · have hl : lowB s[0] = true := by unfold lowB; simp; omega
          rw [hl]
          have HT := hid' (fun w => trimName_any s w hs)
          rcases trim_cases nameSet nameB nameSet_contains s.data.toList with ⟨h1, h2⟩ | ⟨h1, t, h2, h3⟩
          · rw [h1]
            rw [h2] at HT
            clear h1 h2 hl
            go_enter Tryd.func46, Tryd.ntmps46
            go_wp2_with fail
            refine (HT.out _).mono ?_
            rintro e w1 ⟨rfl, b1⟩
            go_wp2_with fail
            go_ret
            exact ⟨rfl, b1⟩
          · rw [h1]
            rw [h2] at HT
            clear h1 h2 hl
            go_enter Tryd.func46, Tryd.ntmps46
            go_wp2_with fail
            refine (HT.out _).mono ?_
            rintro e w1 ⟨rfl, b1⟩
            go_wp2_with fail
            go_ret
            exact ⟨rfl, b1⟩
        · have hl : lowB s[0] = false := by unfold lowB; simp; omega
          rw [hl]
          clear hl
          go_enter Tryd.func46, Tryd.ntmps46
          go_wp2_with fail
          go_ret
          exact ⟨rfl, Below.refl _ _⟩
      · have hl : lowB s[0] = false := by unfold lowB; simp; omega
        rw [hl]
        clear hl
        go_enter Tryd.func46, Tryd.ntmps46
        go_wp2_with fail
        go_ret
        exact ⟨rfl, Below.refl _ _⟩
    · rw [decide_eq_false h24]
      go_enter Tryd.func46, Tryd.ntmps46
      go_wp2_with fail
      go_ret
      exact ⟨rfl, Below.refl _ _⟩
  · obtain rfl := nil_of_size (show s.size = 0 by omega)
    rw [isName_nil]
    go_enter Tryd.func46, Tryd.ntmps46
    go_wp2_with fail
    go_ret
    exact ⟨rfl, Below.refl _ _⟩

set_option maxHeartbeats 1000000 in
theorem isCur_any (s : ByteArray) (w : World) (hs : s.size ≤ 9223372036854775807) : Calls Tryd.prog 47 #[.string s] w (Gives (.bool (isCur s)) w) := by
  have E : isCur s = (decide (s.size = 3) && s.data.toList.all curB) := rfl
  rw [E]
  clear E
  by_cases h3 : s.size = 3
  · rw [decide_eq_true h3]
    have h3' : ((s.size : Int) == 3) = true := by rw [beq_iff_eq]; omega
    have HT := hid' (fun w => trimCur_any s w hs)
    clear h3 hs
    rcases trim_cases curSet curB curSet_contains s.data.toList with ⟨h1, h2⟩ | ⟨h1, t, h2, h3⟩
    · rw [h1]
      rw [h2] at HT
      clear h1 h2
      go_enter Tryd.func47, Tryd.ntmps47
      go_wp2_with fail
      refine (HT.out _).mono ?_
      rintro e w1 ⟨rfl, b1⟩
      go_wp2_with fail
      go_ret
      exact ⟨rfl, b1⟩
    · rw [h1]
      rw [h2] at HT
      clear h1 h2
      go_enter Tryd.func47, Tryd.ntmps47
      go_wp2_with fail
      refine (HT.out _).mono ?_
      rintro e w1 ⟨rfl, b1⟩
      go_wp2_with fail
      go_ret
      exact ⟨rfl, b1⟩
  · rw [decide_eq_false h3]
    have h3' : ((s.size : Int) == 3) = false := by rw [beq_eq_false_iff_ne]; omega
    clear h3
    go_enter Tryd.func47, Tryd.ntmps47
    go_wp2_with fail
    go_ret
    exact ⟨rfl, Below.refl _ _⟩

set_option maxHeartbeats 1000000 in
theorem of_any (p c : ByteArray) (n : Int) (w : World) : Calls Tryd.prog 41 #[.agg #[.string p, .string c, .int .i64 n]] w (Gives (.agg #[.string p, .string c]) w) := by
  go_enter Tryd.func41, Tryd.ntmps41
  go_wp2_with fail
  exact bodyPost_ret (v := .agg #[.string p, .string c]) (by simp [results, Tryd.results41, go_sem]) rfl ⟨rfl, ((Below.refl _ _).alloc (Nat.le_refl _) _).alloc (by simp) _⟩

def orI (x y : Int) : Int := if x ≠ 0 then x else y
theorem orI_ne {x : Int} (y : Int) (h : x ≠ 0) : orI x y = x := if_pos h
theorem orI_zero (y : Int) : orI 0 y = y := if_neg (by simp)
set_option maxHeartbeats 1000000 in
theorem or_any (b cap : Nat) (x y : Int) (w : World) (hx : w.cell? ⟨b, 0, none⟩ = some (.int .i64 x)) (hy : w.cell? ⟨b, 1, none⟩ = some (.int .i64 y)) :
    Calls Tryd.prog 61 #[.slice (some ⟨b, 0, none⟩) 2 cap] w (Ret (.int .i64 (orI x y)) w) := by
  go_enter Tryd.func61, Tryd.ntmps61
  go_wp2_with fail
  go_loop [8] (fun i => ∃ k : Nat, i = .int .i64 (k : Int) ∧ k ≤ 2 ∧ (1 ≤ k → x = 0) ∧ (2 ≤ k → y = 0)) (fun i => 2 - (intOf i).toNat)
  case atStart => exact ⟨0, rfl, by omega, by omega, by omega⟩
  case round =>
    obtain ⟨k, rfl, hk, h1, h2⟩ := hrel
    have H1 := hid' h1
    have H2 := hid' h2
    clear h1 h2
    rcases (by omega : k = 0 ∨ k = 1 ∨ k = 2) with rfl | rfl | rfl
    · by_cases h : x = 0
      · subst h
        go_wp2_with fail
        go_round
        case rel => exact ⟨1, rfl, by omega, fun _ => trivial, by omega⟩
        case measure => simp [intOf]
      · have h' : (x == 0) = false := by rw [beq_eq_false_iff_ne]; exact h
        have h'' : (x != 0) = true := by rw [bne_iff_ne]; exact h
        go_wp2_with fail
        go_ret
        exact ⟨by rw [orI_ne _ h]; rfl, rfl⟩
    · obtain rfl := H1.out (by omega)
      by_cases h : y = 0
      · subst h
        go_wp2_with fail
        go_round
        case rel => exact ⟨2, rfl, by omega, fun _ => trivial, fun _ => trivial⟩
        case measure => simp [intOf]
      · have h' : (y == 0) = false := by rw [beq_eq_false_iff_ne]; exact h
        have h'' : (y != 0) = true := by rw [bne_iff_ne]; exact h
        go_wp2_with fail
        go_ret
        exact ⟨by rw [orI_zero]; rfl, rfl⟩
    · obtain rfl := H1.out (by omega)
      obtain rfl := H2.out (by omega)
      go_wp2_with fail
      go_ret
      exact ⟨by rw [orI_zero]; rfl, rfl⟩

theorem compare_is (a b : ByteArray) : -1 ≤ Lib.compareBytes a.data.toList b.data.toList ∧ Lib.compareBytes a.data.toList b.data.toList ≤ 1 := by
  generalize a.data.toList = l
  generalize b.data.toList = m
  induction l generalizing m with
  | nil => cases m <;> simp [Lib.compareBytes]
  | cons c t ih =>
    cases m with
    | nil => simp [Lib.compareBytes]
    | cons d u =>
      rw [Lib.compareBytes]
      split
      · simp
      · split
        · simp
        · exact ih u
set_option maxRecDepth 100000 in
set_option maxHeartbeats 2000000 in
theorem comp_any (p c p' c' : ByteArray) (w : World) : Calls Tryd.prog 48 #[.agg #[.string p, .string c], .agg #[.string p', .string c']] w (Gives (.int .i64 (cmp p c p' c')) w) := by
  have H1 := hid' (fun w => Tryd.strings_Compare p p' w)
  have H2 := hid' (fun w => Tryd.strings_Compare c c' w)
  have HC := hid' (show cmp p c p' c' = orI (Lib.compareBytes p.data.toList p'.data.toList) (Lib.compareBytes c.data.toList c'.data.toList) from rfl)
  generalize Lib.compareBytes p.data.toList p'.data.toList = x at *
  generalize Lib.compareBytes c.data.toList c'.data.toList = y at *
  go_enter Tryd.func48, Tryd.ntmps48
  go_wp2_with fail
  obtain ⟨W, hW⟩ : ∃ W, (w.alloc (.cells #[.string p, .string c] 75)).alloc (.cells #[.string p', .string c'] 75) = W := ⟨_, rfl⟩
  have c0 : W.cell? ⟨w.heap.size, 0, none⟩ = some (.string p) := by rw [← hW, World.cell?_alloc_old _ _ _ (by simp)]; exact new_cell rfl rfl
  have c1 : W.cell? ⟨w.heap.size, 1, none⟩ = some (.string c) := by rw [← hW, World.cell?_alloc_old _ _ _ (by simp)]; exact new_cell rfl rfl
  have c2 : W.cell? ⟨w.heap.size + 1, 0, none⟩ = some (.string p') := by rw [← hW]; exact new_cell (by simp) rfl
  have c3 : W.cell? ⟨w.heap.size + 1, 1, none⟩ = some (.string c') := by rw [← hW]; exact new_cell (by simp) rfl
  have hB : Below w.heap.size w W := by rw [← hW]; exact ((Below.refl _ _).alloc (Nat.le_refl _) _).alloc (by simp) _
  rw [hW]
  clear hW
  refine wp_region_still_tail 10 (by kernel_rfl) (by kernel_rfl) ?_
  simp only [List.take_succ_cons, List.take_zero, List.drop_succ_cons, List.drop_zero]
  iterate 4 still_step
  still_call (H1.out _)
  iterate 4 still_step
  still_call (H2.out _)
  refine wpStill_nil ?_
  change wpList _ _ _ _ _ (World.drew _)
  go_wp2_with fail
  refine (or_any _ _ x y _ (drew_cell (new_cell rfl rfl)) (drew_cell (new_cell rfl rfl))).mono ?_
  rintro e w1 ⟨rfl, rfl⟩
  go_wp2_with fail
  go_ret
  exact ⟨by rw [HC.out]; rfl, (hB.alloc hB.size _).drew⟩
end Go.Proofs.YtmmbhmlhenpgbaaDoor

/- Proved: slices.SortedFunc over maps.Keys at the ledger's accounts: a new slice of all accounts, in order, each once. -/
import Derived.Test.YtmmbhmlhenpgbaaDoorLedColl
import Derived.Test.YtmmbhmlhenpgbaaDoorSortLay
namespace Go.Proofs.YtmmbhmlhenpgbaaDoor
open Go.RowKit Go.Shelf Go.Sort Go.Maps
open Led
set_option linter.unusedVariables false
set_option linter.unusedSimpArgs false
set_option maxRecDepth 100000
attribute [local go_sem] Oper.semAt_some

theorem accCells_at : ∀ (l : List Acc) (t : Nat), t < l.length * 2 → (accCells l)[t]? = some ((Acc.cells l[t / 2]!)[t % 2]!)
  | [], t, h => by simp at h
  | x :: l, 0, h => rfl
  | x :: l, 1, h => rfl
  | x :: l, t + 2, h => by
    have ih := accCells_at l t (by simp at h; omega)
    have e1 : (t + 2) / 2 = t / 2 + 1 := by omega
    have e2 : (t + 2) % 2 = t % 2 := by omega
    rw [e1, e2, accCells]
    simpa using ih
theorem flat_acc (l : List Acc) : (flatK Acc.cells 2 l.toArray).toList = accCells l := by
  apply List.ext_getElem?
  intro t
  by_cases h : t < l.length * 2
  · rw [accCells_at l t h]
    have h1 : t < (flatK Acc.cells 2 l.toArray).size := by simpa using h
    rw [Array.getElem?_toList, Array.getElem?_eq_getElem h1, ← getElem!_pos _ t h1, get_flatK _ _ _ _ (by simpa using h)]
    simp
  · rw [List.getElem?_eq_none (by rw [Array.length_toList]; simp; omega), List.getElem?_eq_none (by rw [accCells_len]; omega)]
/-- A row of accounts of a call's own is what a sort asks. -/
theorem holds_of_row {W : World} {g cap : Nat} {cur : Array Value} {l : List Acc} (h : W.heap[g]? = some (.cells cur 75 (0, 0))) (hc : cur.toList.take (l.length * 2) = accCells l) : HoldsK Acc.cells 2 W g 0 l.toArray := by
  intro j hj
  have hj' : j < l.length * 2 := by simpa using hj
  refine ⟨?_, by simp [World.frozen?, h]⟩
  have h1 : (accCells l)[j]? = cur[j]? := by rw [← hc, List.getElem?_take_of_lt hj', Array.getElem?_toList]
  have h2 : (flatK Acc.cells 2 l.toArray)[j]! = ((accCells l)[j]?).getD default := by
    rw [getElem!_pos _ j hj, ← flat_acc l, Array.getElem?_toList, Array.getElem?_eq_getElem hj]; rfl
  have h3 : (accCells l)[j]? = some ((accCells l)[j]'(by rw [accCells_len]; exact hj')) := List.getElem?_eq_getElem _
  simp only [Nat.zero_add, id_eq]
  rw [h2, h3, Option.getD_some]
  simp only [World.cell?, h]
  rw [← h1, h3]
  rfl
/-- What a sort makes of that row. -/
theorem row_sorted {W : World} {g cap m : Nat} {cur : Array Value} {l : List Acc} {os : Array Obj} (h : W.heap[g]? = some (.cells cur 75 (0, 0))) (hcur : cur.size = cap * 2) (hl : l.length ≤ cap) :
    ∃ cur' : Array Value, (sortWorldK Acc.cells 2 W g 0 m l.toArray os).heap[g]? = some (.cells cur' 75 (0, 0)) ∧ cur'.size = cap * 2 ∧ cur'.toList.take (l.length * 2) = accCells l ∧
      ∀ k, k < W.heap.size → k ≠ g → (sortWorldK Acc.cells 2 W g 0 m l.toArray os).heap[k]? = W.heap[k]? := by
  have hg := lt_of_block h
  have hsz : (W.heap.modify g (onCells (putCells id 0 (flatK Acc.cells 2 l.toArray)))).size = W.heap.size := by simp
  refine ⟨putCells id 0 (flatK Acc.cells 2 l.toArray) cur, ?_, by simp [putCells, hcur], ?_, fun k hk hne => ?_⟩
  · show (W.heap.modify g _ ++ os)[g]? = _
    rw [Array.getElem?_append_left (by rw [hsz]; exact hg), Array.getElem?_modify, if_pos rfl, h]
    rfl
  · rw [← flat_acc l]
    apply List.ext_getElem?
    intro t
    have hF : (flatK Acc.cells 2 l.toArray).size = l.length * 2 := by simp
    by_cases ht : t < l.length * 2
    · rw [List.getElem?_take_of_lt ht, Array.getElem?_toList, Array.getElem?_toList]
      have h1 : t < cur.size := by omega
      unfold putCells
      rw [Array.getElem?_mapIdx, Array.getElem?_eq_getElem h1, Array.getElem?_eq_getElem (by rw [hF]; exact ht)]
      simp only [Option.map_some, Nat.zero_le, true_and, Nat.zero_add, hF, ht, if_true, id_eq, Nat.sub_zero]
      rw [getElem!_pos _ t (by rw [hF]; exact ht)]
    · rw [List.getElem?_eq_none (by simp; omega), List.getElem?_eq_none (by rw [Array.length_toList, hF]; omega)]
  · show (W.heap.modify g _ ++ os)[k]? = _
    rw [Array.getElem?_append_left (by rw [hsz]; exact hk), Array.getElem?_modify, if_neg (fun e => hne e.symm)]
/-- The accounts of a map, in order, each once. -/
structure HeldIs (D : DataW Unit) (ks : List Acc) : Prop where
  nodup : ks.Nodup
  mem : ∀ x : Acc, x ∈ ks ↔ has D x.k = true
  rises : ks.Pairwise fun x y => x.cf y < 0
theorem strict_unique {α : Type} {R : α → α → Prop} (hr : ∀ x, ¬ R x x) (ht : ∀ x y z, R x y → R y z → R x z) : ∀ l m : List α, l.Pairwise R → m.Pairwise R → (∀ x, x ∈ l ↔ x ∈ m) → l = m
  | [], [], _, _, _ => rfl
  | [], y :: m, _, _, h => by have := (h y).2 (List.mem_cons_self ..); cases this
  | x :: l, [], _, _, h => by have := (h x).1 (List.mem_cons_self ..); cases this
  | x :: l, y :: m, hl, hm, h => by
    obtain ⟨l1, l2⟩ := List.pairwise_cons.1 hl
    obtain ⟨m1, m2⟩ := List.pairwise_cons.1 hm
    have e : x = y := by
      rcases List.mem_cons.1 ((h x).1 (List.mem_cons_self ..)) with e | hx
      · exact e
      · rcases List.mem_cons.1 ((h y).2 (List.mem_cons_self ..)) with e | hy
        · exact e.symm
        · exact absurd (ht _ _ _ (l1 y hy) (m1 x hx)) (hr x)
    subst e
    rw [strict_unique hr ht l m l2 m2 fun z => ?_]
    constructor
    · intro hz
      rcases List.mem_cons.1 ((h z).1 (List.mem_cons_of_mem _ hz)) with e | hz'
      · subst e; exact absurd (l1 z hz) (hr z)
      · exact hz'
    · intro hz
      rcases List.mem_cons.1 ((h z).2 (List.mem_cons_of_mem _ hz)) with e | hz'
      · subst e; exact absurd (m1 z hz) (hr z)
      · exact hz'
theorem HeldIs.unique {D : DataW Unit} {ks ks' : List Acc} (h : HeldIs D ks) (h' : HeldIs D ks') : ks = ks' :=
  strict_unique (R := fun x y : Acc => x.cf y < 0) (fun x => by rw [Acc.cf_self]; omega) (fun _ _ _ => Acc.cf_trans) ks ks' h.rises h'.rises (fun x => (h.mem x).trans (h'.mem x).symm)
/-- Sorted: what a sort of all keys gives. -/
theorem heldIs_sorted {D : DataW Unit} {ss : List Acc} (h : CollectedA D (fun _ => false) ss) : HeldIs D (ss.mergeSort fun x y => !ltOf Acc.cf y x) := by
  have hp : (ss.mergeSort fun x y => !ltOf Acc.cf y x).Perm ss := List.mergeSort_perm _ _
  have hnd : (ss.mergeSort fun x y => !ltOf Acc.cf y x).Nodup := hp.nodup_iff.2 h.1
  refine ⟨hnd, fun x => ?_, ?_⟩
  · rw [hp.mem_iff, h.2 x]; simp
  · have hs := List.pairwise_mergeSort (le := fun x y => !ltOf Acc.cf y x) (fun a b c h1 h2 => ?_) (fun a b => ?_) ss
    · refine (hs.and hnd).imp ?_
      rintro x y ⟨h1, h2⟩
      unfold ltOf at h1
      simp only [Bool.not_eq_true', decide_eq_false_iff_not] at h1
      have h3 := Acc.cf_neg x y
      have h4 : x.cf y ≠ 0 := fun e => h2 (Acc.cf_zero e)
      omega
    · have := Acc.swo.ntrans c b a
      simp only [Bool.not_eq_true'] at *
      exact this h2 h1
    · unfold ltOf
      have h3 := Acc.cf_neg a b
      simp only [Bool.or_eq_true, Bool.not_eq_true', decide_eq_false_iff_not]
      omega

set_option maxHeartbeats 2000000 in
/-- slices.SortFunc at a row of accounts of the call's own. -/
theorem sortAcc_any (v : Value) (l : List Acc) (n0 : Nat) (W : World) (h : W.ownsRow n0 75 2 v l.length (accCells l)) (hn0 : n0 ≤ W.heap.size) (hl : l.length ≤ 1000000) :
    Calls Tryd.prog 65 #[v, .func (.func 48) #[] #[]] W fun e W' => e = .returned (.tuple #[]) ∧
      W'.ownsRow n0 75 2 v l.length (accCells (l.mergeSort fun x y => !ltOf Acc.cf y x)) ∧ Below n0 W W' := by
  obtain ⟨h0, ⟨rfl, hz⟩ | ⟨g, cap, cur, rfl, h2, h3, h4, h5, h6, h7⟩⟩ := h
  · have e : l = [] := List.length_eq_zero_iff.1 hz
    subst e
    have hcon := AnyF.slices_SortFunc_none Tryd.sortAcc none 0 (.func (.func 48) #[] #[]) W
    change Calls Tryd.prog 65 _ _ _ at hcon
    refine hcon.mono ?_
    rintro e W' ⟨rfl, rfl⟩
    exact ⟨rfl, by rw [List.mergeSort_nil]; exact World.ownsRow_nil _ _ _ _, Below.refl _ _⟩
  · have hg := lt_of_block h3
    have hcon := AnyQ.slices_SortFunc_total Tryd.sortAcc 2 Tryd.isAgg75 Tryd.sizeOf75 Acc.cells (fun _ => rfl) (fun x v hv => by simp [Acc.cells] at hv; rcases hv with rfl | rfl <;> rfl) Acc.cf Acc.swo 48 #[] g 0 cap l.toArray W
      (enters_of Tryd.func48 (by kernel_rfl) rfl) (cmpLays_acc g 0 _ W) (holds_of_row (cap := cap) h3 h7) hg (by simp; omega) Acc.total
    change Calls Tryd.prog 65 _ _ _ at hcon
    rw [show l.toArray.size = l.length by simp] at hcon
    refine hcon.mono ?_
    rintro e W' ⟨rfl, m, os, rfl⟩
    have hle : (l.mergeSort fun x y => !ltOf Acc.cf y x).length = l.length := List.length_mergeSort _
    obtain ⟨cur', c1, c2, c3, c4⟩ := row_sorted (m := m) (os := os) (l := l.mergeSort fun x y => !ltOf Acc.cf y x) h3 h6 (by rw [hle]; exact h4)
    rw [hle] at c3
    refine ⟨rfl, ⟨by rw [accCells_len, hle], Or.inr ⟨g, cap, cur', rfl, h2, c1, h4, h5, c2, c3⟩⟩, rfl, rfl, rfl, ?_, fun k hk => c4 k (by omega) (by omega)⟩
    show W.heap.size ≤ (W.heap.modify g _ ++ os).size
    simp

set_option maxHeartbeats 2000000 in
/-- **slices.SortedFunc(maps.Keys(m), account.compare)**, the iterator made. -/
theorem sorted_any (Bm b nn : Nat) (D : DataW Unit) (w : World) (hBm : Bm < w.heap.size) (hm : w.cell? ⟨Bm, 0, none⟩ = some (.map (some b))) (hown : accM w b nn D) (hsz : Maps.size D ≤ 1000000) :
    Calls Tryd.prog 57 #[.func (.func 66) #[] #[.pointer (some ⟨Bm, 0, none⟩)], .func (.func 48) #[] #[]] w fun e w' =>
      ∃ v ks, e = .returned v ∧ (HeldIs D ks ∧ ks.length ≤ Maps.size D) ∧ w'.ownsRow w.heap.size 75 2 v ks.length (accCells ks) ∧ Below w.heap.size w w' := by
  have HC := hid' (callsIn_wide.1 (collectAcc_in Fence.wide 4 trivial trivial rfl (by omega) 66 #[.pointer (some ⟨Bm, 0, none⟩)] trivial (enters_of Tryd.func66 (by kernel_rfl) rfl)
    _ _ _ hsz w (keys_stops Fence.wide (4 - 1 - 1) trivial rfl (by omega) Bm b nn D w hBm hm hown)))
  have HZ := hid' hsz
  clear hm hown hsz
  go_enter Tryd.func57, Tryd.ntmps57
  go_wp2_with fail
  refine HC.out.mono ?_
  rintro e w1 ⟨v, ss, rfl, ⟨hS, hlen0⟩, hrow, hb⟩
  have HS := hid' hS
  have HB := hid' hb
  have hlen : ss.length ≤ 1000000 := Nat.le_trans hlen0 HZ.out
  have HL0 := hid' hlen0
  clear hlen0
  have HR := hid' (sortAcc_any v ss w.heap.size w1 hrow hb.size hlen)
  clear hS hrow hb hlen HC
  go_wp2_with fail
  refine HR.out.mono ?_
  rintro e w2 ⟨rfl, hrow2, hb2⟩
  have HE := hid' (And.intro hrow2 hb2)
  clear hrow2 hb2 HR
  go_wp2_with fail
  go_ret
  refine ⟨v, _, rfl, ⟨heldIs_sorted HS.out, by rw [List.length_mergeSort]; exact HL0.out⟩, ?_, HB.out.trans HE.out.2⟩
  rw [List.length_mergeSort]
  exact HE.out.1
end Go.Proofs.YtmmbhmlhenpgbaaDoor

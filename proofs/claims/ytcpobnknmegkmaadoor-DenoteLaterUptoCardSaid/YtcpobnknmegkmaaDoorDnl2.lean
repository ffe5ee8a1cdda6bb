/- Proved: lemmas and contracts of the functions that the law reaches, part 2 of 4: DnCards1. Conditions: as each states. -/
import Derived.Test.YtcpobnknmegkmaaDoorDnm18
namespace Go.Proofs.YtcpobnknmegkmaaDoor
open Go.ChangeShapes Go.WideShapes Go.ChangeAt Go.RowKit
set_option linter.unusedVariables false
set_option linter.unusedSimpArgs false
set_option maxRecDepth 100000
theorem feed_in2 {H : Type} {enc : TypeId × Value → H} {W : World} {m : Nat} {cs : List Value} {x : DataW H × List MemPlace} (hf : DataW.trod enc Tryd.prog W 0 (fun _ => true) true m 66 cs = some x) (hbk : Rows.uptoBulk x.1 ≤ 1048576) :
    ∃ (y : Fd.Feed) (sv : Value), cs = [.string y.1, sv] ∧ StampsAt W sv y.2 ∧ y.1.size ≤ 2000000 ∧ y.2.length ≤ 1048576 := by
  obtain ⟨xs, n, _, hx, hl, hlen, hfs⟩ := DataW.trod_struct Tryd.underlying66 hf
  have hln : cs.length = 2 := hl.trans (by kernel_rfl)
  match xs, hlen, cs, hln with
  | [y0, y1], _, [c0, c1], _ =>
    have kS : Tryd.prog.cellsOf 9 = 1 := by kernel_rfl
    have kL : Tryd.prog.cellsOf 64 = 1 := by kernel_rfl
    have h0 : DataW.trod enc Tryd.prog W 0 (fun _ => true) true n 9 [c0] = some y0 := by simpa [kS, kL] using hfs 0 _ rfl
    have h1 : DataW.trod enc Tryd.prog W 0 (fun _ => true) true n 64 [c1] = some y1 := by simpa [kS, kL] using hfs 1 _ rfl
    obtain ⟨n0, e0, x0, w0⟩ := DataW.trod_string Tryd.underlying9 h0
    obtain rfl : c0 = .string n0 := by simpa using e0
    obtain ⟨l, hl, hll, _⟩ := stamps_in h1
    subst hx
    simp only [Rows.uptoBulk, Rows.uptoBulkAll, List.map_cons, List.map_nil, x0] at hbk
    have z0 : n0.size = n0.data.toList.length := by rw [Array.length_toList]; rfl
    exact ⟨(n0, l), c1, rfl, hl, by show n0.size ≤ _; omega, by show l.length ≤ _; omega⟩
theorem feeds_in2 {H : Type} {enc : TypeId × Value → H} {W : World} {k : Nat} {v : Value} {y : DataW H × List MemPlace} (h : DataW.trod enc Tryd.prog W 0 (fun _ => true) true k 25 [v] = some y) (hbk : Rows.uptoBulk y.1 ≤ 1048576) :
    ∃ l : List Fd.Feed, FeedsAt W v l ∧ l.length ≤ 1048576 ∧ ∀ f ∈ l, f.2.length ≤ 1048576 := by
  rcases Go.Deep.open_slice Tryd.underlying25 h with ⟨hcs, hx⟩ | ⟨a, len, cap, m, n, D, Pl, hcs, _, hl, hm, hmm, rfl, hx⟩
  · obtain rfl : v = .slice none 0 0 := by simpa using hcs
    exact ⟨[], ⟨none, 0, rfl, ⟨Nat.le_refl _, Nat.zero_le _⟩, fun i o ho => by simp at ho⟩, Nat.zero_le _, fun f hf => by cases hf⟩
  · obtain rfl : v = .slice (some a) len cap := by simpa using hcs
    simp only [if_true] at hmm
    subst hmm
    rw [cells_feed] at hx
    by_cases hl0 : len = 0
    · subst hl0
      exact ⟨[], ⟨some a, _, rfl, ⟨Nat.zero_le _, hm⟩, fun i o ho => by simp at ho⟩, Nat.zero_le _, fun f hf => by cases hf⟩
    obtain ⟨_, hc1, _⟩ := hx 0 (by omega)
    obtain ⟨k1, k2⟩ := spot_in hc1 (by omega)
    obtain ⟨b, off, spot⟩ := a
    obtain rfl : spot = none := k1
    rw [Rows.uptoBulk] at hbk
    have each : ∀ i, i < len → ∃ y : Fd.Feed, ∃ sv, (W.cell? ⟨b, off + i * 2, none⟩ = some (.string y.1) ∧ W.cell? ⟨b, off + i * 2 + 1, none⟩ = some sv) ∧ StampsAt W sv y.2 ∧ y.1.size ≤ 2000000 ∧ y.2.length ≤ 1048576 := by
      intro i hi
      obtain ⟨cs, hcl, ht⟩ := hx i (by omega)
      have hmem : Rows.uptoBulk (D i) ≤ 1048576 := by
        have := bulk_mem (d := D i) (ds := (List.range len).map D) (List.mem_map_of_mem (List.mem_range.2 hi))
        omega
      obtain ⟨y, sv, rfl, hst, hsz⟩ := feed_in2 ht hmem
      obtain ⟨_, _, hc⟩ := World.cells?_some hcl
      have g0 := hc 0 (by decide)
      have g1 := hc 1 (by decide)
      rw [Go.Deep.add_add] at g0 g1
      rw [ad_is] at g0 g1
      exact ⟨y, sv, ⟨g0, g1⟩, hst, hsz⟩
    obtain ⟨f, hf⟩ := Go.Deep.choose_lt each
    have hlb : len ≤ 1048576 := by
      have := bulk_len ((List.range len).map D)
      simp only [List.length_map, List.length_range] at this
      omega
    refine ⟨(List.range len).map f, ⟨some ⟨b, off, none⟩, _, by simp, ⟨by simpa using hl, hm⟩, fun i x hx => ?_⟩, by simpa using hlb, fun x hx => ?_⟩
    · rw [List.getElem?_map] at hx
      obtain ⟨j, hj, rfl⟩ := Option.map_eq_some_iff.1 hx
      obtain ⟨hlt, e⟩ := List.getElem?_eq_some_iff.1 hj
      rw [List.getElem_range] at e
      subst e
      obtain ⟨sv, hc, hst, hsz, -⟩ := hf i (by simpa using hlt)
      exact ⟨b, off, sv, rfl, k2, hc, hst, hsz⟩
    · obtain ⟨j, hj, rfl⟩ := List.mem_map.1 hx
      obtain ⟨sv, -, -, -, hll⟩ := hf j (List.mem_range.1 hj)
      exact hll
end Go.Proofs.YtcpobnknmegkmaaDoor

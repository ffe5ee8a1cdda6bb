/- Proved: what vm's card needs of the listed tables, and of bytecodes, holds, feeds and choices that came in. -/
import Derived.Test.YtbpcgcmlpgdmbaaDoorCards
import Derived.Test.YtbpcgcmlpgdmbaaDoorTie
import Derived.Test.YtbpcgcmlpgdmbaaDoorGenR
import Derived.Test.YtbpcgcmlpgdmbaaDoorFeedMem
import Derived.OpenShut
import Derived.ShutString
import Derived.SliceStrings
import Derived.Deep.DeepHandedRow
import Derived.Deep.Slices
import Derived.Lib.LaidTab
import Derived.Lib.SmallJoins
namespace Go.Proofs.YtbpcgcmlpgdmbaaDoor
open Go.ChangeShapes Go.WideShapes Go.ChangeAt Go.RowKit
open Led
set_option linter.unusedVariables false
set_option maxRecDepth 100000

theorem maxLen_is : maxLen = 9223372036854775807 := by kernel_rfl
theorem laidOutX : laidOutB Tryd.prog = true := by kernel_rfl
theorem own : ownKnob Tryd.prog.godebug = none := by kernel_rfl
def layAccept : Obj → Obj
  | .cells _ t frozen => .cells ((([128, 191, 160, 191, 128, 159, 144, 191, 128, 143] : List Int) ++ List.replicate 22 0).map (Value.int .u8)).toArray t frozen
  | o => o
def layFirst : Obj → Obj
  | .cells _ t frozen => .cells (Pinned.utf8FirstZ.map fun (n : Nat) => Value.int .u8 (n : Int)).toArray t frozen
  | o => o
/-- A world for the witness: the settled one, the tables' blocks holding the tables. -/
noncomputable def laidWorld (os : Os) : World :=
  { World.holding Tryd.prog os ⟨#[], #[], []⟩ with heap := ((World.holding Tryd.prog os ⟨#[], #[], []⟩).heap.modify 4 layAccept).modify 3 layFirst }

theorem cellsInt : Tryd.prog.cellsOf 2 = 1 := by kernel_rfl
/-- What the judge's word of a slice says of its address. -/
theorem slice_spot {P : Program} {W : World} {base : Nat} {t e : TypeId} {a : Addr} {len cap : Nat} (ht : P.underlying t = some (.slice e)) (h : Cell.okWide P W .any base t (.slice (some a) len cap)) :
    a.spot = none ∧ a.block < W.heap.size ∧ len ≤ cap ∧ cap ≤ maxLen := by
  simp only [Cell.okWide, ht, Cell.ok] at h
  obtain ⟨h1, h2, _, h3, row, cells, h4, _⟩ := h
  refine ⟨h3, ?_, h1, ?_⟩
  · rcases Nat.lt_or_ge a.block W.heap.size with h' | h'
    · exact h'
    · simp [World.shape?, Array.getElem?_eq_none h'] at h4
  · rw [maxLen_is]
    have : IntKind.i64.max = 9223372036854775807 := by decide
    omega

theorem wf_string_le {s : ByteArray} (h : s.size ≤ maxLen) : s.size ≤ 9223372036854775807 := by rw [maxLen_is] at h; exact h

theorem range64 {n : Int} (h : (Lit.int .i64 n).wf = true) : -9223372036854775808 ≤ n ∧ n ≤ 9223372036854775807 := by
  have e0 : IntKind.i64.min = -9223372036854775808 := by decide
  have e1 : IntKind.i64.max = 9223372036854775807 := by decide
  simpa [Lit.wf, e0, e1] using h
theorem bulk_one {H : Type} (d : DataW H) : 1 ≤ Rows.uptoBulk d := by
  cases d with
  | lit l => cases l <;> simp [Rows.uptoBulk]
  | _ => simp [Rows.uptoBulk]
theorem bulk_len {H : Type} : ∀ ds : List (DataW H), ds.length ≤ Rows.uptoBulkAll ds
  | [] => Nat.zero_le _
  | d :: r => by
    have h1 := bulk_one d
    have h2 := bulk_len r
    rw [Rows.uptoBulkAll, List.length_cons]
    omega
theorem bulk_mem {H : Type} {d : DataW H} : ∀ {ds : List (DataW H)}, d ∈ ds → Rows.uptoBulk d ≤ Rows.uptoBulkAll ds
  | [], h => by cases h
  | x :: r, h => by
    rw [Rows.uptoBulkAll]
    rcases List.mem_cons.1 h with rfl | h
    · omega
    · have := bulk_mem h
      omega
theorem ad_is (b off k : Nat) : ((⟨b, off, none⟩ : Addr).add k) = ⟨b, off + k, none⟩ := by
  by_cases hk : k = 0
  · subst hk; simp [Addr.add]
  · simp [Addr.add, hk]
def wtVals (y : Gen.Wt) : List Value := [.int .i64 y.entry, .int .i64 y.day, .string y.label, .int .i64 y.first, .int .i64 y.second]
def ixVals (y : Gen.Ix) : List Value := [.int .i64 y.op, .int .i64 y.a, .int .i64 y.b, .int .i64 y.c, .int .i64 y.n, .string y.s, .int .i64 y.to]
theorem wt_in {H : Type} {enc : TypeId × Value → H} {W : World} {m : Nat} {cs : List Value} {x : DataW H × List MemPlace} (hf : DataW.trod enc Tryd.prog W 0 (fun _ => true) true m 56 cs = some x) (hbk : Rows.uptoBulk x.1 ≤ 1048576) :
    ∃ y : Gen.Wt, cs = wtVals y ∧ WtFits y := by
  obtain ⟨xs, n, _, hx, hl, hlen, hfs⟩ := DataW.trod_struct Tryd.underlying56 hf
  have hln : cs.length = 5 := hl.trans (by kernel_rfl)
  match xs, hlen, cs, hln with
  | [y0, y1, y2, y3, y4], _, [c0, c1, c2, c3, c4], _ =>
    have kS : Tryd.prog.cellsOf 9 = 1 := by kernel_rfl
    have kI : Tryd.prog.cellsOf 3 = 1 := by kernel_rfl
    have kL : Tryd.prog.cellsOf 2 = 1 := by kernel_rfl
    have h0 : DataW.trod enc Tryd.prog W 0 (fun _ => true) true n 3 [c0] = some y0 := by simpa [kS, kI, kL] using hfs 0 _ rfl
    have h1 : DataW.trod enc Tryd.prog W 0 (fun _ => true) true n 3 [c1] = some y1 := by simpa [kS, kI, kL] using hfs 1 _ rfl
    have h2 : DataW.trod enc Tryd.prog W 0 (fun _ => true) true n 9 [c2] = some y2 := by simpa [kS, kI, kL] using hfs 2 _ rfl
    have h3 : DataW.trod enc Tryd.prog W 0 (fun _ => true) true n 3 [c3] = some y3 := by simpa [kS, kI, kL] using hfs 3 _ rfl
    have h4 : DataW.trod enc Tryd.prog W 0 (fun _ => true) true n 3 [c4] = some y4 := by simpa [kS, kI, kL] using hfs 4 _ rfl
    obtain ⟨n0, e0, x0, w0⟩ := DataW.trod_int Tryd.underlying3 h0
    obtain ⟨n1, e1, x1, w1⟩ := DataW.trod_int Tryd.underlying3 h1
    obtain ⟨n2, e2, x2, w2⟩ := DataW.trod_string Tryd.underlying9 h2
    obtain ⟨n3, e3, x3, w3⟩ := DataW.trod_int Tryd.underlying3 h3
    obtain ⟨n4, e4, x4, w4⟩ := DataW.trod_int Tryd.underlying3 h4
    obtain rfl : c0 = .int .i64 n0 := by simpa using e0
    obtain rfl : c1 = .int .i64 n1 := by simpa using e1
    obtain rfl : c2 = .string n2 := by simpa using e2
    obtain rfl : c3 = .int .i64 n3 := by simpa using e3
    obtain rfl : c4 = .int .i64 n4 := by simpa using e4
    subst hx
    simp only [Rows.uptoBulk, Rows.uptoBulkAll, List.map_cons, List.map_nil, x0, x1, x2, x3, x4] at hbk
    have z2 : n2.size = n2.data.toList.length := by rw [Array.length_toList]; rfl
    exact ⟨⟨n0, n1, n2, n3, n4⟩, rfl, ⟨range64 w0, range64 w1, by show n2.size ≤ _; omega, range64 w3, range64 w4⟩⟩
theorem ix_in {H : Type} {enc : TypeId × Value → H} {W : World} {m : Nat} {cs : List Value} {x : DataW H × List MemPlace} (hf : DataW.trod enc Tryd.prog W 0 (fun _ => true) true m 39 cs = some x) (hbk : Rows.uptoBulk x.1 ≤ 1048576) :
    ∃ y : Gen.Ix, cs = ixVals y ∧ IxFits y := by
  obtain ⟨xs, n, _, hx, hl, hlen, hfs⟩ := DataW.trod_struct Tryd.underlying39 hf
  have hln : cs.length = 7 := hl.trans (by kernel_rfl)
  match xs, hlen, cs, hln with
  | [y0, y1, y2, y3, y4, y5, y6], _, [c0, c1, c2, c3, c4, c5, c6], _ =>
    have kS : Tryd.prog.cellsOf 9 = 1 := by kernel_rfl
    have kI : Tryd.prog.cellsOf 3 = 1 := by kernel_rfl
    have kL : Tryd.prog.cellsOf 2 = 1 := by kernel_rfl
    have h0 : DataW.trod enc Tryd.prog W 0 (fun _ => true) true n 3 [c0] = some y0 := by simpa [kS, kI, kL] using hfs 0 _ rfl
    have h1 : DataW.trod enc Tryd.prog W 0 (fun _ => true) true n 3 [c1] = some y1 := by simpa [kS, kI, kL] using hfs 1 _ rfl
    have h2 : DataW.trod enc Tryd.prog W 0 (fun _ => true) true n 3 [c2] = some y2 := by simpa [kS, kI, kL] using hfs 2 _ rfl
    have h3 : DataW.trod enc Tryd.prog W 0 (fun _ => true) true n 3 [c3] = some y3 := by simpa [kS, kI, kL] using hfs 3 _ rfl
    have h4 : DataW.trod enc Tryd.prog W 0 (fun _ => true) true n 2 [c4] = some y4 := by simpa [kS, kI, kL] using hfs 4 _ rfl
    have h5 : DataW.trod enc Tryd.prog W 0 (fun _ => true) true n 9 [c5] = some y5 := by simpa [kS, kI, kL] using hfs 5 _ rfl
    have h6 : DataW.trod enc Tryd.prog W 0 (fun _ => true) true n 3 [c6] = some y6 := by simpa [kS, kI, kL] using hfs 6 _ rfl
    obtain ⟨n0, e0, x0, w0⟩ := DataW.trod_int Tryd.underlying3 h0
    obtain ⟨n1, e1, x1, w1⟩ := DataW.trod_int Tryd.underlying3 h1
    obtain ⟨n2, e2, x2, w2⟩ := DataW.trod_int Tryd.underlying3 h2
    obtain ⟨n3, e3, x3, w3⟩ := DataW.trod_int Tryd.underlying3 h3
    obtain ⟨n4, e4, x4, w4⟩ := DataW.trod_int Tryd.underlying2 h4
    obtain ⟨n5, e5, x5, w5⟩ := DataW.trod_string Tryd.underlying9 h5
    obtain ⟨n6, e6, x6, w6⟩ := DataW.trod_int Tryd.underlying3 h6
    obtain rfl : c0 = .int .i64 n0 := by simpa using e0
    obtain rfl : c1 = .int .i64 n1 := by simpa using e1
    obtain rfl : c2 = .int .i64 n2 := by simpa using e2
    obtain rfl : c3 = .int .i64 n3 := by simpa using e3
    obtain rfl : c4 = .int .i64 n4 := by simpa using e4
    obtain rfl : c5 = .string n5 := by simpa using e5
    obtain rfl : c6 = .int .i64 n6 := by simpa using e6
    subst hx
    simp only [Rows.uptoBulk, Rows.uptoBulkAll, List.map_cons, List.map_nil, x0, x1, x2, x3, x4, x5, x6] at hbk
    have z5 : n5.size = n5.data.toList.length := by rw [Array.length_toList]; rfl
    exact ⟨⟨n0, n1, n2, n3, n4, n5, n6⟩, rfl, ⟨range64 w0, range64 w1, range64 w2, range64 w3, range64 w4, by show n5.size ≤ _; omega, range64 w6⟩⟩
theorem cells_wt : Tryd.prog.cellsOf 56 = 5 := by kernel_rfl
instance : Inhabited Gen.Wt := ⟨⟨0, 0, ⟨#[]⟩, 0, 0⟩⟩
theorem open_wts {H : Type} {enc : TypeId × Value → H} {W : World} {base k : Nat} {v : Value} {y : DataW H × List MemPlace} (hval : Cell.okWide Tryd.prog W .any base 22 v)
    (h : DataW.trod enc Tryd.prog W 0 (fun _ => true) true k 22 [v] = some y) (hbk : Rows.uptoBulk y.1 ≤ 1048576) : ∃ l : List Gen.Wt, WaitsAt W v l := by
  rcases Go.Deep.open_slice Tryd.underlying22 h with ⟨hcs, hx⟩ | ⟨a, len, cap, m, n, D, Pl, hcs, _, hl, hm, hmm, hx', hx⟩
  · obtain rfl : v = .slice none 0 0 := by simpa using hcs
    exact ⟨[], none, 0, rfl, ⟨Nat.le_refl _, Nat.zero_le _⟩, fun i o ho => by simp at ho⟩
  · obtain rfl : v = .slice (some a) len cap := by simpa using hcs
    obtain ⟨k1, k2, k3, k4⟩ := slice_spot Tryd.underlying22 hval
    obtain ⟨b, off, spot⟩ := a
    obtain rfl : spot = none := k1
    simp only [if_true] at hmm
    subst hmm
    rw [cells_wt] at hx
    subst hx'
    rw [Rows.uptoBulk] at hbk
    have each : ∀ i, i < len → ∃ o : Gen.Wt, (∀ j, j < 5 → W.cell? ⟨b, off + i * 5 + j, none⟩ = (wtVals o)[j]?) ∧ WtFits o := by
      intro i hi
      obtain ⟨cs, hcl, ht⟩ := hx i (by omega)
      have hmem : Rows.uptoBulk (D i) ≤ 1048576 := by
        have := bulk_mem (d := D i) (ds := (List.range len).map D) (List.mem_map_of_mem (List.mem_range.2 hi))
        omega
      obtain ⟨o, rfl, hfit⟩ := wt_in ht hmem
      obtain ⟨_, _, hc⟩ := World.cells?_some hcl
      refine ⟨o, fun k hk => ?_, hfit⟩
      have := hc k hk
      rw [Go.Deep.add_add, ad_is, ← Nat.add_assoc] at this
      exact this
    obtain ⟨f, hf'⟩ := Go.Deep.choose_lt each
    refine ⟨(List.range len).map f, some ⟨b, off, none⟩, _, by rw [List.length_map, List.length_range], ⟨by simpa using hl, hm⟩, fun i o hx => ?_⟩
    rw [List.getElem?_map] at hx
    obtain ⟨j, hj, rfl⟩ := Option.map_eq_some_iff.1 hx
    obtain ⟨hlt, e⟩ := List.getElem?_eq_some_iff.1 hj
    rw [List.getElem_range] at e
    subst e
    obtain ⟨hc, hfit⟩ := hf' i (by simpa using hlt)
    exact ⟨b, off, rfl, k2, ⟨hc 0 (by decide), hc 1 (by decide), hc 2 (by decide), hc 3 (by decide), hc 4 (by decide)⟩, hfit⟩
theorem cells_ix : Tryd.prog.cellsOf 39 = 7 := by kernel_rfl
instance : Inhabited Gen.Ix := ⟨⟨0, 0, 0, 0, 0, ⟨#[]⟩, 0⟩⟩
theorem open_ixs {H : Type} {enc : TypeId × Value → H} {W : World} {base k : Nat} {v : Value} {y : DataW H × List MemPlace} (hval : Cell.okWide Tryd.prog W .any base 23 v)
    (h : DataW.trod enc Tryd.prog W 0 (fun _ => true) true k 23 [v] = some y) (hbk : Rows.uptoBulk y.1 ≤ 1048576) : ∃ l : List Gen.Ix, InsAt W v l := by
  rcases Go.Deep.open_slice Tryd.underlying23 h with ⟨hcs, hx⟩ | ⟨a, len, cap, m, n, D, Pl, hcs, _, hl, hm, hmm, hx', hx⟩
  · obtain rfl : v = .slice none 0 0 := by simpa using hcs
    exact ⟨[], none, 0, rfl, ⟨Nat.le_refl _, Nat.zero_le _⟩, fun i o ho => by simp at ho⟩
  · obtain rfl : v = .slice (some a) len cap := by simpa using hcs
    obtain ⟨k1, k2, k3, k4⟩ := slice_spot Tryd.underlying23 hval
    obtain ⟨b, off, spot⟩ := a
    obtain rfl : spot = none := k1
    simp only [if_true] at hmm
    subst hmm
    rw [cells_ix] at hx
    subst hx'
    rw [Rows.uptoBulk] at hbk
    have each : ∀ i, i < len → ∃ o : Gen.Ix, (∀ j, j < 7 → W.cell? ⟨b, off + i * 7 + j, none⟩ = (ixVals o)[j]?) ∧ IxFits o := by
      intro i hi
      obtain ⟨cs, hcl, ht⟩ := hx i (by omega)
      have hmem : Rows.uptoBulk (D i) ≤ 1048576 := by
        have := bulk_mem (d := D i) (ds := (List.range len).map D) (List.mem_map_of_mem (List.mem_range.2 hi))
        omega
      obtain ⟨o, rfl, hfit⟩ := ix_in ht hmem
      obtain ⟨_, _, hc⟩ := World.cells?_some hcl
      refine ⟨o, fun k hk => ?_, hfit⟩
      have := hc k hk
      rw [Go.Deep.add_add, ad_is, ← Nat.add_assoc] at this
      exact this
    obtain ⟨f, hf'⟩ := Go.Deep.choose_lt each
    refine ⟨(List.range len).map f, some ⟨b, off, none⟩, _, by rw [List.length_map, List.length_range], ⟨by simpa using hl, hm⟩, fun i o hx => ?_⟩
    rw [List.getElem?_map] at hx
    obtain ⟨j, hj, rfl⟩ := Option.map_eq_some_iff.1 hx
    obtain ⟨hlt, e⟩ := List.getElem?_eq_some_iff.1 hj
    rw [List.getElem_range] at e
    subst e
    obtain ⟨hc, hfit⟩ := hf' i (by simpa using hlt)
    exact ⟨b, off, rfl, k2, ⟨hc 0 (by decide), hc 1 (by decide), hc 2 (by decide), hc 3 (by decide), hc 4 (by decide), hc 5 (by decide), hc 6 (by decide)⟩, hfit⟩
/-- A bytecode that came in by value. -/
theorem open_code {H : Type} {enc : TypeId × Value → H} {W : World} {base : Nat} {v : Value} {d : DataW H} {p : List MemPlace} (hval : Value.okWide Tryd.prog W .any base 25 v)
    (h : DataW.Trod enc Tryd.prog W 0 (fun _ => true) true 25 v d p) (hbk : Rows.uptoBulk d ≤ 1048576) : ∃ c : Gen.Cd, CdAt W v c := by
  obtain ⟨v0, v1, v2, y0, y1, y2, n, rfl, hd, _, h0, h1, h2⟩ := Go.Joins.open_agg3 Tryd.underlying25 (by kernel_rfl) (by kernel_rfl) hval h
  obtain ⟨n0, e0, _, w0⟩ := DataW.trod_int Tryd.underlying3 h0
  obtain rfl : v0 = .int .i64 n0 := by simpa using e0
  subst hd
  simp only [Rows.uptoBulk, Rows.uptoBulkAll] at hbk
  have hc : ∀ (j : Nat) (t : TypeId) (u : Value), ([3, 22, 23] : List TypeId)[j]? = some t → (#[.int .i64 n0, v1, v2] : Array Value)[j]? = some u → Cell.okWide Tryd.prog W .any base t u := by
    obtain ⟨cs, hcs, _, hrow⟩ : ∃ cs, (Value.agg #[.int .i64 n0, v1, v2]) = .agg cs ∧ cs.size = Tryd.prog.cellsOf 25 ∧ Row.okWide Tryd.prog W .any base 25 cs := by
      simpa only [Value.okWide, Tryd.underlying25] using hval
    obtain rfl := Value.agg.inj hcs
    obtain ⟨ts, hts, _, hrow⟩ := hrow
    have e : Tryd.prog.cellTypes Tryd.prog.depth 25 = some [3, 22, 23] := by kernel_rfl
    obtain rfl := Option.some.inj (hts.symm.trans e)
    intro j t u ht hu
    obtain ⟨t', ht', hok⟩ := hrow j u hu
    have hj : j < 3 := by have := (List.getElem?_eq_some_iff.1 ht).1; simpa using this
    have ht2 : ([3, 22, 23] : List TypeId)[j % 3]? = some t' := by simpa using ht'
    rw [Nat.mod_eq_of_lt hj] at ht2
    obtain rfl : t = t' := Option.some.inj (ht.symm.trans ht2)
    exact hok
  obtain ⟨lw, hw⟩ := open_wts (hc 1 22 v1 rfl rfl) h1 (by omega)
  obtain ⟨li, hi⟩ := open_ixs (hc 2 23 v2 rfl rfl) h2 (by omega)
  exact ⟨⟨n0, lw, li⟩, v1, v2, rfl, hw, hi, range64 w0⟩
theorem spot_of_cell {W : World} {a : Addr} {v : Value} (h : W.cell? a = some v) : a.spot = none := by
  unfold World.cell? at h
  split at h
  · split at h
    · cases h
    · rename_i h1
      simpa using h1
  · cases h
theorem spot_in {W : World} {a : Addr} {n : Nat} {cs : List Value} (h : W.cells? 0 (a.add (0 * n)) n = some cs) (hn : 0 < n) : a.spot = none ∧ a.block < W.heap.size := by
  obtain ⟨_, hl, hc⟩ := World.cells?_some h
  have h0 := hc 0 hn
  have e : (a.add (0 * n)).add 0 = a := by simp [Addr.add]
  rw [List.getElem?_eq_getElem (by omega), e] at h0
  exact ⟨spot_of_cell h0, World.block_lt_of_cell? W a h0⟩
theorem cells_hold : Tryd.prog.cellsOf 49 = 2 := by kernel_rfl
theorem hold_in {H : Type} {enc : TypeId × Value → H} {W : World} {m : Nat} {cs : List Value} {x : DataW H × List MemPlace} (hf : DataW.trod enc Tryd.prog W 0 (fun _ => true) true m 49 cs = some x) :
    ∃ y : Int × Int, cs = [.int .i64 y.1, .int .i64 y.2] ∧ I64 y.1 ∧ I64 y.2 := by
  obtain ⟨xs, n, _, hx, hl, hlen, hfs⟩ := DataW.trod_struct Tryd.underlying49 hf
  have hln : cs.length = 2 := hl.trans (by kernel_rfl)
  match xs, hlen, cs, hln with
  | [y0, y1], _, [c0, c1], _ =>
    have kI : Tryd.prog.cellsOf 3 = 1 := by kernel_rfl
    have kL : Tryd.prog.cellsOf 2 = 1 := by kernel_rfl
    have h0 : DataW.trod enc Tryd.prog W 0 (fun _ => true) true n 3 [c0] = some y0 := by simpa [kI, kL] using hfs 0 _ rfl
    have h1 : DataW.trod enc Tryd.prog W 0 (fun _ => true) true n 2 [c1] = some y1 := by simpa [kI, kL] using hfs 1 _ rfl
    obtain ⟨n0, e0, x0, w0⟩ := DataW.trod_int Tryd.underlying3 h0
    obtain ⟨n1, e1, x1, w1⟩ := DataW.trod_int Tryd.underlying2 h1
    obtain rfl : c0 = .int .i64 n0 := by simpa using e0
    obtain rfl : c1 = .int .i64 n1 := by simpa using e1
    exact ⟨(n0, n1), rfl, range64 w0, range64 w1⟩
/-- A slice of such pairs that lies somewhere in what came in. -/
theorem holds_in {H : Type} {enc : TypeId × Value → H} {W : World} {k : Nat} {v : Value} {y : DataW H × List MemPlace} (h : DataW.trod enc Tryd.prog W 0 (fun _ => true) true k 26 [v] = some y) :
    ∃ l : List (Int × Int), StampsAt W v l ∧ l.length ≤ Rows.uptoBulk y.1 ∧ ∀ n k, v = .slice none n k → k = 0 := by
  rcases Go.Deep.open_slice Tryd.underlying26 h with ⟨hcs, hx⟩ | ⟨a, len, cap, m, n, D, Pl, hcs, _, hl, hm, hmm, rfl, hx⟩
  · obtain rfl : v = .slice none 0 0 := by simpa using hcs
    exact ⟨[], ⟨none, 0, rfl, ⟨Nat.le_refl _, Nat.zero_le _⟩, fun i o ho => by simp at ho⟩, Nat.zero_le _, fun n k e => by simp only [Value.slice.injEq] at e; exact e.2.2.symm⟩
  · obtain rfl : v = .slice (some a) len cap := by simpa using hcs
    simp only [if_true] at hmm
    subst hmm
    rw [cells_hold] at hx
    by_cases hl0 : len = 0
    · subst hl0
      exact ⟨[], ⟨some a, _, rfl, ⟨Nat.zero_le _, hm⟩, fun i o ho => by simp at ho⟩, Nat.zero_le _, fun n k e => by simp at e⟩
    obtain ⟨_, hc1, _⟩ := hx 0 (by omega)
    obtain ⟨k1, k2⟩ := spot_in hc1 (by omega)
    obtain ⟨b, off, spot⟩ := a
    obtain rfl : spot = none := k1
    have each : ∀ i, i < len → ∃ y : Int × Int, (W.cell? ⟨b, off + i * 2, none⟩ = some (.int .i64 y.1) ∧ W.cell? ⟨b, off + i * 2 + 1, none⟩ = some (.int .i64 y.2)) ∧ I64 y.1 ∧ I64 y.2 := by
      intro i hi
      obtain ⟨cs, hcl, ht⟩ := hx i (by omega)
      obtain ⟨y, rfl, hr⟩ := hold_in ht
      obtain ⟨_, _, hc⟩ := World.cells?_some hcl
      have g0 := hc 0 (by decide)
      have g1 := hc 1 (by decide)
      rw [Go.Deep.add_add] at g0 g1
      rw [ad_is] at g0 g1
      exact ⟨y, ⟨g0, g1⟩, hr⟩
    obtain ⟨f, hf⟩ := Go.Deep.choose_lt each
    refine ⟨(List.range len).map f, ⟨some ⟨b, off, none⟩, _, by simp, ⟨by simpa using hl, hm⟩, fun i x hx => ?_⟩, ?_, fun n k e => by simp at e⟩
    · rw [List.getElem?_map] at hx
      obtain ⟨j, hj, rfl⟩ := Option.map_eq_some_iff.1 hx
      obtain ⟨hlt, e⟩ := List.getElem?_eq_some_iff.1 hj
      rw [List.getElem_range] at e
      subst e
      obtain ⟨hc, hi⟩ := hf i (by simpa using hlt)
      exact ⟨b, off, rfl, k2, hc, hi⟩
    · have := bulk_len ((List.range len).map D)
      simp only [Rows.uptoBulk, List.length_map, List.length_range] at this ⊢
      omega
theorem cells_stamp : Tryd.prog.cellsOf 71 = 2 := by kernel_rfl
theorem stamp_in {H : Type} {enc : TypeId × Value → H} {W : World} {m : Nat} {cs : List Value} {x : DataW H × List MemPlace} (hf : DataW.trod enc Tryd.prog W 0 (fun _ => true) true m 71 cs = some x) :
    ∃ y : Int × Int, cs = [.int .i64 y.1, .int .i64 y.2] ∧ I64 y.1 ∧ I64 y.2 := by
  obtain ⟨xs, n, _, hx, hl, hlen, hfs⟩ := DataW.trod_struct Tryd.underlying71 hf
  have hln : cs.length = 2 := hl.trans (by kernel_rfl)
  match xs, hlen, cs, hln with
  | [y0, y1], _, [c0, c1], _ =>
    have kI : Tryd.prog.cellsOf 3 = 1 := by kernel_rfl
    have kL : Tryd.prog.cellsOf 2 = 1 := by kernel_rfl
    have h0 : DataW.trod enc Tryd.prog W 0 (fun _ => true) true n 3 [c0] = some y0 := by simpa [kI, kL] using hfs 0 _ rfl
    have h1 : DataW.trod enc Tryd.prog W 0 (fun _ => true) true n 2 [c1] = some y1 := by simpa [kI, kL] using hfs 1 _ rfl
    obtain ⟨n0, e0, x0, w0⟩ := DataW.trod_int Tryd.underlying3 h0
    obtain ⟨n1, e1, x1, w1⟩ := DataW.trod_int Tryd.underlying2 h1
    obtain rfl : c0 = .int .i64 n0 := by simpa using e0
    obtain rfl : c1 = .int .i64 n1 := by simpa using e1
    exact ⟨(n0, n1), rfl, range64 w0, range64 w1⟩
/-- A slice of such pairs that lies somewhere in what came in. -/
theorem stamps_in {H : Type} {enc : TypeId × Value → H} {W : World} {k : Nat} {v : Value} {y : DataW H × List MemPlace} (h : DataW.trod enc Tryd.prog W 0 (fun _ => true) true k 67 [v] = some y) :
    ∃ l : List (Int × Int), StampsAt W v l ∧ l.length ≤ Rows.uptoBulk y.1 ∧ ∀ n k, v = .slice none n k → k = 0 := by
  rcases Go.Deep.open_slice Tryd.underlying67 h with ⟨hcs, hx⟩ | ⟨a, len, cap, m, n, D, Pl, hcs, _, hl, hm, hmm, rfl, hx⟩
  · obtain rfl : v = .slice none 0 0 := by simpa using hcs
    exact ⟨[], ⟨none, 0, rfl, ⟨Nat.le_refl _, Nat.zero_le _⟩, fun i o ho => by simp at ho⟩, Nat.zero_le _, fun n k e => by simp only [Value.slice.injEq] at e; exact e.2.2.symm⟩
  · obtain rfl : v = .slice (some a) len cap := by simpa using hcs
    simp only [if_true] at hmm
    subst hmm
    rw [cells_stamp] at hx
    by_cases hl0 : len = 0
    · subst hl0
      exact ⟨[], ⟨some a, _, rfl, ⟨Nat.zero_le _, hm⟩, fun i o ho => by simp at ho⟩, Nat.zero_le _, fun n k e => by simp at e⟩
    obtain ⟨_, hc1, _⟩ := hx 0 (by omega)
    obtain ⟨k1, k2⟩ := spot_in hc1 (by omega)
    obtain ⟨b, off, spot⟩ := a
    obtain rfl : spot = none := k1
    have each : ∀ i, i < len → ∃ y : Int × Int, (W.cell? ⟨b, off + i * 2, none⟩ = some (.int .i64 y.1) ∧ W.cell? ⟨b, off + i * 2 + 1, none⟩ = some (.int .i64 y.2)) ∧ I64 y.1 ∧ I64 y.2 := by
      intro i hi
      obtain ⟨cs, hcl, ht⟩ := hx i (by omega)
      obtain ⟨y, rfl, hr⟩ := stamp_in ht
      obtain ⟨_, _, hc⟩ := World.cells?_some hcl
      have g0 := hc 0 (by decide)
      have g1 := hc 1 (by decide)
      rw [Go.Deep.add_add] at g0 g1
      rw [ad_is] at g0 g1
      exact ⟨y, ⟨g0, g1⟩, hr⟩
    obtain ⟨f, hf⟩ := Go.Deep.choose_lt each
    refine ⟨(List.range len).map f, ⟨some ⟨b, off, none⟩, _, by simp, ⟨by simpa using hl, hm⟩, fun i x hx => ?_⟩, ?_, fun n k e => by simp at e⟩
    · rw [List.getElem?_map] at hx
      obtain ⟨j, hj, rfl⟩ := Option.map_eq_some_iff.1 hx
      obtain ⟨hlt, e⟩ := List.getElem?_eq_some_iff.1 hj
      rw [List.getElem_range] at e
      subst e
      obtain ⟨hc, hi⟩ := hf i (by simpa using hlt)
      exact ⟨b, off, rfl, k2, hc, hi⟩
    · have := bulk_len ((List.range len).map D)
      simp only [Rows.uptoBulk, List.length_map, List.length_range] at this ⊢
      omega
theorem cells_feed : Tryd.prog.cellsOf 69 = 2 := by kernel_rfl
theorem feed_in {H : Type} {enc : TypeId × Value → H} {W : World} {m : Nat} {cs : List Value} {x : DataW H × List MemPlace} (hf : DataW.trod enc Tryd.prog W 0 (fun _ => true) true m 69 cs = some x) (hbk : Rows.uptoBulk x.1 ≤ 1048576) :
    ∃ (y : Fd.Feed) (sv : Value), cs = [.string y.1, sv] ∧ StampsAt W sv y.2 ∧ y.1.size ≤ 2000000 := by
  obtain ⟨xs, n, _, hx, hl, hlen, hfs⟩ := DataW.trod_struct Tryd.underlying69 hf
  have hln : cs.length = 2 := hl.trans (by kernel_rfl)
  match xs, hlen, cs, hln with
  | [y0, y1], _, [c0, c1], _ =>
    have kS : Tryd.prog.cellsOf 9 = 1 := by kernel_rfl
    have kL : Tryd.prog.cellsOf 67 = 1 := by kernel_rfl
    have h0 : DataW.trod enc Tryd.prog W 0 (fun _ => true) true n 9 [c0] = some y0 := by simpa [kS, kL] using hfs 0 _ rfl
    have h1 : DataW.trod enc Tryd.prog W 0 (fun _ => true) true n 67 [c1] = some y1 := by simpa [kS, kL] using hfs 1 _ rfl
    obtain ⟨n0, e0, x0, w0⟩ := DataW.trod_string Tryd.underlying9 h0
    obtain rfl : c0 = .string n0 := by simpa using e0
    obtain ⟨l, hl, _, _⟩ := stamps_in h1
    subst hx
    simp only [Rows.uptoBulk, Rows.uptoBulkAll, List.map_cons, List.map_nil, x0] at hbk
    have z0 : n0.size = n0.data.toList.length := by rw [Array.length_toList]; rfl
    exact ⟨(n0, l), c1, rfl, hl, by show n0.size ≤ _; omega⟩
theorem feeds_in {H : Type} {enc : TypeId × Value → H} {W : World} {k : Nat} {v : Value} {y : DataW H × List MemPlace} (h : DataW.trod enc Tryd.prog W 0 (fun _ => true) true k 27 [v] = some y) (hbk : Rows.uptoBulk y.1 ≤ 1048576) :
    ∃ l : List Fd.Feed, FeedsAt W v l := by
  rcases Go.Deep.open_slice Tryd.underlying27 h with ⟨hcs, hx⟩ | ⟨a, len, cap, m, n, D, Pl, hcs, _, hl, hm, hmm, rfl, hx⟩
  · obtain rfl : v = .slice none 0 0 := by simpa using hcs
    exact ⟨[], none, 0, rfl, ⟨Nat.le_refl _, Nat.zero_le _⟩, fun i o ho => by simp at ho⟩
  · obtain rfl : v = .slice (some a) len cap := by simpa using hcs
    simp only [if_true] at hmm
    subst hmm
    rw [cells_feed] at hx
    by_cases hl0 : len = 0
    · subst hl0
      exact ⟨[], some a, _, rfl, ⟨Nat.zero_le _, hm⟩, fun i o ho => by simp at ho⟩
    obtain ⟨_, hc1, _⟩ := hx 0 (by omega)
    obtain ⟨k1, k2⟩ := spot_in hc1 (by omega)
    obtain ⟨b, off, spot⟩ := a
    obtain rfl : spot = none := k1
    rw [Rows.uptoBulk] at hbk
    have each : ∀ i, i < len → ∃ y : Fd.Feed, ∃ sv, (W.cell? ⟨b, off + i * 2, none⟩ = some (.string y.1) ∧ W.cell? ⟨b, off + i * 2 + 1, none⟩ = some sv) ∧ StampsAt W sv y.2 ∧ y.1.size ≤ 2000000 := by
      intro i hi
      obtain ⟨cs, hcl, ht⟩ := hx i (by omega)
      have hmem : Rows.uptoBulk (D i) ≤ 1048576 := by
        have := bulk_mem (d := D i) (ds := (List.range len).map D) (List.mem_map_of_mem (List.mem_range.2 hi))
        omega
      obtain ⟨y, sv, rfl, hst, hsz⟩ := feed_in ht hmem
      obtain ⟨_, _, hc⟩ := World.cells?_some hcl
      have g0 := hc 0 (by decide)
      have g1 := hc 1 (by decide)
      rw [Go.Deep.add_add] at g0 g1
      rw [ad_is] at g0 g1
      exact ⟨y, sv, ⟨g0, g1⟩, hst, hsz⟩
    obtain ⟨f, hf⟩ := Go.Deep.choose_lt each
    refine ⟨(List.range len).map f, some ⟨b, off, none⟩, _, by simp, ⟨by simpa using hl, hm⟩, fun i x hx => ?_⟩
    rw [List.getElem?_map] at hx
    obtain ⟨j, hj, rfl⟩ := Option.map_eq_some_iff.1 hx
    obtain ⟨hlt, e⟩ := List.getElem?_eq_some_iff.1 hj
    rw [List.getElem_range] at e
    subst e
    obtain ⟨sv, hc, hst, hsz⟩ := hf i (by simpa using hlt)
    exact ⟨b, off, sv, rfl, k2, hc, hst, hsz⟩
/-- A choice that came in by value. -/
theorem open_choice {H : Type} {enc : TypeId × Value → H} {W : World} {base : Nat} {v : Value} {d : DataW H} {p : List MemPlace} (hval : Value.okWide Tryd.prog W .any base 29 v)
    (h : DataW.Trod enc Tryd.prog W 0 (fun _ => true) true 29 v d p) (hbk : Rows.uptoBulk d ≤ 1048576) : ∃ lab wh, v = .agg #[.string lab, .int .i64 wh] ∧ lab.size ≤ 2000000 := by
  obtain ⟨v0, v1, y0, y1, n, rfl, hd, _, h0, h1⟩ := Go.Joins.open_agg2 Tryd.underlying29 (by kernel_rfl) (by kernel_rfl) hval h
  obtain ⟨n0, e0, x0, w0⟩ := DataW.trod_string Tryd.underlying9 h0
  obtain ⟨n1, e1, x1, w1⟩ := DataW.trod_int Tryd.underlying3 h1
  obtain rfl : v0 = .string n0 := by simpa using e0
  obtain rfl : v1 = .int .i64 n1 := by simpa using e1
  subst hd
  simp only [Rows.uptoBulk, Rows.uptoBulkAll, x0] at hbk
  have z0 : n0.size = n0.data.toList.length := by rw [Array.length_toList]; rfl
  exact ⟨n0, n1, rfl, by omega⟩
end Go.Proofs.YtbpcgcmlpgdmbaaDoor

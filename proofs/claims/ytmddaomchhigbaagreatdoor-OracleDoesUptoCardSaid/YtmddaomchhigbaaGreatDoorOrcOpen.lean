/- Proved: what came in as a script of operations, as it is read. -/
import Derived.Test.YtmddaomchhigbaaGreatDoorOrcCards0
import Derived.Test.YtmddaomchhigbaaGreatDoorOrcOps
import Derived.Deep.Slices
namespace Go.Proofs.YtmddaomchhigbaaGreatDoor
open Go.ChangeShapes Go.WideShapes Go.ChangeAt Go.RowKit
open Go.ChangeMaps (open_string shut_string)
open Led
set_option linter.unusedVariables false
set_option maxRecDepth 100000
theorem spot_of_cell {W : World} {a : Addr} {v : Value} (h : W.cell? a = some v) : a.spot = none := by
  unfold World.cell? at h
  split at h
  · split at h
    · cases h
    · rename_i h1
      simpa using h1
  · cases h
theorem spot_in {W : World} {a : Addr} {n : Nat} {cs : List Value} (h : W.cells? 0 (a.add (0 * n)) n = some cs) (hn : 0 < n) : a.spot = none ∧ a.block < W.heap.size := by
  obtain ⟨_, hl, hc⟩ := World.cells?_some h
  have h0 := hc 0 hn
  have e : (a.add (0 * n)).add 0 = a := by simp [Addr.add]
  rw [List.getElem?_eq_getElem (by omega), e] at h0
  exact ⟨spot_of_cell h0, World.block_lt_of_cell? W a h0⟩
theorem bulk_one {H : Type} (d : DataW H) : 1 ≤ Rows.uptoBulk d := by
  cases d with
  | lit l => cases l <;> simp [Rows.uptoBulk]
  | _ => simp [Rows.uptoBulk]
theorem bulk_len {H : Type} : ∀ ds : List (DataW H), ds.length ≤ Rows.uptoBulkAll ds
  | [] => Nat.zero_le _
  | d :: r => by
    have h1 := bulk_one d
    have h2 := bulk_len r
    rw [Rows.uptoBulkAll, List.length_cons]
    omega
theorem bulk_mem {H : Type} {d : DataW H} : ∀ {ds : List (DataW H)}, d ∈ ds → Rows.uptoBulk d ≤ Rows.uptoBulkAll ds
  | [], h => by cases h
  | x :: r, h => by
    rw [Rows.uptoBulkAll]
    rcases List.mem_cons.1 h with rfl | h
    · omega
    · have := bulk_mem h
      omega
theorem ad_is (b off k : Nat) : ((⟨b, off, none⟩ : Addr).add k) = ⟨b, off + k, none⟩ := by
  by_cases hk : k = 0
  · subst hk; simp [Addr.add]
  · simp [Addr.add, hk]
theorem raw_in {H : Type} {enc : TypeId × Value → H} {W : World} {n : Nat} {v : Value} {y : DataW H × List MemPlace} (h : DataW.trod enc Tryz.prog W 0 (fun _ => true) true n 24 [v] = some y) (hbk : Rows.uptoBulk y.1 ≤ 1048576) :
    ∃ l : List UInt8, Reads0 W v l ∧ l.length ≤ 1048576 := by
  rcases open_ints Tryz.underlying24 Tryz.underlying5 cellsByte h with ⟨hcs, hx⟩ | ⟨x, len, c, zs, hcs, _, hl, hm, hz, hx, hcell, hwz⟩
  · obtain rfl : v = .slice none 0 0 := by simpa using hcs
    exact ⟨[], Or.inl (Or.inl ⟨rfl, rfl⟩), Nat.zero_le _⟩
  · obtain rfl : v = .slice (some x) len c := by simpa using hcs
    simp only [if_true] at hz
    subst hx
    rw [Rows.uptoBulk] at hbk
    have hb1 := bulk_lits (H := H) .u8 (zs.take len)
    obtain ⟨l, hl8⟩ := nums_of (zs.take len) (fun z hz' => hwz z (List.mem_of_mem_take hz'))
    have hlen : (zs.take len).length = len := by rw [List.length_take]; omega
    have hl' : l.length = len := by rw [← hlen, ← hl8]; simp [nums]
    by_cases hc0 : c = 0
    · subst hc0
      obtain rfl : len = 0 := by omega
      exact ⟨[], Or.inr ⟨rfl, _, rfl⟩, Nat.zero_le _⟩
    · have h0 := hcell 0 (by omega)
      have e0 : x.add 0 = x := by simp [Addr.add]
      rw [e0] at h0
      have k1 := spot_of_cell h0
      have k2 := World.block_lt_of_cell? W x h0
      obtain ⟨b, off, spot⟩ := x
      obtain rfl : spot = none := k1
      refine ⟨l, Or.inl (Or.inr ⟨b, off, c, by rw [hl8, hlen], k2, by rw [hl8, hlen]; exact hl, hm, fun i hi => ?_⟩), by omega⟩
      rw [hl8] at hi ⊢
      have := hcell i (by omega)
      rw [List.getD_eq_getElem?_getD] at this ⊢
      rw [List.getElem?_take_of_lt (by omega)]
      rw [ad_is] at this
      exact this
theorem tip_in {H : Type} {enc : TypeId × Value → H} {W : World} {m : Nat} {c0 c1 c2 c3 c4 : Value} {x : DataW H × List MemPlace} (hf : DataW.trod enc Tryz.prog W 0 (fun _ => true) true m 23 [c0, c1, c2, c3, c4] = some x) (hbk : Rows.uptoBulk x.1 ≤ 1048576) :
    ∃ t : Orc.Tip, c0 = .string t.feed ∧ c1 = .int .i64 t.day ∧ c2 = .int .i64 t.n ∧ c3 = .int .i64 t.seq ∧ c4 = .string t.tag ∧ Orc.Fits t := by
  obtain ⟨xs, n, _, hx, hl, hlen, hfs⟩ := DataW.trod_struct Tryz.underlying23 hf
  match xs, hlen with
  | [y0, y1, y2, y3, y4], _ =>
    have h0 : DataW.trod enc Tryz.prog W 0 (fun _ => true) true n 9 [c0] = some y0 := by simpa [show Tryz.prog.cellsOf 9 = 1 by kernel_rfl] using hfs 0 _ rfl
    have h1 : DataW.trod enc Tryz.prog W 0 (fun _ => true) true n 3 [c1] = some y1 := by simpa [show Tryz.prog.cellsOf 3 = 1 by kernel_rfl] using hfs 1 _ rfl
    have h2 : DataW.trod enc Tryz.prog W 0 (fun _ => true) true n 2 [c2] = some y2 := by simpa [show Tryz.prog.cellsOf 2 = 1 by kernel_rfl] using hfs 2 _ rfl
    have h3 : DataW.trod enc Tryz.prog W 0 (fun _ => true) true n 2 [c3] = some y3 := by simpa [show Tryz.prog.cellsOf 2 = 1 by kernel_rfl] using hfs 3 _ rfl
    have h4 : DataW.trod enc Tryz.prog W 0 (fun _ => true) true n 9 [c4] = some y4 := by simpa [show Tryz.prog.cellsOf 9 = 1 by kernel_rfl] using hfs 4 _ rfl
    obtain ⟨s0, e0, x0, w0⟩ := DataW.trod_string Tryz.underlying9 h0
    obtain ⟨n1, e1, x1, w1⟩ := DataW.trod_int Tryz.underlying3 h1
    obtain ⟨n2, e2, x2, w2⟩ := DataW.trod_int Tryz.underlying2 h2
    obtain ⟨n3, e3, x3, w3⟩ := DataW.trod_int Tryz.underlying2 h3
    obtain ⟨s4, e4, x4, w4⟩ := DataW.trod_string Tryz.underlying9 h4
    obtain rfl : c0 = .string s0 := by simpa using e0
    obtain rfl : c1 = .int .i64 n1 := by simpa using e1
    obtain rfl : c2 = .int .i64 n2 := by simpa using e2
    obtain rfl : c3 = .int .i64 n3 := by simpa using e3
    obtain rfl : c4 = .string s4 := by simpa using e4
    subst x0 x1 x2 x3 x4
    subst hx
    have z0 : s0.size = s0.data.size := rfl
    have z4 : s4.size = s4.data.size := rfl
    simp [Rows.uptoBulk, Rows.uptoBulkAll] at hbk
    exact ⟨⟨s0, n1, n2, n3, s4⟩, rfl, rfl, rfl, rfl, rfl, ⟨by show s0.size ≤ _; omega, by show s4.size ≤ _; omega, range64 w1, range64 w2, range64 w3⟩⟩
theorem op_in {H : Type} {enc : TypeId × Value → H} {W : World} {m : Nat} {cs : List Value} {x : DataW H × List MemPlace} (hf : DataW.trod enc Tryz.prog W 0 (fun _ => true) true m 42 cs = some x) (hbk : Rows.uptoBulk x.1 ≤ 1048576) :
    ∃ (o : Opv) (rv : Value), cs = [.int .i64 o.kind, .string o.feed, .string o.key, .string o.tip.feed, .int .i64 o.tip.day, .int .i64 o.tip.n, .int .i64 o.tip.seq, .string o.tip.tag, rv, .int .i64 o.today] ∧ Reads0 W rv o.raw ∧ OpFits o := by
  obtain ⟨xs, n, _, hx, hl, hlen, hfs⟩ := DataW.trod_struct Tryz.underlying42 hf
  have hl10 : cs.length = 10 := hl.trans (by kernel_rfl)
  match xs, hlen, cs, hl10 with
  | [y0, y1, y2, y3, y4, y5], _, [c0, c1, c2, c3, c4, c5, c6, c7, c8, c9], _ =>
    have kT : Tryz.prog.cellsOf 23 = 5 := by kernel_rfl
    have kS : Tryz.prog.cellsOf 9 = 1 := by kernel_rfl
    have kI : Tryz.prog.cellsOf 3 = 1 := by kernel_rfl
    have kB : Tryz.prog.cellsOf 24 = 1 := by kernel_rfl
    have h0 : DataW.trod enc Tryz.prog W 0 (fun _ => true) true n 3 [c0] = some y0 := by simpa [kT, kS, kI, kB] using hfs 0 _ rfl
    have h1 : DataW.trod enc Tryz.prog W 0 (fun _ => true) true n 9 [c1] = some y1 := by simpa [kT, kS, kI, kB] using hfs 1 _ rfl
    have h2 : DataW.trod enc Tryz.prog W 0 (fun _ => true) true n 9 [c2] = some y2 := by simpa [kT, kS, kI, kB] using hfs 2 _ rfl
    have h3 : DataW.trod enc Tryz.prog W 0 (fun _ => true) true n 23 [c3, c4, c5, c6, c7] = some y3 := by simpa [kT, kS, kI, kB] using hfs 3 _ rfl
    have h4 : DataW.trod enc Tryz.prog W 0 (fun _ => true) true n 24 [c8] = some y4 := by simpa [kT, kS, kI, kB] using hfs 4 _ rfl
    have h5 : DataW.trod enc Tryz.prog W 0 (fun _ => true) true n 3 [c9] = some y5 := by simpa [kT, kS, kI, kB] using hfs 5 _ rfl
    obtain ⟨n0, e0, x0, w0⟩ := DataW.trod_int Tryz.underlying3 h0
    obtain ⟨s1, e1, x1, w1⟩ := DataW.trod_string Tryz.underlying9 h1
    obtain ⟨s2, e2, x2, w2⟩ := DataW.trod_string Tryz.underlying9 h2
    obtain ⟨n5, e5, x5, w5⟩ := DataW.trod_int Tryz.underlying3 h5
    subst hx
    simp only [Rows.uptoBulk, Rows.uptoBulkAll, List.map_cons, List.map_nil, x0, x1, x2, x5] at hbk
    obtain ⟨t, rfl, rfl, rfl, rfl, rfl, ht⟩ := tip_in h3 (by omega)
    obtain ⟨r, hr, hrl⟩ := raw_in h4 (by omega)
    obtain rfl : c0 = .int .i64 n0 := by simpa using e0
    obtain rfl : c1 = .string s1 := by simpa using e1
    obtain rfl : c2 = .string s2 := by simpa using e2
    obtain rfl : c9 = .int .i64 n5 := by simpa using e5
    have z1 : s1.size = s1.data.toList.length := by rw [Array.length_toList]; rfl
    have z2 : s2.size = s2.data.toList.length := by rw [Array.length_toList]; rfl
    exact ⟨⟨n0, s1, s2, t, r, n5⟩, c8, rfl, hr, ⟨range64 w0, by show s1.size ≤ _; omega, by show s2.size ≤ _; omega, ht, by show r.length ≤ _; omega⟩⟩
theorem cellsOp : Tryz.prog.cellsOf 42 = 10 := by kernel_rfl
instance : Inhabited Opv := ⟨⟨0, ⟨#[]⟩, ⟨#[]⟩, ⟨⟨#[]⟩, 0, 0, 0, ⟨#[]⟩⟩, [], 0⟩⟩
/-- A script that came in. -/
theorem open_ops {H : Type} {enc : TypeId × Value → H} {W : World} {base : Nat} {v : Value} {d : DataW H} {p : List MemPlace} (hval : Value.okWide Tryz.prog W .any base 34 v)
    (h : DataW.Trod enc Tryz.prog W 0 (fun _ => true) true 34 v d p) (hbk : Rows.uptoBulk d ≤ 1048576) : ∃ l : List Opv, ScriptAt W v l := by
  obtain ⟨a, len, cap, rfl⟩ := okWide_slice Tryz.underlying34 hval
  obtain ⟨fuel, hf⟩ := h
  rcases Go.Deep.open_slice Tryz.underlying34 hf with ⟨hcs, hx⟩ | ⟨a', len', cap', m, n, D, Pl, hcs, _, hl, hm, hmm, hx', hx⟩
  · simp [Value.cells] at hcs
    obtain ⟨rfl, rfl, rfl⟩ := hcs
    exact ⟨[], none, 0, rfl, by decide, fun i o ho => by simp at ho⟩
  · simp [Value.cells] at hcs
    obtain ⟨rfl, rfl, rfl⟩ := hcs
    simp only [if_true] at hmm
    subst hmm
    rw [cellsOp] at hx
    obtain ⟨hd, _⟩ := Prod.mk.inj hx'
    subst hd
    rw [Rows.uptoBulk] at hbk
    obtain ⟨k1, k2, k3, k4⟩ := slice_spot Tryz.underlying34 (show Cell.okWide Tryz.prog W .any base 34 _ by simpa only [Value.okWide, Tryz.underlying34] using hval)
    obtain ⟨b, off, spot⟩ := a'
    obtain rfl : spot = none := k1
    have each : ∀ i, i < len → ∃ o : Opv, ∃ rv, (W.cell? ⟨b, off + i * 10, none⟩ = some (.int .i64 o.kind) ∧ W.cell? ⟨b, off + i * 10 + 1, none⟩ = some (.string o.feed) ∧ W.cell? ⟨b, off + i * 10 + 2, none⟩ = some (.string o.key) ∧
        (W.cell? ⟨b, off + i * 10 + 3, none⟩ = some (.string o.tip.feed) ∧ W.cell? ⟨b, off + i * 10 + 4, none⟩ = some (.int .i64 o.tip.day) ∧ W.cell? ⟨b, off + i * 10 + 5, none⟩ = some (.int .i64 o.tip.n) ∧ W.cell? ⟨b, off + i * 10 + 6, none⟩ = some (.int .i64 o.tip.seq) ∧ W.cell? ⟨b, off + i * 10 + 7, none⟩ = some (.string o.tip.tag)) ∧
        W.cell? ⟨b, off + i * 10 + 8, none⟩ = some rv ∧ W.cell? ⟨b, off + i * 10 + 9, none⟩ = some (.int .i64 o.today)) ∧ Reads0 W rv o.raw ∧ OpFits o := by
      intro i hi
      obtain ⟨cs, hcl, ht⟩ := hx i (by omega)
      have hmem : Rows.uptoBulk (D i) ≤ 1048576 := by
        have := bulk_mem (d := D i) (ds := (List.range len).map D) (List.mem_map_of_mem (List.mem_range.2 hi))
        omega
      obtain ⟨o, rv, rfl, hr, hfit⟩ := op_in ht hmem
      obtain ⟨_, _, hc⟩ := World.cells?_some hcl
      have g : ∀ k, k < 10 → W.cell? ⟨b, off + i * 10 + k, none⟩ = ([.int .i64 o.kind, .string o.feed, .string o.key, .string o.tip.feed, .int .i64 o.tip.day, .int .i64 o.tip.n, .int .i64 o.tip.seq, .string o.tip.tag, rv, .int .i64 o.today] : List Value)[k]? := by
        intro k hk
        have := hc k hk
        rw [Go.Deep.add_add, ad_is, ← Nat.add_assoc] at this
        exact this
      exact ⟨o, rv, ⟨g 0 (by decide), g 1 (by decide), g 2 (by decide), ⟨g 3 (by decide), g 4 (by decide), g 5 (by decide), g 6 (by decide), g 7 (by decide)⟩, g 8 (by decide), g 9 (by decide)⟩, hr, hfit⟩
    obtain ⟨f, hf'⟩ := Go.Deep.choose_lt each
    refine ⟨(List.range len).map f, some ⟨b, off, none⟩, _, by rw [List.length_map, List.length_range], by rw [List.length_map, List.length_range]; rw [maxLen_is] at hm; omega, fun i o hx => ?_⟩
    rw [List.getElem?_map] at hx
    obtain ⟨j, hj, rfl⟩ := Option.map_eq_some_iff.1 hx
    obtain ⟨hlt, e⟩ := List.getElem?_eq_some_iff.1 hj
    rw [List.getElem_range] at e
    subst e
    obtain ⟨rv, hc, hr, hfit⟩ := hf' i (by simpa using hlt)
    exact ⟨b, off, rv, rfl, k2, hc, hr, hfit⟩
end Go.Proofs.YtmddaomchhigbaaGreatDoor

/- Proved: what the laws of the ledger are handed (a list of calls, each a list of postings; a list of postings; a posting) reads as plain lists; a world for the cards' witnesses. -/
import Derived.Test.YtmmbhmlhenpgbaaDoorCards
import Derived.Test.YtmmbhmlhenpgbaaDoorTie
import Derived.Test.YtmmbhmlhenpgbaaDoorLedCalls
import Derived.OpenShut
import Derived.ShutString
import Derived.SliceStrings
import Derived.Deep.DeepHandedRow
import Derived.Deep.Slices
import Derived.Lib.LaidTab
import Derived.Lib.SmallJoins
namespace Go.Proofs.YtmmbhmlhenpgbaaDoor
open Go.ChangeShapes Go.WideShapes Go.ChangeAt Go.RowKit
open Led
set_option linter.unusedVariables false
set_option maxRecDepth 100000

theorem own : ownKnob Tryd.prog.godebug = none := by kernel_rfl
def layAccept : Obj → Obj
  | .cells _ t frozen => .cells ((([128, 191, 160, 191, 128, 159, 144, 191, 128, 143] : List Int) ++ List.replicate 22 0).map (Value.int .u8)).toArray t frozen
  | o => o
def layFirst : Obj → Obj
  | .cells _ t frozen => .cells (Pinned.utf8FirstZ.map fun (n : Nat) => Value.int .u8 (n : Int)).toArray t frozen
  | o => o
/-- A world for the witness: the settled one, the tables' blocks holding the tables. -/
noncomputable def laidWorld (os : Os) : World :=
  { World.holding Tryd.prog os ⟨#[], #[], []⟩ with heap := ((World.holding Tryd.prog os ⟨#[], #[], []⟩).heap.modify 2 layAccept).modify 1 layFirst }

theorem cellsInt : Tryd.prog.cellsOf 2 = 1 := by kernel_rfl
theorem cellsByte : Tryd.prog.cellsOf 5 = 1 := by kernel_rfl
theorem cellsLeg : Tryd.prog.cellsOf 41 = 3 := by kernel_rfl
/-- What the judge's word of a slice says of its address. -/
theorem slice_spot {P : Program} {W : World} {base : Nat} {t e : TypeId} {a : Addr} {len cap : Nat} (ht : P.underlying t = some (.slice e)) (h : Cell.okWide P W .any base t (.slice (some a) len cap)) :
    a.spot = none ∧ a.block < W.heap.size ∧ len ≤ cap ∧ cap ≤ maxLen := by
  simp only [Cell.okWide, ht, Cell.ok] at h
  obtain ⟨h1, h2, _, h3, row, cells, h4, _⟩ := h
  refine ⟨h3, ?_, h1, ?_⟩
  · rcases Nat.lt_or_ge a.block W.heap.size with h' | h'
    · exact h'
    · simp [World.shape?, Array.getElem?_eq_none h'] at h4
  · rw [maxLen_is]
    have : IntKind.i64.max = 9223372036854775807 := by decide
    omega

theorem wf_string_le {s : ByteArray} (h : s.size ≤ maxLen) : s.size ≤ 9223372036854775807 := by rw [maxLen_is] at h; exact h

theorem range64 {n : Int} (h : (Lit.int .i64 n).wf = true) : -9223372036854775808 ≤ n ∧ n ≤ 9223372036854775807 := by
  have e0 : IntKind.i64.min = -9223372036854775808 := by decide
  have e1 : IntKind.i64.max = 9223372036854775807 := by decide
  simpa [Lit.wf, e0, e1] using h
instance : Inhabited Led.Leg := ⟨⟨⟨#[]⟩, ⟨#[]⟩, 0⟩⟩
/-- One leg's cells. -/
theorem open_leg {H : Type} {enc : TypeId × Value → H} {W : World} {n : Nat} {cs : List Value} {x : DataW H × List MemPlace} (h : DataW.trod enc Tryd.prog W 0 (fun _ => true) true n 41 cs = some x) :
    ∃ y : Led.Leg, cs = [.string y.party, .string y.cur, .int .i64 y.amount] ∧ y.party.size ≤ 9223372036854775807 ∧ y.cur.size ≤ 9223372036854775807 ∧ -9223372036854775808 ≤ y.amount ∧ y.amount ≤ 9223372036854775807 := by
  obtain ⟨y0, y1, y2, m, rfl, hl, h0, h1, h2⟩ := Go.Deep.trod_struct3 Tryd.underlying41 h
  have hl3 : cs.length = 3 := hl.trans (by kernel_rfl)
  match cs, hl3 with
  | [c0, c1, c2], _ =>
  dsimp only at h0 h1 h2
  rw [cellsStr] at h0 h1
  rw [cellsInt] at h2
  obtain ⟨s0, e0, _, w0⟩ := DataW.trod_string Tryd.underlying9 h0
  obtain ⟨s1, e1, _, w1⟩ := DataW.trod_string Tryd.underlying9 h1
  obtain ⟨n2, e2, _, w2⟩ := DataW.trod_int Tryd.underlying2 h2
  obtain rfl : c0 = .string s0 := by simpa using e0
  obtain rfl : c1 = .string s1 := by simpa using e1
  obtain rfl : c2 = .int .i64 n2 := by simpa using e2
  obtain ⟨r1, r2⟩ := range64 w2
  exact ⟨⟨s0, s1, n2⟩, rfl, wf_string_le w0, wf_string_le w1, r1, r2⟩

theorem spot_of_cell {W : World} {a : Addr} {v : Value} (h : W.cell? a = some v) : a.spot = none := by
  unfold World.cell? at h
  split at h
  · split at h
    · cases h
    · rename_i h1
      simpa using h1
  · cases h
theorem spot_in {W : World} {a : Addr} {n : Nat} {cs : List Value} (h : W.cells? 0 (a.add (0 * n)) n = some cs) (hn : 0 < n) : a.spot = none ∧ a.block < W.heap.size := by
  obtain ⟨_, hl, hc⟩ := World.cells?_some h
  have h0 := hc 0 hn
  have e : (a.add (0 * n)).add 0 = a := by simp [Addr.add]
  rw [List.getElem?_eq_getElem (by omega), e] at h0
  exact ⟨spot_of_cell h0, World.block_lt_of_cell? W a h0⟩
theorem bulk_one {H : Type} (d : DataW H) : 1 ≤ Rows.uptoBulk d := by
  cases d with
  | lit l => cases l <;> simp [Rows.uptoBulk]
  | _ => simp [Rows.uptoBulk]
theorem bulk_len {H : Type} : ∀ ds : List (DataW H), ds.length ≤ Rows.uptoBulkAll ds
  | [] => Nat.zero_le _
  | d :: r => by
    have h1 := bulk_one d
    have h2 := bulk_len r
    rw [Rows.uptoBulkAll, List.length_cons]
    omega
theorem bulk_mem {H : Type} {d : DataW H} : ∀ {ds : List (DataW H)}, d ∈ ds → Rows.uptoBulk d ≤ Rows.uptoBulkAll ds
  | [], h => by cases h
  | x :: r, h => by
    rw [Rows.uptoBulkAll]
    rcases List.mem_cons.1 h with rfl | h
    · omega
    · have := bulk_mem h
      omega
theorem ad_is (b off k : Nat) : ((⟨b, off, none⟩ : Addr).add k) = ⟨b, off + k, none⟩ := by
  by_cases hk : k = 0
  · subst hk; simp [Addr.add]
  · simp [Addr.add, hk]
/-- A slice of legs that lies somewhere in what came in. -/
theorem legs_in {H : Type} {enc : TypeId × Value → H} {W : World} {n : Nat} {v : Value} {y : DataW H × List MemPlace}
    (h : DataW.trod enc Tryd.prog W 0 (fun _ => true) true n 22 [v] = some y) : ∃ l : List Led.Leg, LegsAt W v l ∧ l.length ≤ Rows.uptoBulk y.1 := by
  rcases Go.Deep.open_slice Tryd.underlying22 h with ⟨hcs, hx⟩ | ⟨a, len, cap, m, n, D, Pl, hcs, _, hl, hm, hmm, rfl, hx⟩
  · obtain rfl : v = .slice none 0 0 := by simpa using hcs
    exact ⟨[], Or.inl ⟨⟨_, rfl⟩, rfl⟩, Nat.zero_le _⟩
  · obtain rfl : v = .slice (some a) len cap := by simpa using hcs
    simp only [if_true] at hmm
    subst hmm
    rw [cellsLeg] at hx
    by_cases hc0 : m = 0
    · subst hc0
      obtain rfl : len = 0 := by omega
      exact ⟨[], Or.inl ⟨⟨_, rfl⟩, rfl⟩, Nat.zero_le _⟩
    obtain ⟨_, hc1, _⟩ := hx 0 (by omega)
    obtain ⟨k1, k2⟩ := spot_in hc1 (by omega)
    obtain ⟨b, off, spot⟩ := a
    obtain rfl : spot = none := k1
    have each : ∀ i, i < len → ∃ y : Led.Leg, W.cell? ⟨b, off + i * 3, none⟩ = some (.string y.party) ∧ W.cell? ⟨b, off + i * 3 + 1, none⟩ = some (.string y.cur) ∧ W.cell? ⟨b, off + i * 3 + 2, none⟩ = some (.int .i64 y.amount) ∧
        y.party.size ≤ 9223372036854775807 ∧ y.cur.size ≤ 9223372036854775807 ∧ -9223372036854775808 ≤ y.amount ∧ y.amount ≤ 9223372036854775807 := by
      intro i hi
      obtain ⟨cs, hcl, ht⟩ := hx i (by omega)
      obtain ⟨y, rfl, hr⟩ := open_leg ht
      obtain ⟨_, _, hc⟩ := World.cells?_some hcl
      have g0 := hc 0 (by decide)
      have g1 := hc 1 (by decide)
      have g2 := hc 2 (by decide)
      rw [Go.Deep.add_add] at g0 g1 g2
      rw [ad_is] at g0 g1 g2
      exact ⟨y, g0, g1, g2, hr⟩
    obtain ⟨f, hf⟩ := Go.Deep.choose_lt each
    refine ⟨(List.range len).map f, Or.inr ⟨b, off, _, by simp, by simpa using hl, hm, k2, fun i x hx => ?_⟩, ?_⟩
    · rw [List.getElem?_map] at hx
      obtain ⟨j, hj, rfl⟩ := Option.map_eq_some_iff.1 hx
      obtain ⟨hlt, e⟩ := List.getElem?_eq_some_iff.1 hj
      rw [List.getElem_range] at e
      subst e
      exact hf i (by simpa using hlt)
    · have := bulk_len ((List.range len).map D)
      simp only [Rows.uptoBulk, List.length_map, List.length_range] at this ⊢
      omega
theorem cellsPost : Tryd.prog.cellsOf 24 = 3 := by kernel_rfl
theorem cellsLegs : Tryd.prog.cellsOf 22 = 1 := by kernel_rfl
theorem cellsInt0 : Tryd.prog.cellsOf 3 = 1 := by kernel_rfl
theorem cellsPosts : Tryd.prog.cellsOf 33 = 1 := by kernel_rfl
/-- One posting's cells. -/
theorem post_in {H : Type} {enc : TypeId × Value → H} {W : World} {n : Nat} {cs : List Value} {x : DataW H × List MemPlace} (h : DataW.trod enc Tryd.prog W 0 (fun _ => true) true n 24 cs = some x) :
    ∃ (y : Led.Post) (lv : Value), cs = [.int .i64 y.day, .int .i64 y.id, lv] ∧ LegsAt W lv y.legs ∧ (-9223372036854775808 ≤ y.day ∧ y.day ≤ 9223372036854775807) ∧ (-9223372036854775808 ≤ y.id ∧ y.id ≤ 9223372036854775807) := by
  obtain ⟨y0, y1, y2, m, rfl, hl, h0, h1, h2⟩ := Go.Deep.trod_struct3 Tryd.underlying24 h
  have hl3 : cs.length = 3 := hl.trans (by kernel_rfl)
  match cs, hl3 with
  | [c0, c1, c2], _ =>
  dsimp only at h0 h1 h2
  rw [cellsInt0] at h0 h1
  rw [cellsLegs] at h2
  obtain ⟨n0, e0, _, w0⟩ := DataW.trod_int Tryd.underlying3 h0
  obtain ⟨n1, e1, _, w1⟩ := DataW.trod_int Tryd.underlying3 h1
  obtain rfl : c0 = .int .i64 n0 := by simpa using e0
  obtain rfl : c1 = .int .i64 n1 := by simpa using e1
  obtain ⟨l, hl, _⟩ := legs_in (v := c2) (by simpa using h2)
  exact ⟨⟨n0, n1, l⟩, c2, rfl, hl, range64 w0, range64 w1⟩
/-- A posting that came in by value. -/
theorem open_post {H : Type} {enc : TypeId × Value → H} {W : World} {base : Nat} {v : Value} {d : DataW H} {p : List MemPlace} (hval : Value.okWide Tryd.prog W .any base 24 v)
    (h : DataW.Trod enc Tryd.prog W 0 (fun _ => true) true 24 v d p) : ∃ (q : Led.Post) (lv : Value), v = .agg #[.int .i64 q.day, .int .i64 q.id, lv] ∧ LegsAt W lv q.legs ∧ q.legs.length ≤ Rows.uptoBulk d ∧
      (-9223372036854775808 ≤ q.day ∧ q.day ≤ 9223372036854775807) ∧ (-9223372036854775808 ≤ q.id ∧ q.id ≤ 9223372036854775807) := by
  obtain ⟨v0, v1, v2, y0, y1, y2, n, rfl, hd, _, h0, h1, h2⟩ := Go.Joins.open_agg3 Tryd.underlying24 (by kernel_rfl) (by kernel_rfl) hval h
  obtain ⟨n0, e0, _, w0⟩ := DataW.trod_int Tryd.underlying3 h0
  obtain ⟨n1, e1, _, w1⟩ := DataW.trod_int Tryd.underlying3 h1
  obtain rfl : v0 = .int .i64 n0 := by simpa using e0
  obtain rfl : v1 = .int .i64 n1 := by simpa using e1
  obtain ⟨l, hl, hb⟩ := legs_in h2
  refine ⟨⟨n0, n1, l⟩, v2, rfl, hl, ?_, range64 w0, range64 w1⟩
  rw [hd]
  simp only [Rows.uptoBulk, Rows.uptoBulkAll]
  show l.length ≤ _
  omega
instance : Inhabited Led.Post := ⟨⟨0, 0, []⟩⟩
/-- A slice of postings that lies somewhere in what came in. -/
theorem posts_in {H : Type} {enc : TypeId × Value → H} {W : World} {n : Nat} {v : Value} {y : DataW H × List MemPlace}
    (h : DataW.trod enc Tryd.prog W 0 (fun _ => true) true n 33 [v] = some y) : ∃ l : List Led.Post, PostsAt W v l ∧ l.length ≤ Rows.uptoBulk y.1 := by
  rcases Go.Deep.open_slice Tryd.underlying33 h with ⟨hcs, hx⟩ | ⟨a, len, cap, m, n, D, Pl, hcs, _, hl, hm, hmm, rfl, hx⟩
  · obtain rfl : v = .slice none 0 0 := by simpa using hcs
    exact ⟨[], Or.inl ⟨⟨_, rfl⟩, rfl⟩, Nat.zero_le _⟩
  · obtain rfl : v = .slice (some a) len cap := by simpa using hcs
    simp only [if_true] at hmm
    subst hmm
    rw [cellsPost] at hx
    by_cases hc0 : m = 0
    · subst hc0
      obtain rfl : len = 0 := by omega
      exact ⟨[], Or.inl ⟨⟨_, rfl⟩, rfl⟩, Nat.zero_le _⟩
    obtain ⟨_, hc1, _⟩ := hx 0 (by omega)
    obtain ⟨k1, k2⟩ := spot_in hc1 (by omega)
    obtain ⟨b, off, spot⟩ := a
    obtain rfl : spot = none := k1
    have each : ∀ i, i < len → ∃ x : Led.Post, W.cell? ⟨b, off + i * 3, none⟩ = some (.int .i64 x.day) ∧ W.cell? ⟨b, off + i * 3 + 1, none⟩ = some (.int .i64 x.id) ∧ (∃ lv, W.cell? ⟨b, off + i * 3 + 2, none⟩ = some lv ∧ LegsAt W lv x.legs) ∧
        -9223372036854775808 ≤ x.day ∧ x.day ≤ 9223372036854775807 ∧ -9223372036854775808 ≤ x.id ∧ x.id ≤ 9223372036854775807 := by
      intro i hi
      obtain ⟨cs, hcl, ht⟩ := hx i (by omega)
      obtain ⟨y, lv, rfl, hr, hd, hi⟩ := post_in ht
      obtain ⟨_, _, hc⟩ := World.cells?_some hcl
      have g0 := hc 0 (by decide)
      have g1 := hc 1 (by decide)
      have g2 := hc 2 (by decide)
      rw [Go.Deep.add_add] at g0 g1 g2
      rw [ad_is] at g0 g1 g2
      exact ⟨y, g0, g1, ⟨lv, g2, hr⟩, hd.1, hd.2, hi.1, hi.2⟩
    obtain ⟨f, hf⟩ := Go.Deep.choose_lt each
    refine ⟨(List.range len).map f, Or.inr ⟨b, off, _, by simp, by simpa using hl, hm, k2, fun i x hx => ?_⟩, ?_⟩
    · rw [List.getElem?_map] at hx
      obtain ⟨j, hj, rfl⟩ := Option.map_eq_some_iff.1 hx
      obtain ⟨hlt, e⟩ := List.getElem?_eq_some_iff.1 hj
      rw [List.getElem_range] at e
      subst e
      exact hf i (by simpa using hlt)
    · have := bulk_len ((List.range len).map D)
      simp only [Rows.uptoBulk, List.length_map, List.length_range] at this ⊢
      omega
/-- Calls that came in. -/
theorem calls_in {H : Type} {enc : TypeId × Value → H} {W : World} {v : Value} {d : DataW H} {p : List MemPlace}
    (h : DataW.Trod enc Tryd.prog W 0 (fun _ => true) true 35 v d p) (hv : v.cells.toList = [v]) (hbk : Rows.uptoBulk d ≤ 1000000000) : ∃ l : List (List Led.Post), CallsAt W v l := by
  obtain ⟨n, h⟩ := h
  rw [hv] at h
  rcases Go.Deep.open_slice1 Tryd.underlying35 cellsPosts h with ⟨hcs, hx⟩ | ⟨a, len, cap, m, n, V, D, Pl, hcs, _, hl, hm, hmm, hxx, hx⟩
  · obtain rfl : v = .slice none 0 0 := by simpa using hcs
    exact ⟨[], Or.inl ⟨⟨_, rfl⟩, rfl⟩⟩
  · obtain rfl : v = .slice (some a) len cap := by simpa using hcs
    simp only [if_true] at hmm
    subst hmm
    obtain ⟨rfl, rfl⟩ := Prod.mk.inj hxx
    by_cases hc0 : m = 0
    · subst hc0
      obtain rfl : len = 0 := by omega
      exact ⟨[], Or.inl ⟨⟨_, rfl⟩, rfl⟩⟩
    have e0 : a.add 0 = a := by simp [Addr.add]
    have hc1 := (hx 0 (by omega)).1
    rw [e0] at hc1
    have k1 := spot_of_cell hc1
    have k2 := World.block_lt_of_cell? W a hc1
    obtain ⟨b, off, spot⟩ := a
    obtain rfl : spot = none := k1
    have each : ∀ i, i < len → ∃ ps : List Led.Post, ∃ pv, W.cell? ⟨b, off + i, none⟩ = some pv ∧ PostsAt W pv ps ∧ ps.length ≤ 1000000000 := by
      intro i hi
      obtain ⟨g, ht⟩ := hx i (by omega)
      rw [ad_is] at g
      obtain ⟨l, hl1, hl2⟩ := posts_in ht
      refine ⟨l, _, g, hl1, ?_⟩
      have : Rows.uptoBulk (D i) ≤ Rows.uptoBulkAll ((List.range len).map D) := bulk_mem (List.mem_map.2 ⟨i, List.mem_range.2 hi, rfl⟩)
      rw [Rows.uptoBulk] at hbk
      have hl3 : l.length ≤ Rows.uptoBulk (D i) := hl2
      omega
    obtain ⟨f, hf⟩ := Go.Deep.choose_lt each
    refine ⟨(List.range len).map f, Or.inr ⟨b, off, _, by simp, by simpa using hl, hm, k2, fun i x hx => ?_⟩⟩
    rw [List.getElem?_map] at hx
    obtain ⟨j, hj, rfl⟩ := Option.map_eq_some_iff.1 hx
    obtain ⟨hlt, e⟩ := List.getElem?_eq_some_iff.1 hj
    rw [List.getElem_range] at e
    subst e
    exact hf i (by simpa using hlt)
end Go.Proofs.YtmmbhmlhenpgbaaDoor

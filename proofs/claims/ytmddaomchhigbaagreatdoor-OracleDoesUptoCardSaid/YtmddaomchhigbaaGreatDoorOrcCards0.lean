/- Proved: what the oracle's cards need of the listed tables, and of tips and bytes that came in. -/
import Derived.Test.YtmddaomchhigbaaGreatDoorCards
import Derived.Test.YtmddaomchhigbaaGreatDoorTie
import Derived.Test.YtmddaomchhigbaaGreatDoorOrcShown
import Derived.OpenShut
import Derived.ShutString
import Derived.SliceStrings
import Derived.ChangeMaps5
import Derived.Deep.DeepHandedRow
import Derived.Deep.Slices
import Derived.Lib.LaidTab
import Derived.Lib.SmallJoins
import Derived.LaidHandle
import Derived.Stop.LaidErr
namespace Go.Proofs.YtmddaomchhigbaaGreatDoor
open Go.ChangeShapes Go.WideShapes Go.ChangeAt Go.RowKit
open Go.ChangeMaps (open_string shut_string)
open Led
set_option linter.unusedVariables false
set_option maxRecDepth 100000

theorem maxLen_is : maxLen = 9223372036854775807 := by kernel_rfl
theorem own : ownKnob Tryz.prog.godebug = none := by kernel_rfl
theorem laidOutX : laidOutB Tryz.prog = true := by kernel_rfl
def layAccept : Obj → Obj
  | .cells _ t frozen => .cells ((([128, 191, 160, 191, 128, 159, 144, 191, 128, 143] : List Int) ++ List.replicate 22 0).map (Value.int .u8)).toArray t frozen
  | o => o
def layFirst : Obj → Obj
  | .cells _ t frozen => .cells (Pinned.utf8FirstZ.map fun (n : Nat) => Value.int .u8 (n : Int)).toArray t frozen
  | o => o
def layKeys : Obj → Obj
  | .cells _ t frozen => .cells kcells t frozen
  | o => o
def layErr : Obj → Obj
  | .cells _ t frozen => .cells #[.iface 148 (.agg #[.pointer (some ⟨5, 67, none⟩)])] t frozen
  | o => o
/-- A world for the witness: the settled one, the tables' blocks holding the tables. -/
noncomputable def laidWorld (os : Os) : World :=
  { World.holding Tryz.prog os ⟨#[], #[], []⟩ with heap := ((((World.holding Tryz.prog os ⟨#[], #[], []⟩).heap.modify 3 layAccept).modify 2 layFirst).modify 1 layKeys).modify 0 layErr }
theorem gTab : Tryz.prog.globalNamed "usance/mac.keys" = some 1 := by kernel_rfl
theorem gTabType : (Tryz.prog.globals[1]?).map (·.type) = some 113 := by kernel_rfl
theorem cellsTab : Tryz.prog.cellsOf 113 = 64 := by kernel_rfl
theorem cellsWord : Tryz.prog.cellsOf 112 = 1 := by kernel_rfl
theorem laid_kk {H : Type} : (Rows.laid_usance_mac_keys : DataW H) = Lib.tabData .u32 Sha.kk := rfl
theorem gErr : Tryz.prog.globalNamed "errors.errorType" = some 0 := by kernel_rfl
theorem gRt : (Tryz.prog.cutTypes.find? (·.1 == "internal/reflectlite.rtype")).map (·.2) = some 148 := by kernel_rfl
theorem oneRow : ((List.range Tryz.prog.types.size).filter fun t => Tryz.prog.rowNamed t [101, 114, 114, 111, 114]) = [67] := by kernel_rfl
theorem handleErr : typeHandle Tryz.prog 67 = .pointer (some ⟨5, 67, none⟩) := by kernel_rfl
def allLaid : List (String × DataW Unit) := [("unicode/utf8.acceptRanges", Rows.laid_unicode_utf8_acceptRanges), ("errors.errorType", Rows.laid_errors_errorType), ("usance/mac.keys", Rows.laid_usance_mac_keys), ("unicode/utf8.first", Rows.laid_unicode_utf8_first)]
theorem laid_split {W : World} (h : laidMetH Tryz.prog allLaid W) : laidMet Tryz.prog [("unicode/utf8.acceptRanges", Rows.laid_unicode_utf8_acceptRanges), ("usance/mac.keys", Rows.laid_usance_mac_keys), ("unicode/utf8.first", Rows.laid_unicode_utf8_first)] W ∧ handlesMet Tryz.prog [("errors.errorType", Rows.laid_errors_errorType)] W := h
theorem keys_of {W : World} (h : laidMetH Tryz.prog allLaid W) : ∃ fr, Hid (Keys fr W) := by
  have ht : Lib.TabIs Tryz.prog W "usance/mac.keys" .u32 Sha.kk := Lib.tabIs_of_head (rest := [("unicode/utf8.first", Rows.laid_unicode_utf8_first)]) gTab gTabType Tryz.underlying113 Tryz.underlying112 cellsWord cellsTab (laidMet.tail (laid_split h).1)
  unfold Lib.TabIs World.var? at ht
  rw [gTab, Option.bind_some] at ht
  split at ht
  · rename_i cs t f hb
    simp only [Option.some.injEq] at ht
    subst ht
    exact ⟨(t, f), hid' hb⟩
  · cases ht
theorem err_of {W : World} (h : laidMetH Tryz.prog allLaid W) : ErrVar W := by
  obtain ⟨name, u, ty, e1, e2, e3, e4, e5⟩ := (laid_split h).2 _ (List.mem_singleton.2 rfl)
  have en : name = [101, 114, 114, 111, 114] := (Option.some.inj e1).symm
  subst en
  obtain rfl := Option.some.inj (gRt.symm.trans e2)
  have hm : ty ∈ (List.range Tryz.prog.types.size).filter fun t => Tryz.prog.rowNamed t [101, 114, 114, 111, 114] := List.mem_filter.2 ⟨List.mem_range.2 e3, e4⟩
  rw [oneRow] at hm
  obtain rfl := List.mem_singleton.1 hm
  rw [handleErr] at e5
  have := World.var?_cell gErr e5 0
  unfold ErrVar
  simpa using this
theorem cellsInt : Tryz.prog.cellsOf 2 = 1 := by kernel_rfl
theorem cellsByte : Tryz.prog.cellsOf 5 = 1 := by kernel_rfl
/-- What the judge's word of a slice says of its address. -/
theorem slice_spot {P : Program} {W : World} {base : Nat} {t e : TypeId} {a : Addr} {len cap : Nat} (ht : P.underlying t = some (.slice e)) (h : Cell.okWide P W .any base t (.slice (some a) len cap)) :
    a.spot = none ∧ a.block < W.heap.size ∧ len ≤ cap ∧ cap ≤ maxLen := by
  simp only [Cell.okWide, ht, Cell.ok] at h
  obtain ⟨h1, h2, _, h3, row, cells, h4, _⟩ := h
  refine ⟨h3, ?_, h1, ?_⟩
  · rcases Nat.lt_or_ge a.block W.heap.size with h' | h'
    · exact h'
    · simp [World.shape?, Array.getElem?_eq_none h'] at h4
  · rw [maxLen_is]
    have : IntKind.i64.max = 9223372036854775807 := by decide
    omega

theorem bulk_lits {H : Type} (k : IntKind) : ∀ zs : List Int, zs.length ≤ Rows.uptoBulkAll (lits (H := H) k zs)
  | [] => Nat.zero_le _
  | z :: zs => by
    have ih := bulk_lits (H := H) k zs
    rw [show lits (H := H) k (z :: zs) = .lit (.int k z) :: lits k zs from rfl, Rows.uptoBulkAll, List.length_cons]
    have : Rows.uptoBulk (H := H) (.lit (.int k z)) = 1 := by simp [Rows.uptoBulk]
    omega
theorem nums_of : ∀ zs : List Int, (∀ z ∈ zs, (Lit.int .u8 z).wf = true) → ∃ l : List UInt8, nums l = zs
  | [], _ => ⟨[], rfl⟩
  | z :: zs, h => by
    obtain ⟨l, hl⟩ := nums_of zs (fun x hx => h x (List.mem_cons_of_mem _ hx))
    have hz := h z (List.mem_cons_self ..)
    have hr : 0 ≤ z ∧ z ≤ 255 := by
      have e0 : IntKind.u8.min = 0 := by decide
      have e1 : IntKind.u8.max = 255 := by decide
      simpa [Lit.wf, e0, e1] using hz
    refine ⟨UInt8.ofNat z.toNat :: l, ?_⟩
    have hn : ((UInt8.ofNat z.toNat).toNat : Int) = z := by
      rw [UInt8.toNat_ofNat']
      omega
    simp only [nums, List.map_cons] at hl ⊢
    rw [hn, hl]

/-- A slice of bytes that came in. -/
theorem open_bytes {H : Type} {enc : TypeId × Value → H} {W : World} {base : Nat} {v : Value} {d : DataW H} {p : List MemPlace} (hval : Value.okWide Tryz.prog W .any base 24 v)
    (h : DataW.Trod enc Tryz.prog W 0 (fun _ => true) true 24 v d p) (hbk : Rows.uptoBulk d ≤ 1048576) : ∃ l : List UInt8, Reads W v (nums l) ∧ l.length ≤ 1048576 := by
  obtain ⟨a, len, cap, rfl⟩ := okWide_slice Tryz.underlying24 hval
  obtain ⟨fuel, hf⟩ := h
  rcases open_ints Tryz.underlying24 Tryz.underlying5 cellsByte hf with ⟨hcs, hx⟩ | ⟨x, l, c, zs, hcs, _, hl, hm, hz, hx, hcell, hwz⟩
  · simp [Value.cells] at hcs
    obtain ⟨rfl, rfl, rfl⟩ := hcs
    exact ⟨[], Or.inl ⟨rfl, rfl⟩, Nat.zero_le _⟩
  · simp [Value.cells] at hcs
    obtain ⟨rfl, rfl, rfl⟩ := hcs
    simp only [if_true] at hz
    obtain ⟨rfl, rfl⟩ := Prod.mk.inj hx
    rw [Rows.uptoBulk] at hbk
    have hb1 := bulk_lits (H := H) .u8 (zs.take len)
    obtain ⟨l, hl8⟩ := nums_of (zs.take len) (fun z hz' => hwz z (List.mem_of_mem_take hz'))
    have hlen : (zs.take len).length = len := by rw [List.length_take]; omega
    have hl' : l.length = len := by rw [← hlen, ← hl8]; simp [nums]
    obtain ⟨k1, k2, k3, k4⟩ := slice_spot Tryz.underlying24 (show Cell.okWide Tryz.prog W .any base 24 _ by simpa only [Value.okWide, Tryz.underlying24] using hval)
    obtain ⟨b, off, spot⟩ := x
    obtain rfl : spot = none := k1
    refine ⟨l, Or.inr ⟨b, off, cap, by rw [hl8, hlen], k2, by rw [hl8, hlen]; exact hl, hm, fun i hi => ?_⟩, by omega⟩
    rw [hl8] at hi ⊢
    have := hcell i (by omega)
    rw [List.getD_eq_getElem?_getD] at this ⊢
    rw [List.getElem?_take_of_lt (by omega)]
    by_cases hi0 : i = 0
    · subst hi0; simpa [Addr.add] using this
    · simpa [Addr.add, hi0] using this

theorem wf_string_le {s : ByteArray} (h : s.size ≤ maxLen) : s.size ≤ 9223372036854775807 := by rw [maxLen_is] at h; exact h

theorem range64 {n : Int} (h : (Lit.int .i64 n).wf = true) : -9223372036854775808 ≤ n ∧ n ≤ 9223372036854775807 := by
  have e0 : IntKind.i64.min = -9223372036854775808 := by decide
  have e1 : IntKind.i64.max = 9223372036854775807 := by decide
  simpa [Lit.wf, e0, e1] using h

theorem array5 {α : Type} {cs : Array α} (h : cs.size = 5) : ∃ c0 c1 c2 c3 c4, cs = #[c0, c1, c2, c3, c4] := by
  obtain ⟨l⟩ := cs
  match l, h with
  | [a, b, c, d, e], _ => exact ⟨a, b, c, d, e, rfl⟩
/-- A tip that came in. -/
theorem open_tip {H : Type} {enc : TypeId × Value → H} {W : World} {base : Nat} {v : Value} {d : DataW H} {p : List MemPlace} (hval : Value.okWide Tryz.prog W .any base 23 v)
    (h : DataW.Trod enc Tryz.prog W 0 (fun _ => true) true 23 v d p) (hbk : Rows.uptoBulk d ≤ 1048576) : ∃ t : Orc.Tip, v = .agg #[.string t.feed, .int .i64 t.day, .int .i64 t.n, .int .i64 t.seq, .string t.tag] ∧ Orc.Fits t := by
  obtain ⟨cs, rfl, hsz⟩ := okWide_struct Tryz.underlying23 hval
  obtain ⟨c0, c1, c2, c3, c4, rfl⟩ := array5 (hsz.trans (by kernel_rfl))
  obtain ⟨fuel, hf⟩ := h
  obtain ⟨xs, n, _, hx, hl, hlen, hfs⟩ := DataW.trod_struct Tryz.underlying23 hf
  match xs, hlen with
  | [y0, y1, y2, y3, y4], _ =>
    have h0 : DataW.trod enc Tryz.prog W 0 (fun _ => true) true n 9 [c0] = some y0 := by simpa [Value.cells, show Tryz.prog.cellsOf 9 = 1 by kernel_rfl] using hfs 0 _ rfl
    have h1 : DataW.trod enc Tryz.prog W 0 (fun _ => true) true n 3 [c1] = some y1 := by simpa [Value.cells, show Tryz.prog.cellsOf 3 = 1 by kernel_rfl] using hfs 1 _ rfl
    have h2 : DataW.trod enc Tryz.prog W 0 (fun _ => true) true n 2 [c2] = some y2 := by simpa [Value.cells, show Tryz.prog.cellsOf 2 = 1 by kernel_rfl] using hfs 2 _ rfl
    have h3 : DataW.trod enc Tryz.prog W 0 (fun _ => true) true n 2 [c3] = some y3 := by simpa [Value.cells, show Tryz.prog.cellsOf 2 = 1 by kernel_rfl] using hfs 3 _ rfl
    have h4 : DataW.trod enc Tryz.prog W 0 (fun _ => true) true n 9 [c4] = some y4 := by simpa [Value.cells, show Tryz.prog.cellsOf 9 = 1 by kernel_rfl] using hfs 4 _ rfl
    obtain ⟨s0, e0, x0, w0⟩ := DataW.trod_string Tryz.underlying9 h0
    obtain ⟨n1, e1, x1, w1⟩ := DataW.trod_int Tryz.underlying3 h1
    obtain ⟨n2, e2, x2, w2⟩ := DataW.trod_int Tryz.underlying2 h2
    obtain ⟨n3, e3, x3, w3⟩ := DataW.trod_int Tryz.underlying2 h3
    obtain ⟨s4, e4, x4, w4⟩ := DataW.trod_string Tryz.underlying9 h4
    obtain rfl : c0 = .string s0 := by simpa using e0
    obtain rfl : c1 = .int .i64 n1 := by simpa using e1
    obtain rfl : c2 = .int .i64 n2 := by simpa using e2
    obtain rfl : c3 = .int .i64 n3 := by simpa using e3
    obtain rfl : c4 = .string s4 := by simpa using e4
    subst x0 x1 x2 x3 x4
    obtain ⟨hd, _⟩ := Prod.mk.inj hx
    subst hd
    have z0 : s0.size = s0.data.size := rfl
    have z4 : s4.size = s4.data.size := rfl
    simp [Rows.uptoBulk, Rows.uptoBulkAll] at hbk
    exact ⟨⟨s0, n1, n2, n3, s4⟩, rfl, ⟨by show s0.size ≤ _; omega, by show s4.size ≤ _; omega, range64 w1, range64 w2, range64 w3⟩⟩
end Go.Proofs.YtmddaomchhigbaaGreatDoor

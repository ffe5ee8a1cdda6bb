/- Proved: the laws LedgerBytes and LedgerBack (usancelaw20) return true and leave all that was there as it was. Conditions: the arguments together are of bulk at most 1048576 (the second form), the listed tables are tied to the text (the card). -/
import Derived.Test.YtmmbhmlhenpgbaaDoorCards
import Derived.Test.YtmmbhmlhenpgbaaDoorTie
import Derived.Test.YtmmbhmlhenpgbaaDoorLedLaws1
import Derived.OpenShut
import Derived.ShutString
import Derived.SliceStrings
import Derived.Deep.DeepHandedRow
import Derived.Deep.Slices
import Derived.Lib.LaidTab
import Derived.Lib.SmallJoins
namespace Go.Proofs.YtmmbhmlhenpgbaaDoor
open Go.ChangeShapes Go.WideShapes Go.ChangeAt Go.RowKit
open Led
set_option linter.unusedVariables false
set_option maxRecDepth 100000

theorem own : ownKnob Tryd.prog.godebug = none := by kernel_rfl
def layAccept : Obj → Obj
  | .cells _ t frozen => .cells ((([128, 191, 160, 191, 128, 159, 144, 191, 128, 143] : List Int) ++ List.replicate 22 0).map (Value.int .u8)).toArray t frozen
  | o => o
def layFirst : Obj → Obj
  | .cells _ t frozen => .cells (Pinned.utf8FirstZ.map fun (n : Nat) => Value.int .u8 (n : Int)).toArray t frozen
  | o => o
/-- A world for the witness: the settled one, the tables' blocks holding the tables. -/
noncomputable def laidWorld (os : Os) : World :=
  { World.holding Tryd.prog os ⟨#[], #[], []⟩ with heap := ((World.holding Tryd.prog os ⟨#[], #[], []⟩).heap.modify 2 layAccept).modify 1 layFirst }

theorem cellsInt : Tryd.prog.cellsOf 2 = 1 := by kernel_rfl
theorem cellsByte : Tryd.prog.cellsOf 5 = 1 := by kernel_rfl
theorem cellsLeg : Tryd.prog.cellsOf 41 = 3 := by kernel_rfl
/-- What the judge's word of a slice says of its address. -/
theorem slice_spot {P : Program} {W : World} {base : Nat} {t e : TypeId} {a : Addr} {len cap : Nat} (ht : P.underlying t = some (.slice e)) (h : Cell.okWide P W .any base t (.slice (some a) len cap)) :
    a.spot = none ∧ a.block < W.heap.size ∧ len ≤ cap ∧ cap ≤ maxLen := by
  simp only [Cell.okWide, ht, Cell.ok] at h
  obtain ⟨h1, h2, _, h3, row, cells, h4, _⟩ := h
  refine ⟨h3, ?_, h1, ?_⟩
  · rcases Nat.lt_or_ge a.block W.heap.size with h' | h'
    · exact h'
    · simp [World.shape?, Array.getElem?_eq_none h'] at h4
  · rw [maxLen_is]
    have : IntKind.i64.max = 9223372036854775807 := by decide
    omega

theorem bulk_lits {H : Type} (k : IntKind) : ∀ zs : List Int, zs.length ≤ Rows.uptoBulkAll (lits (H := H) k zs)
  | [] => Nat.zero_le _
  | z :: zs => by
    have ih := bulk_lits (H := H) k zs
    rw [show lits (H := H) k (z :: zs) = .lit (.int k z) :: lits k zs from rfl, Rows.uptoBulkAll, List.length_cons]
    have : Rows.uptoBulk (H := H) (.lit (.int k z)) = 1 := by simp [Rows.uptoBulk]
    omega
theorem nums_of : ∀ zs : List Int, (∀ z ∈ zs, (Lit.int .u8 z).wf = true) → ∃ l : List UInt8, nums l = zs
  | [], _ => ⟨[], rfl⟩
  | z :: zs, h => by
    obtain ⟨l, hl⟩ := nums_of zs (fun x hx => h x (List.mem_cons_of_mem _ hx))
    have hz := h z (List.mem_cons_self ..)
    have hr : 0 ≤ z ∧ z ≤ 255 := by
      have e0 : IntKind.u8.min = 0 := by decide
      have e1 : IntKind.u8.max = 255 := by decide
      simpa [Lit.wf, e0, e1] using hz
    refine ⟨UInt8.ofNat z.toNat :: l, ?_⟩
    have hn : ((UInt8.ofNat z.toNat).toNat : Int) = z := by
      rw [UInt8.toNat_ofNat']
      omega
    simp only [nums, List.map_cons] at hl ⊢
    rw [hn, hl]

/-- A slice of bytes that came in. -/
theorem open_bytes {H : Type} {enc : TypeId × Value → H} {W : World} {base : Nat} {v : Value} {d : DataW H} {p : List MemPlace} (hval : Value.okWide Tryd.prog W .any base 25 v)
    (h : DataW.Trod enc Tryd.prog W 0 (fun _ => true) true 25 v d p) (hbk : Rows.uptoBulk d ≤ 1048576) : ∃ l : List UInt8, Reads W v (nums l) ∧ l.length ≤ 1048576 := by
  obtain ⟨a, len, cap, rfl⟩ := okWide_slice Tryd.underlying25 hval
  obtain ⟨fuel, hf⟩ := h
  rcases open_ints Tryd.underlying25 Tryd.underlying5 cellsByte hf with ⟨hcs, hx⟩ | ⟨x, l, c, zs, hcs, _, hl, hm, hz, hx, hcell, hwz⟩
  · simp [Value.cells] at hcs
    obtain ⟨rfl, rfl, rfl⟩ := hcs
    exact ⟨[], Or.inl ⟨rfl, rfl⟩, Nat.zero_le _⟩
  · simp [Value.cells] at hcs
    obtain ⟨rfl, rfl, rfl⟩ := hcs
    simp only [if_true] at hz
    obtain ⟨rfl, rfl⟩ := Prod.mk.inj hx
    rw [Rows.uptoBulk] at hbk
    have hb1 := bulk_lits (H := H) .u8 (zs.take len)
    obtain ⟨l, hl8⟩ := nums_of (zs.take len) (fun z hz' => hwz z (List.mem_of_mem_take hz'))
    have hlen : (zs.take len).length = len := by rw [List.length_take]; omega
    have hl' : l.length = len := by rw [← hlen, ← hl8]; simp [nums]
    obtain ⟨k1, k2, k3, k4⟩ := slice_spot Tryd.underlying25 (show Cell.okWide Tryd.prog W .any base 25 _ by simpa only [Value.okWide, Tryd.underlying25] using hval)
    obtain ⟨b, off, spot⟩ := x
    obtain rfl : spot = none := k1
    refine ⟨l, Or.inr ⟨b, off, cap, by rw [hl8, hlen], k2, by rw [hl8, hlen]; exact hl, hm, fun i hi => ?_⟩, by omega⟩
    rw [hl8] at hi ⊢
    have := hcell i (by omega)
    rw [List.getD_eq_getElem?_getD] at this ⊢
    rw [List.getElem?_take_of_lt (by omega)]
    by_cases hi0 : i = 0
    · subst hi0; simpa [Addr.add] using this
    · simpa [Addr.add, hi0] using this

theorem wf_string_le {s : ByteArray} (h : s.size ≤ maxLen) : s.size ≤ 9223372036854775807 := by rw [maxLen_is] at h; exact h

theorem range64 {n : Int} (h : (Lit.int .i64 n).wf = true) : -9223372036854775808 ≤ n ∧ n ≤ 9223372036854775807 := by
  have e0 : IntKind.i64.min = -9223372036854775808 := by decide
  have e1 : IntKind.i64.max = 9223372036854775807 := by decide
  simpa [Lit.wf, e0, e1] using h
instance : Inhabited Led.Leg := ⟨⟨⟨#[]⟩, ⟨#[]⟩, 0⟩⟩
/-- One leg's cells. -/
theorem open_leg {H : Type} {enc : TypeId × Value → H} {W : World} {n : Nat} {cs : List Value} {x : DataW H × List MemPlace} (h : DataW.trod enc Tryd.prog W 0 (fun _ => true) true n 41 cs = some x) :
    ∃ y : Led.Leg, cs = [.string y.party, .string y.cur, .int .i64 y.amount] ∧ y.party.size ≤ 9223372036854775807 ∧ y.cur.size ≤ 9223372036854775807 ∧ -9223372036854775808 ≤ y.amount ∧ y.amount ≤ 9223372036854775807 := by
  obtain ⟨y0, y1, y2, m, rfl, hl, h0, h1, h2⟩ := Go.Deep.trod_struct3 Tryd.underlying41 h
  have hl3 : cs.length = 3 := hl.trans (by kernel_rfl)
  match cs, hl3 with
  | [c0, c1, c2], _ =>
  dsimp only at h0 h1 h2
  rw [cellsStr] at h0 h1
  rw [cellsInt] at h2
  obtain ⟨s0, e0, _, w0⟩ := DataW.trod_string Tryd.underlying9 h0
  obtain ⟨s1, e1, _, w1⟩ := DataW.trod_string Tryd.underlying9 h1
  obtain ⟨n2, e2, _, w2⟩ := DataW.trod_int Tryd.underlying2 h2
  obtain rfl : c0 = .string s0 := by simpa using e0
  obtain rfl : c1 = .string s1 := by simpa using e1
  obtain rfl : c2 = .int .i64 n2 := by simpa using e2
  obtain ⟨r1, r2⟩ := range64 w2
  exact ⟨⟨s0, s1, n2⟩, rfl, wf_string_le w0, wf_string_le w1, r1, r2⟩

/-- A slice of legs that came in, inside a posting. -/
theorem open_legs {H : Type} {enc : TypeId × Value → H} {W : World} {base n : Nat} {v : Value} {y : DataW H × List MemPlace} (hval : Cell.okWide Tryd.prog W .any base 22 v)
    (h : DataW.trod enc Tryd.prog W 0 (fun _ => true) true n 22 [v] = some y) : ∃ l : List Led.Leg, LegsAt W v l := by
  rcases Go.Deep.open_slice Tryd.underlying22 h with ⟨hcs, hx⟩ | ⟨a, len, cap, m, n, D, Pl, hcs, _, hl, hm, hmm, rfl, hx⟩
  · obtain rfl : v = .slice none 0 0 := by simpa using hcs
    exact ⟨[], Or.inl ⟨rfl, rfl⟩⟩
  · obtain rfl : v = .slice (some a) len cap := by simpa using hcs
    obtain ⟨k1, k2, k3, k4⟩ := slice_spot Tryd.underlying22 hval
    obtain ⟨b, off, spot⟩ := a
    obtain rfl : spot = none := k1
    simp only [if_true] at hmm
    subst hmm
    rw [cellsLeg] at hx
    have each : ∀ i, i < len → ∃ y : Led.Leg, W.cell? ⟨b, off + i * 3, none⟩ = some (.string y.party) ∧ W.cell? ⟨b, off + i * 3 + 1, none⟩ = some (.string y.cur) ∧ W.cell? ⟨b, off + i * 3 + 2, none⟩ = some (.int .i64 y.amount) ∧
        y.party.size ≤ 9223372036854775807 ∧ y.cur.size ≤ 9223372036854775807 ∧ -9223372036854775808 ≤ y.amount ∧ y.amount ≤ 9223372036854775807 := by
      intro i hi
      obtain ⟨cs, hcl, ht⟩ := hx i (by omega)
      obtain ⟨y, rfl, hr⟩ := open_leg ht
      obtain ⟨_, _, hc⟩ := World.cells?_some hcl
      have g0 := hc 0 (by decide)
      have g1 := hc 1 (by decide)
      have g2 := hc 2 (by decide)
      rw [Go.Deep.add_add] at g0 g1 g2
      have ad : ∀ k : Nat, ((⟨b, off, none⟩ : Addr).add k) = ⟨b, off + k, none⟩ := fun k => by
        by_cases hk : k = 0
        · subst hk; simp [Addr.add]
        · simp [Addr.add, hk]
      rw [ad] at g0 g1 g2
      exact ⟨y, g0, g1, g2, hr⟩
    obtain ⟨f, hf⟩ := Go.Deep.choose_lt each
    refine ⟨(List.range len).map f, Or.inr ⟨b, off, _, by simp, by simpa using hl, hm, k2, fun i x hx => ?_⟩⟩
    rw [List.getElem?_map] at hx
    obtain ⟨j, hj, rfl⟩ := Option.map_eq_some_iff.1 hx
    obtain ⟨hlt, e⟩ := List.getElem?_eq_some_iff.1 hj
    rw [List.getElem_range] at e
    subst e
    exact hf i (by simpa using hlt)
/-- A posting that came in by value. -/
theorem open_post {H : Type} {enc : TypeId × Value → H} {W : World} {base : Nat} {v : Value} {d : DataW H} {p : List MemPlace} (hval : Value.okWide Tryd.prog W .any base 24 v)
    (h : DataW.Trod enc Tryd.prog W 0 (fun _ => true) true 24 v d p) : ∃ (q : Led.Post) (lv : Value), v = .agg #[.int .i64 q.day, .int .i64 q.id, lv] ∧ LegsAt W lv q.legs ∧
      (-9223372036854775808 ≤ q.day ∧ q.day ≤ 9223372036854775807) ∧ (-9223372036854775808 ≤ q.id ∧ q.id ≤ 9223372036854775807) := by
  obtain ⟨v0, v1, v2, y0, y1, y2, n, rfl, _, _, h0, h1, h2⟩ := Go.Joins.open_agg3 Tryd.underlying24 (by kernel_rfl) (by kernel_rfl) hval h
  obtain ⟨n0, e0, _, w0⟩ := DataW.trod_int Tryd.underlying3 h0
  obtain ⟨n1, e1, _, w1⟩ := DataW.trod_int Tryd.underlying3 h1
  obtain rfl : v0 = .int .i64 n0 := by simpa using e0
  obtain rfl : v1 = .int .i64 n1 := by simpa using e1
  have hc : Cell.okWide Tryd.prog W .any base 22 v2 := by
    obtain ⟨cs, hcs, _, hrow⟩ : ∃ cs, (Value.agg #[.int .i64 n0, .int .i64 n1, v2]) = .agg cs ∧ cs.size = Tryd.prog.cellsOf 24 ∧ Row.okWide Tryd.prog W .any base 24 cs := by
      simpa only [Value.okWide, Tryd.underlying24] using hval
    obtain rfl := Value.agg.inj hcs
    obtain ⟨ts, hts, _, hrow⟩ := hrow
    have e : Tryd.prog.cellTypes Tryd.prog.depth 24 = some [3, 3, 22] := by kernel_rfl
    obtain rfl := Option.some.inj (hts.symm.trans e)
    obtain ⟨u, hu, hok⟩ := hrow 2 v2 rfl
    obtain rfl : 22 = u := by simpa using hu
    exact hok
  obtain ⟨l, hl⟩ := open_legs hc h2
  exact ⟨⟨n0, n1, l⟩, v2, rfl, hl, range64 w0, range64 w1⟩

namespace fnLedgerBytes
theorem laid_met (os : Os) : laidMet Tryd.prog Rows.ledgerBytesUptoRow.laid ((laidWorld os).forCall (fun _ _ => 0) ⟨#[], #[.agg #[.int .i64 0, .int .i64 0, .slice none 0 0], .slice none 0 0], []⟩).memory :=
  laidMet_of_run' 8 (by kernel_rfl) (by kernel_rfl)
theorem reads (os : Os) {H : Type} (enc : TypeId × Value → H) : ∃ places, DataW.whole enc Tryd.prog ((laidWorld os).forCall (fun _ _ => 0) ⟨#[], #[.agg #[.int .i64 0, .int .i64 0, .slice none 0 0], .slice none 0 0], []⟩).memory Tryd.f3.params.toList Rows.ledgerBytesSpec.vars false (#[.agg #[.int .i64 0, .int .i64 0, .slice none 0 0], .slice none 0 0] : Array Value).toList 8 = some ([.agg [.lit (.int .i64 0), .lit (.int .i64 0), .nil], .nil], [], places) :=
  ⟨[], by kernel_rfl⟩

theorem lifted (os : Os) (started : os.Started) (H : Type) (enc : TypeId × Value → H) (F : Stop.Interp) :
    ReturnsInHanded {} Tryd.checked os 3 .any ((Rows.OpenSpec.upto Rows.ledgerBytesSpec).preRow enc Tryd.prog Tryd.f3 Rows.ledgerBytesUptoRow.domain false Rows.ledgerBytesUptoRow.laid) (((Rows.OpenSpec.upto Rows.ledgerBytesSpec).at F).post enc Tryd.prog Tryd.f3 false true false false) := by
  obtain ⟨places, hx⟩ := reads os enc
  refine returnsInHanded_of_row (C := Tryd.checked) (s := Rows.OpenSpec.upto Rows.ledgerBytesSpec) own started (by kernel_rfl) Tryd.func3
    (witness_row_at (enc := enc) (C := Tryd.checked) false (laidWorld os) #[.agg #[.int .i64 0, .int .i64 0, .slice none 0 0], .slice none 0 0] rfl (by kernel_rfl) (by kernel_rfl) (by kernel_rfl)
      (OpenSpec.preRow_of_cond 8 hx (by kernel_rfl) (fun k hk => by cases hk; kernel_rfl) (by kernel_rfl) (laid_met os))) ?_
  intro W base args ds gs before hval0 hW _ hcond _ hL _ _
  have hval : ∀ (j : Nat) t v, Tryd.f3.params[j]? = some t → args[j]? = some v → Value.okWide Tryd.prog W .any base t v := hval0
  have hW' := hW
  obtain ⟨p, q, hA0, hV, rfl, hfz, hnd⟩ := hW
  have hA : DataW.TrodAll enc Tryd.prog W 0 (fun _ => true) true Tryd.f3.params.toList args.toList ds p := hA0
  rw [Tryd.params3] at hA hval
  obtain ⟨v0, vs0, d0, ds0, p0, q0, hargs, rfl, rfl, h0, r0⟩ := trodAll_cons hA
  obtain ⟨v1, vs1, d1, ds1, p1, q1, rfl, rfl, rfl, h1, r1⟩ := trodAll_cons r0
  obtain ⟨rfl, rfl, rfl⟩ := trodAll_nil r1
  obtain rfl : args = #[v0, v1] := by cases args; simp_all
  obtain ⟨rfl, rfl⟩ := trodVars_none hV
  have lt0 : ∀ x ∈ p0, x.block < W.heap.size := by obtain ⟨m, hm⟩ := h0; exact DataW.trod_lt m _ _ _ hm
  have lt1 : ∀ x ∈ p1, x.block < W.heap.size := by obtain ⟨m, hm⟩ := h1; exact DataW.trod_lt m _ _ _ hm
  have hcnd := of_decide_eq_true (hcond _ rfl)
  simp only [Rows.uptoBulkAll, List.append_nil] at hcnd
  obtain ⟨l, hb, hlen⟩ := open_bytes (hval 1 25 v1 rfl rfl) h1 (by omega)
  obtain ⟨pp, lv, ev, hl, hd, hi⟩ := open_post (hval 0 24 v0 rfl rfl) h0
  subst ev
  clear hA0 hval0
  refine (law_bytes pp lv v1 l W hl hd hi hb (Nat.le_trans hlen (by decide))).mono fun e W' ⟨he, bel⟩ => ?_
  subst he
  exact ⟨_, rfl, _, _, _, [], _, [], hW', trodAll_mk1 (shut_bool Tryd.underlying4 _), (trodAll_cons_mk (Below.trod laidOutX (by kernel_rfl) (of_decide_eq_true (by kernel_rfl)) h0 bel lt0) (trodAll_cons_mk (Below.trod laidOutX (by kernel_rfl) (of_decide_eq_true (by kernel_rfl)) h1 bel lt1) trodAll_mk0)), rfl, bel.frame _, fun h => by cases h⟩

theorem saidUpto : Rows.LedgerBytesUptoSaid :=
  OpenClaim.holds_of_cond 3 Tryd.f3 rfl rfl rfl rfl rfl rfl rfl ⟨rfl, rfl, rfl, rfl, rfl⟩ rfl rfl rfl rfl rfl (by kernel_rfl) Tryd.func3 (by kernel_rfl)
    (of_decide_eq_true (by kernel_rfl)) (by unfold Func.isWrapper; first | (rw [if_pos (by decide +kernel)]; kernel_rfl) | (rw [if_neg (by decide +kernel)]; exact ⟨rfl, rfl⟩))
    (fun os started H enc _ F => by rw [OpenClaim.pre_eq_preRow]; exact lifted os started H enc F)

theorem plain (f : FuncId) (fn : Func) (hf : Tryd.pinned.checked.prog.funcNamed "usance/usancelaw20.LedgerBytes" = some f) (hfn : Tryd.pinned.checked.prog.funcs[f]? = some fn) :
    true = Tryd.pinned.checked.prog.looks [] ∧ ∀ (j : Nat) t, fn.params[j]? = some t → Tryd.pinned.checked.prog.wantsStandIn t = false := by
  obtain rfl : f = 3 := Option.some.inj ((show Tryd.prog.funcNamed "usance/usancelaw20.LedgerBytes" = some 3 by kernel_rfl).symm.trans hf) |>.symm
  obtain rfl : fn = Tryd.f3 := (Option.some.inj (Tryd.func3.symm.trans hfn)).symm
  refine ⟨by kernel_rfl, fun j t ht => ?_⟩
  rw [Tryd.params3] at ht
  obtain rfl | rfl : t = 24 ∨ t = 25 := by simpa using Array.mem_of_getElem? ht
  · exact (show Tryd.prog.wantsStandIn 24 = false by kernel_rfl)
  · exact (show Tryd.prog.wantsStandIn 25 = false by kernel_rfl)

theorem cardUpto : Rows.LedgerBytesUptoCardSaid :=
  Claim7.holds_tied_plain_at .later [] _ _ _ _ saidUpto (fun _ h => by cases h) (by kernel_rfl) (fun _ h => by cases h) ledgerBytesUpto_row_tie rfl ⟨rfl, rfl⟩ (by kernel_rfl) rfl plain (by kernel_rfl)
end fnLedgerBytes

namespace fnLedgerBack
theorem laid_met (os : Os) : laidMet Tryd.prog Rows.ledgerBackUptoRow.laid ((laidWorld os).forCall (fun _ _ => 0) ⟨#[], #[.agg #[.int .i64 0, .int .i64 0, .slice none 0 0], .slice none 0 0], []⟩).memory :=
  laidMet_of_run' 8 (by kernel_rfl) (by kernel_rfl)
theorem reads (os : Os) {H : Type} (enc : TypeId × Value → H) : ∃ places, DataW.whole enc Tryd.prog ((laidWorld os).forCall (fun _ _ => 0) ⟨#[], #[.agg #[.int .i64 0, .int .i64 0, .slice none 0 0], .slice none 0 0], []⟩).memory Tryd.f4.params.toList Rows.ledgerBackSpec.vars false (#[.agg #[.int .i64 0, .int .i64 0, .slice none 0 0], .slice none 0 0] : Array Value).toList 8 = some ([.agg [.lit (.int .i64 0), .lit (.int .i64 0), .nil], .nil], [], places) :=
  ⟨[], by kernel_rfl⟩

theorem lifted (os : Os) (started : os.Started) (H : Type) (enc : TypeId × Value → H) (F : Stop.Interp) :
    ReturnsInHanded {} Tryd.checked os 4 .any ((Rows.OpenSpec.upto Rows.ledgerBackSpec).preRow enc Tryd.prog Tryd.f4 Rows.ledgerBackUptoRow.domain false Rows.ledgerBackUptoRow.laid) (((Rows.OpenSpec.upto Rows.ledgerBackSpec).at F).post enc Tryd.prog Tryd.f4 false true false false) := by
  obtain ⟨places, hx⟩ := reads os enc
  refine returnsInHanded_of_row (C := Tryd.checked) (s := Rows.OpenSpec.upto Rows.ledgerBackSpec) own started (by kernel_rfl) Tryd.func4
    (witness_row_at (enc := enc) (C := Tryd.checked) false (laidWorld os) #[.agg #[.int .i64 0, .int .i64 0, .slice none 0 0], .slice none 0 0] rfl (by kernel_rfl) (by kernel_rfl) (by kernel_rfl)
      (OpenSpec.preRow_of_cond 8 hx (by kernel_rfl) (fun k hk => by cases hk; kernel_rfl) (by kernel_rfl) (laid_met os))) ?_
  intro W base args ds gs before hval0 hW _ hcond _ hL _ _
  have hval : ∀ (j : Nat) t v, Tryd.f4.params[j]? = some t → args[j]? = some v → Value.okWide Tryd.prog W .any base t v := hval0
  have hW' := hW
  obtain ⟨p, q, hA0, hV, rfl, hfz, hnd⟩ := hW
  have hA : DataW.TrodAll enc Tryd.prog W 0 (fun _ => true) true Tryd.f4.params.toList args.toList ds p := hA0
  rw [Tryd.params4] at hA hval
  obtain ⟨v0, vs0, d0, ds0, p0, q0, hargs, rfl, rfl, h0, r0⟩ := trodAll_cons hA
  obtain ⟨v1, vs1, d1, ds1, p1, q1, rfl, rfl, rfl, h1, r1⟩ := trodAll_cons r0
  obtain ⟨rfl, rfl, rfl⟩ := trodAll_nil r1
  obtain rfl : args = #[v0, v1] := by cases args; simp_all
  obtain ⟨rfl, rfl⟩ := trodVars_none hV
  have lt0 : ∀ x ∈ p0, x.block < W.heap.size := by obtain ⟨m, hm⟩ := h0; exact DataW.trod_lt m _ _ _ hm
  have lt1 : ∀ x ∈ p1, x.block < W.heap.size := by obtain ⟨m, hm⟩ := h1; exact DataW.trod_lt m _ _ _ hm
  have hcnd := of_decide_eq_true (hcond _ rfl)
  simp only [Rows.uptoBulkAll, List.append_nil] at hcnd
  obtain ⟨l, hb, hlen⟩ := open_bytes (hval 1 25 v1 rfl rfl) h1 (by omega)
  obtain ⟨pp, lv, ev, hl, hd, hi⟩ := open_post (hval 0 24 v0 rfl rfl) h0
  subst ev
  clear hA0 hval0
  refine (law_back pp lv v1 l W hl hd hi hb (Nat.le_trans hlen (by decide))).mono fun e W' ⟨he, bel⟩ => ?_
  subst he
  exact ⟨_, rfl, _, _, _, [], _, [], hW', trodAll_mk1 (shut_bool Tryd.underlying4 _), (trodAll_cons_mk (Below.trod laidOutX (by kernel_rfl) (of_decide_eq_true (by kernel_rfl)) h0 bel lt0) (trodAll_cons_mk (Below.trod laidOutX (by kernel_rfl) (of_decide_eq_true (by kernel_rfl)) h1 bel lt1) trodAll_mk0)), rfl, bel.frame _, fun h => by cases h⟩

theorem saidUpto : Rows.LedgerBackUptoSaid :=
  OpenClaim.holds_of_cond 4 Tryd.f4 rfl rfl rfl rfl rfl rfl rfl ⟨rfl, rfl, rfl, rfl, rfl⟩ rfl rfl rfl rfl rfl (by kernel_rfl) Tryd.func4 (by kernel_rfl)
    (of_decide_eq_true (by kernel_rfl)) (by unfold Func.isWrapper; first | (rw [if_pos (by decide +kernel)]; kernel_rfl) | (rw [if_neg (by decide +kernel)]; exact ⟨rfl, rfl⟩))
    (fun os started H enc _ F => by rw [OpenClaim.pre_eq_preRow]; exact lifted os started H enc F)

theorem plain (f : FuncId) (fn : Func) (hf : Tryd.pinned.checked.prog.funcNamed "usance/usancelaw20.LedgerBack" = some f) (hfn : Tryd.pinned.checked.prog.funcs[f]? = some fn) :
    true = Tryd.pinned.checked.prog.looks [] ∧ ∀ (j : Nat) t, fn.params[j]? = some t → Tryd.pinned.checked.prog.wantsStandIn t = false := by
  obtain rfl : f = 4 := Option.some.inj ((show Tryd.prog.funcNamed "usance/usancelaw20.LedgerBack" = some 4 by kernel_rfl).symm.trans hf) |>.symm
  obtain rfl : fn = Tryd.f4 := (Option.some.inj (Tryd.func4.symm.trans hfn)).symm
  refine ⟨by kernel_rfl, fun j t ht => ?_⟩
  rw [Tryd.params4] at ht
  obtain rfl | rfl : t = 24 ∨ t = 25 := by simpa using Array.mem_of_getElem? ht
  · exact (show Tryd.prog.wantsStandIn 24 = false by kernel_rfl)
  · exact (show Tryd.prog.wantsStandIn 25 = false by kernel_rfl)

theorem cardUpto : Rows.LedgerBackUptoCardSaid :=
  Claim7.holds_tied_plain_at .later [] _ _ _ _ saidUpto (fun _ h => by cases h) (by kernel_rfl) (fun _ h => by cases h) ledgerBackUpto_row_tie rfl ⟨rfl, rfl⟩ (by kernel_rfl) rfl plain (by kernel_rfl)
end fnLedgerBack
end Go.Proofs.YtmmbhmlhenpgbaaDoor

/- Proved: how a table lies in memory: its map of feeds, what is known of each, their stamps; what look-ups give; that it stays while other blocks turn (no walk). -/
import Derived.Test.YtmddaomchhigbaaGreatDoorOrcRef2
import Derived.Maps.Own
import Derived.Maps.OwnOps
import Derived.Maps.OwnSet
import Derived.Maps.Ext
import Derived.StringKeys
import Derived.Deep.AppendLies
namespace Go.Proofs.YtmddaomchhigbaaGreatDoor
open Go.RowKit Go.Maps
open Led Orc
set_option linter.unusedVariables false
set_option linter.unusedSimpArgs false
set_option maxRecDepth 100000
namespace Orc
structure Kn where
  name : ByteArray
  key : ByteArray
  seq : Int
  stamps : List (Int × Int)
structure Kb where
  kn : Kn
  kb : Nat
  sv : Value
def stampCells : List (Int × Int) → List Value
  | [] => []
  | x :: t => .int .i64 x.1 :: .int .i64 x.2 :: stampCells t
theorem stampCells_append (l m : List (Int × Int)) : stampCells (l ++ m) = stampCells l ++ stampCells m := by
  induction l with
  | nil => rfl
  | cons x t ih => simp only [List.cons_append, stampCells, ih]
theorem stampCells_len (l : List (Int × Int)) : (stampCells l).length = l.length * 2 := by
  induction l with
  | nil => rfl
  | cons x t ih => simp only [stampCells, List.length_cons, ih]; omega
theorem stampCells_one (l : List (Int × Int)) : ∀ u ∈ stampCells l, u.oneCell' = true := by
  induction l with
  | nil => intro u h; cases h
  | cons x t ih =>
    intro u h
    simp only [stampCells, List.mem_cons] at h
    rcases h with rfl | rfl | h
    · rfl
    · rfl
    · exact ih u h
theorem stampCells_at (l : List (Int × Int)) : ∀ (i : Nat) (x : Int × Int), l[i]? = some x → (stampCells l)[i * 2]? = some (.int .i64 x.1) ∧ (stampCells l)[i * 2 + 1]? = some (.int .i64 x.2) := by
  induction l with
  | nil => intro i x h; simp at h
  | cons y t ih =>
    intro i x h
    cases i with
    | zero => simp at h; subst h; exact ⟨rfl, rfl⟩
    | succ i =>
      simp at h
      have := ih i x h
      rw [show (i + 1) * 2 = i * 2 + 1 + 1 by omega]
      exact this
def find (Q : List Kb) (s : ByteArray) : Option Kb := Q.find? fun q => decide (q.kn.name = s)
theorem find_mem {Q : List Kb} {s : ByteArray} {q : Kb} (h : find Q s = some q) : q ∈ Q ∧ q.kn.name = s := ⟨List.mem_of_find?_eq_some h, by have := List.find?_some h; simpa using this⟩
theorem find_none {Q : List Kb} {s : ByteArray} (h : find Q s = none) : ∀ q ∈ Q, q.kn.name ≠ s := by
  intro q hq e
  have := List.find?_eq_none.1 h q hq
  simp [e] at this
def ptrElem : Value → Option (DataW Unit × List MemPlace)
  | .pointer (some ⟨b, 0, none⟩) => some (.lit (.int .i64 (b : Int)), [])
  | .pointer none => some (.nil, [])
  | _ => none
theorem ptrElem_inv {v : Value} {b : Nat} {ps : List MemPlace} (h : ptrElem v = some (.lit (.int .i64 (b : Int)), ps)) : v = .pointer (some ⟨b, 0, none⟩) := by
  unfold ptrElem at h
  split at h
  · rename_i b'
    simp only [Option.some.injEq, Prod.mk.injEq, DataW.lit.injEq, Lit.int.injEq, true_and] at h
    have : b' = b := by omega
    rw [this]
  · simp at h
  · cases h
/-- What the map says of a name. -/
def ptrOf : Option Kb → Value
  | none => .pointer none
  | some q => .pointer (some ⟨q.kb, 0, none⟩)
def datOf : Option Kb → DataW Unit
  | none => .nil
  | some q => .lit (.int .i64 (q.kb : Int))
end Orc
def nameK (s : ByteArray) : Lit := .string s.data.toList
theorem nameK_inj {a b : ByteArray} (h : nameK a = nameK b) : a = b := by unfold nameK at h; injection h with h; exact ba_ext h
theorem nameK_is (s : ByteArray) (h : s.size ≤ maxLen) : keyOf Tryz.prog 9 (.string s) = some (nameK s) := Go.WideMaps.keyOf_string_mk Tryz.underlying9 h
theorem nameK_key (s : ByteArray) (h : s.size ≤ maxLen) : WideAt.IsKeyLit (nameK s) := (string_keyed Tryz.underlying9).key (nameK_is s h)
def StampRow (base : Nat) (w : World) (v : Value) (l : List (Int × Int)) : Prop := w.ownsRow base 54 2 v l.length (stampCells l)
theorem StampRow.nil (base : Nat) (w : World) : StampRow base w (.slice none 0 0) [] := w.ownsRow_nil base _ 2
theorem StampRow.form {base : Nat} {w : World} {v : Value} {l : List (Int × Int)} (h : StampRow base w v l) : ∃ p c, v = .slice p l.length c ∧ l.length ≤ c ∧ c ≤ maxLen := by
  obtain ⟨h0, ⟨rfl, hz⟩ | ⟨g, cap, cur, rfl, h2, h3, h4, h5, _⟩⟩ := h
  · exact ⟨none, 0, by rw [hz], by omega, Nat.zero_le _⟩
  · exact ⟨_, cap, rfl, h4, h5⟩
theorem StampRow.at {base : Nat} {W : World} {v : Value} {l : List (Int × Int)} (h : StampRow base W v l) {k : Nat} {x : Int × Int} (hx : l[k]? = some x) :
    ∃ g cap, v = .slice (some ⟨g, 0, none⟩) l.length cap ∧ W.cell? ⟨g, k * 2, none⟩ = some (.int .i64 x.1) ∧ W.cell? ⟨g, k * 2 + 1, none⟩ = some (.int .i64 x.2) := by
  have hk : k < l.length := (List.getElem?_eq_some_iff.1 hx).1
  obtain ⟨h0, ⟨_, hz⟩ | ⟨g, cap, cur, rfl, h2, h3, h4, h5, h6, h7⟩⟩ := h
  · omega
  · obtain ⟨c0, c1⟩ := stampCells_at l k x hx
    rw [← h7, List.getElem?_take_of_lt (by omega), Array.getElem?_toList] at c0 c1
    exact ⟨g, cap, rfl, by simp [World.cell?, h3, c0], by simp [World.cell?, h3, c1]⟩
theorem StampRow.same {base : Nat} {W W' : World} {v : Value} {l : List (Int × Int)} (h : StampRow base W v l) (hb : ∀ g, v.ownBlock = some g → W'.heap[g]? = W.heap[g]?) : StampRow base W' v l := by
  obtain ⟨h0, h1 | ⟨g, cap, cur, rfl, h3, h4, h5⟩⟩ := h
  · exact ⟨h0, Or.inl h1⟩
  · exact ⟨h0, Or.inr ⟨g, cap, cur, rfl, h3, (hb g rfl).trans h4, h5⟩⟩
theorem StampRow.ne {base : Nat} {W : World} {v : Value} {l : List (Int × Int)} (h : StampRow base W v l) {k : Nat} {o : Obj} (hk : W.heap[k]? = some o) (ho : ∀ (cur : Array Value) (fr : Nat × Nat), o ≠ Obj.cells cur 54 fr) : v.ownBlock ≠ some k := by
  obtain ⟨_, ⟨rfl, _⟩ | ⟨g, cap, cur, rfl, _, h4, _⟩⟩ := h
  · intro e; cases e
  · intro e
    cases e
    rw [hk] at h4
    cases h4
    exact ho _ _ rfl
/-- What is known of a feed, in memory. -/
structure KnownAt (base : Nat) (W : World) (q : Orc.Kb) : Prop where
  blk : W.heap[q.kb]? = some (.cells #[.string q.kn.key, .int .i64 q.kn.seq, q.sv] 82 (0, 0))
  row : StampRow base W q.sv q.kn.stamps
  lo : base ≤ q.kb
/-- Which blocks are a table's. -/
def Foot (tb mb : Nat) (Q : List Orc.Kb) (k : Nat) : Prop := k = tb ∨ k = mb ∨ ∃ q ∈ Q, k = q.kb ∨ q.sv.ownBlock = some k
structure KnFits (k : Orc.Kn) : Prop where
  name : Led.isName k.name = true
  key : 0 < k.key.size ∧ k.key.size ≤ 64
  seq : 0 ≤ k.seq ∧ k.seq ≤ 4611686018427387904
  stamps : k.stamps.length ≤ 4096
  days : ∀ x ∈ k.stamps, 0 ≤ x.1 ∧ x.1 ≤ 73048 ∧ -1000000000000000 ≤ x.2 ∧ x.2 ≤ 1000000000000000
/-- A table in memory. -/
structure TabAt (base tb mb : Nat) (Q : List Orc.Kb) (W : World) : Prop where
  hb : W.heap[tb]? = some (.cells #[.map (some mb)] 78 (0, 0))
  map : ∃ D : DataW Unit, W.ownsMap Tryz.prog 9 ptrElem mb Q.length D ∧ Maps.size D = Q.length ∧ ∀ s : ByteArray, s.size ≤ maxLen → has D (nameK s) = (Orc.find Q s).isSome ∧ D.atKey (nameK s) .nil = datOf (Orc.find Q s)
  kn : ∀ q ∈ Q, KnownAt base W q
  names : Q.Pairwise fun a b => a.kn.name ≠ b.kn.name
  blocks : Q.Pairwise fun a b => a.kb ≠ b.kb
  rows : Q.Pairwise fun a b => ∀ g, a.sv.ownBlock = some g → b.sv.ownBlock ≠ some g
  fits : ∀ q ∈ Q, KnFits q.kn
  lo : base ≤ tb ∧ base ≤ mb
  room : Q.length ≤ 64
theorem TabAt.foot {base tb mb : Nat} {Q : List Orc.Kb} {W : World} (h : TabAt base tb mb Q W) {k : Nat} (hk : Foot tb mb Q k) : base ≤ k ∧ k < W.heap.size := by
  rcases hk with rfl | rfl | ⟨q, hq, rfl | hr⟩
  · exact ⟨h.lo.1, lt_of_block h.hb⟩
  · obtain ⟨D, hD, _⟩ := h.map
    exact ⟨h.lo.2, hD.lt⟩
  · exact ⟨(h.kn q hq).lo, lt_of_block (h.kn q hq).blk⟩
  · exact World.ownsRow.lt (h.kn q hq).row k hr
theorem TabAt.keep {base tb mb : Nat} {Q : List Orc.Kb} {W W' : World} (h : TabAt base tb mb Q W) (hk : ∀ k, Foot tb mb Q k → W'.heap[k]? = W.heap[k]?) : TabAt base tb mb Q W' := by
  refine ⟨(hk tb (.inl rfl)).trans h.hb, ?_, fun q hq => ⟨(hk q.kb (.inr (.inr ⟨q, hq, .inl rfl⟩))).trans (h.kn q hq).blk, (h.kn q hq).row.same fun g hg => hk g (.inr (.inr ⟨q, hq, .inr hg⟩)), (h.kn q hq).lo⟩, h.names, h.blocks, h.rows, h.fits, h.lo, h.room⟩
  obtain ⟨D, ⟨es, clock, hm, hr⟩, h2⟩ := h.map
  exact ⟨D, ⟨es, clock, (hk mb (.inr (.inl rfl))).trans hm, hr⟩, h2⟩
theorem TabAt.below {base tb mb : Nat} {Q : List Orc.Kb} {W W' : World} (h : TabAt base tb mb Q W) (B : Below W.heap.size W W') : TabAt base tb mb Q W' :=
  h.keep fun k hk => B.block k (h.foot hk).2
theorem zeroKn (w : World) : (zeroValue 79).run Tryz.prog w = .ok (.pointer none) w := by kernel_rfl
/-- Both look-ups. -/
theorem TabAt.look {base tb mb : Nat} {Q : List Orc.Kb} {W : World} (h : TabAt base tb mb Q W) (s : ByteArray) (hs : s.size ≤ maxLen) (c : Bool) :
    (Instr.lookup 76 (.map (some mb)) (.string s) c).run Tryz.prog W = .ok (if c then .tuple #[ptrOf (Orc.find Q s), .bool (Orc.find Q s).isSome] else ptrOf (Orc.find Q s)) W := by
  obtain ⟨D, ⟨es, clock, hb, F, _, rfl⟩, _, hD⟩ := h.map
  obtain ⟨d1, d2⟩ := hD s hs
  rcases fit_look (w := W) c (string_keyed Tryz.underlying9) Tryz.underlying76 (zeroKn W) hb F (nameK_is s hs) with ⟨hrun, _, hat⟩ | ⟨e0, y, _, _, hrun, hR, hat, _⟩
  · have hf := has_false_of_atKey hat
    rw [d1] at hf
    cases hfd : Orc.find Q s with
    | none => rw [hrun]; rfl
    | some q => rw [hfd] at hf; cases hf
  · have hf := has_true_of_atKey hat
    rw [d1] at hf
    cases hfd : Orc.find Q s with
    | none => rw [hfd] at hf; cases hf
    | some q =>
      rw [hat, hfd] at d2
      obtain ⟨y1, y2⟩ := y
      simp only [datOf] at d2
      subst d2
      rw [hrun, ptrElem_inv hR]
      rfl
theorem TabAt.len {base tb mb : Nat} {Q : List Orc.Kb} {W : World} (h : TabAt base tb mb Q W) (ty : TypeId) : (Builtin.len_ #[76] ty #[.map (some mb)]).run Tryz.prog W = .ok (.int .i64 (Q.length : Int)) W := by
  obtain ⟨D, hD, hsz, _⟩ := h.map
  rw [hD.len Tryz.underlying76 ty, hsz]
end Go.Proofs.YtmddaomchhigbaaGreatDoor

/- Proved: the reference's table as it lies in memory (no walk); find, Seq as contracts. -/
import Derived.Test.YtmddaomchhigbaaGreatDoorOrcOps
import Derived.Test.YtmddaomchhigbaaGreatDoorOrcSame
import Derived.Sort.Walk0
import Derived.IntWalk
namespace Go.Proofs.YtmddaomchhigbaaGreatDoor
open Go.RowKit Go.Maps
open Led Orc
set_option linter.unusedVariables false
set_option linter.unusedSimpArgs false
set_option maxRecDepth 100000
structure Rk where
  kn : Orc.Kn
  sv : Value
def knCells : List Rk → List Value
  | [] => []
  | p :: t => .string p.kn.name :: p.sv :: .string p.kn.key :: .int .i64 p.kn.seq :: knCells t
theorem knCells_append (a b : List Rk) : knCells (a ++ b) = knCells a ++ knCells b := by
  induction a with
  | nil => rfl
  | cons x t ih => simp [knCells, ih]
theorem knCells_len (a : List Rk) : (knCells a).length = a.length * 4 := by
  induction a with
  | nil => rfl
  | cons x t ih => simp only [knCells, List.length_cons, ih]; omega
theorem knCells_at (l : List Rk) : ∀ (i : Nat) (x : Rk), l[i]? = some x → (knCells l)[i * 4]? = some (.string x.kn.name) ∧ (knCells l)[i * 4 + 1]? = some x.sv ∧ (knCells l)[i * 4 + 2]? = some (.string x.kn.key) ∧ (knCells l)[i * 4 + 3]? = some (.int .i64 x.kn.seq) := by
  induction l with
  | nil => intro i x h; simp at h
  | cons y t ih =>
    intro i x h
    cases i with
    | zero => simp at h; subst h; exact ⟨rfl, rfl, rfl, rfl⟩
    | succ i =>
      simp at h
      have := ih i x h
      rw [show (i + 1) * 4 = i * 4 + 1 + 1 + 1 + 1 by omega]
      exact this
theorem knCells_take (l : List Rk) : ∀ n, (knCells l).take (n * 4) = knCells (l.take n) := by
  induction l with
  | nil => intro n; simp [knCells]
  | cons y t ih =>
    intro n
    cases n with
    | zero => rfl
    | succ n =>
      rw [show (n + 1) * 4 = n * 4 + 1 + 1 + 1 + 1 by omega]
      simp only [knCells, List.take_succ_cons, ih]
theorem knCells_drop (l : List Rk) : ∀ n, (knCells l).drop (n * 4) = knCells (l.drop n) := by
  induction l with
  | nil => intro n; simp [knCells]
  | cons y t ih =>
    intro n
    cases n with
    | zero => rfl
    | succ n =>
      rw [show (n + 1) * 4 = n * 4 + 1 + 1 + 1 + 1 by omega]
      simp only [knCells, List.drop_succ_cons, ih]
/-- The reference's table in memory. -/
structure RfTab (base rb : Nat) (lv : Value) (R : List Rk) (W : World) : Prop where
  hb : W.heap[rb]? = some (.cells #[lv] 40 (0, 0))
  row : W.ownsRow base 85 4 lv R.length (knCells R)
  st : ∀ p ∈ R, StampRow base W p.sv p.kn.stamps
  rise : R.Pairwise fun a b => Op.bytesLess a.kn.name.toList b.kn.name.toList = true
  fits : ∀ p ∈ R, KnFits p.kn
  lo : base ≤ rb
  room : R.length ≤ 64
def RFoot (rb : Nat) (lv : Value) (R : List Rk) (k : Nat) : Prop := k = rb ∨ lv.ownBlock = some k ∨ ∃ p ∈ R, p.sv.ownBlock = some k
theorem RfTab.foot {base rb : Nat} {lv : Value} {R : List Rk} {W : World} (h : RfTab base rb lv R W) {k : Nat} (hk : RFoot rb lv R k) : base ≤ k ∧ k < W.heap.size := by
  rcases hk with rfl | hk | ⟨p, hp, hk⟩
  · exact ⟨h.lo, lt_of_block h.hb⟩
  · exact World.ownsRow.lt h.row k hk
  · exact World.ownsRow.lt (h.st p hp) k hk
theorem ownsRow_same {base : Nat} {W W' : World} {e : TypeId} {z : Nat} {v : Value} {n : Nat} {xs : List Value} (h : W.ownsRow base e z v n xs) (hb : ∀ g, v.ownBlock = some g → W'.heap[g]? = W.heap[g]?) : W'.ownsRow base e z v n xs := by
  obtain ⟨h0, h1 | ⟨g, cap, cur, rfl, h3, h4, h5⟩⟩ := h
  · exact ⟨h0, Or.inl h1⟩
  · exact ⟨h0, Or.inr ⟨g, cap, cur, rfl, h3, (hb g rfl).trans h4, h5⟩⟩
theorem RfTab.keep {base rb : Nat} {lv : Value} {R : List Rk} {W W' : World} (h : RfTab base rb lv R W) (hk : ∀ k, RFoot rb lv R k → W'.heap[k]? = W.heap[k]?) : RfTab base rb lv R W' :=
  ⟨(hk rb (.inl rfl)).trans h.hb, ownsRow_same h.row fun g hg => hk g (.inr (.inl hg)), fun p hp => (h.st p hp).same fun g hg => hk g (.inr (.inr ⟨p, hp, hg⟩)), h.rise, h.fits, h.lo, h.room⟩
theorem RfTab.below {base rb : Nat} {lv : Value} {R : List Rk} {W W' : World} (h : RfTab base rb lv R W) (B : Below W.heap.size W W') : RfTab base rb lv R W' :=
  h.keep fun k hk => B.block k (h.foot hk).2
/-- The cells of one of its feeds. -/
theorem RfTab.form {base rb : Nat} {lv : Value} {R : List Rk} {W : World} (h : RfTab base rb lv R W) : ∃ p c, lv = .slice p R.length c ∧ R.length ≤ c ∧ ∀ (i : Nat) (x : Rk), R[i]? = some x → ∃ g, p = some ⟨g, 0, none⟩ ∧ g < W.heap.size ∧
    W.cell? ⟨g, i * 4, none⟩ = some (.string x.kn.name) ∧ W.cell? ⟨g, i * 4 + 1, none⟩ = some x.sv ∧ W.cell? ⟨g, i * 4 + 2, none⟩ = some (.string x.kn.key) ∧ W.cell? ⟨g, i * 4 + 3, none⟩ = some (.int .i64 x.kn.seq) ∧ ∀ o, W.frozen? ⟨g, o, none⟩ = false := by
  obtain ⟨_, ⟨e1, e2⟩ | ⟨g, cap, cur, e, h2, h3, h4, h5, h6, h7⟩⟩ := h.row
  · refine ⟨none, 0, by rw [e1, e2], by omega, fun i x hx => ?_⟩
    have := (List.getElem?_eq_some_iff.1 hx).1
    omega
  · refine ⟨_, _, e, h4, fun i x hx => ⟨g, rfl, lt_of_block h3, ?_⟩⟩
    have hi := (List.getElem?_eq_some_iff.1 hx).1
    obtain ⟨c0, c1, c2, c3⟩ := knCells_at R i x hx
    rw [← h7, List.getElem?_take_of_lt (by omega), Array.getElem?_toList] at c0 c1 c2 c3
    exact ⟨by simp [World.cell?, h3, c0], by simp [World.cell?, h3, c1], by simp [World.cell?, h3, c2], by simp [World.cell?, h3, c3], fun o => by simp [World.frozen?, h3]⟩
theorem rise_ne {R : List Rk} (h : R.Pairwise fun a b => Op.bytesLess a.kn.name.toList b.kn.name.toList = true) : (R.map (·.kn)).Pairwise fun a b => a.name ≠ b.name := by
  refine List.pairwise_map.2 (h.imp fun {a b} hl e => ?_)
  rw [e, bytesLess_eq] at hl
  exact absurd (of_decide_eq_true hl) (List.lt_irrefl _)
/-- Where a feed stands. -/
def FindAt (R : List Rk) (s : ByteArray) (r : Int) : Prop := (r = -1 ∧ Orc.findK (R.map (·.kn)) s = none) ∨ ∃ (i : Nat) (x : Rk), r = (i : Int) ∧ R[i]? = some x ∧ x.kn.name = s ∧ Orc.findK (R.map (·.kn)) s = some x.kn
theorem findK_not {L : List Orc.Kn} {s : ByteArray} (h : ∀ k ∈ L, k.name ≠ s) : Orc.findK L s = none := by
  unfold Orc.findK
  rw [List.find?_eq_none]
  intro k hk
  simpa using h k hk
theorem findK_first {L : List Orc.Kn} {s : ByteArray} {k : Orc.Kn} {i : Nat} (hi : L[i]? = some k) (hk : k.name = s) (h : ∀ j, j < i → ∀ x, L[j]? = some x → x.name ≠ s) : Orc.findK L s = some k := by
  unfold Orc.findK
  induction L generalizing i with
  | nil => simp at hi
  | cons a t ih =>
    cases i with
    | zero =>
      simp at hi; subst hi
      rw [List.find?_cons_of_pos]; exact decide_eq_true hk
    | succ i =>
      rw [List.find?_cons_of_neg (by simpa using h 0 (by omega) a rfl)]
      exact ih (by simpa using hi) (fun j hj x hx => h (j + 1) (by omega) x (by simpa using hx))
def FindPost (R : List Rk) (s : ByteArray) (w : World) (e : Ending) (w' : World) : Prop := ∃ r, e = .returned (.int .i64 r) ∧ FindAt R s r ∧ w' = w
set_option maxHeartbeats 2000000 in
theorem refFind_any (base rb : Nat) (lv : Value) (R : List Rk) (s : ByteArray) (w : World) (h : RfTab base rb lv R w) : Calls Tryz.prog 40 #[.pointer (some ⟨rb, 0, none⟩), .string s] w (FindPost R s w) := by
  have c0 := (block_cells h.hb).1 0 _ rfl
  obtain ⟨p0, cc, rfl, hc, hcell⟩ := h.form
  have HC := hid' hcell
  have hl : (R.length : Int) ≤ 64 := by have := h.room; omega
  have HR := hid' (show ∀ j, j < 0 → ∀ x, (R.map (·.kn))[j]? = some x → x.name ≠ s from fun j hj => by omega)
  clear h hcell
  go_enter Tryz.func40, Tryz.ntmps40
  go_wp2_with fail
  go_loopw [5] (fun iv wr => ∃ i : Nat, iv = .int .i64 (i : Int) ∧ i ≤ R.length ∧ Hid (∀ j, j < i → ∀ x, (R.map (·.kn))[j]? = some x → x.name ≠ s) ∧ wr = w) (fun iv _ => R.length - (intOf iv).toNat)
  case atStart => exact ⟨0, rfl, Nat.zero_le _, HR, rfl⟩
  case round =>
    obtain ⟨i, rfl, hi, HN, rfl⟩ := hrel
    by_cases hin : i < R.length
    · obtain ⟨x, hx⟩ : ∃ x, R[i]? = some x := ⟨_, List.getElem?_eq_getElem hin⟩
      obtain ⟨g, rfl, _, x0, _, _, _, _⟩ := HC.out i x hx
      have hx' : (R.map (·.kn))[i]? = some x.kn := by rw [List.getElem?_map, hx]; rfl
      have j1 : (0 : Int) ≤ (i : Int) := by omega
      have j2 : (i : Int) < (R.length : Int) := by omega
      have wi : IntKind.i64.wrap ((i : Int) + 1) = (i : Int) + 1 := IntWalk.i64_in _ (by omega)
      by_cases hs : x.kn.name = s
      · have gf : (x.kn.name.toList == s.toList) = true := by rw [hs]; simp
        have HF := hid' (show FindAt R s (i : Int) from .inr ⟨i, x, rfl, hx, hs, findK_first hx' hs HN.out⟩)
        clear hx hx' hs
        go_wp2_with fail
        go_ret
        exact ⟨_, rfl, HF.out, rfl⟩
      · have gf : (x.kn.name.toList == s.toList) = false := by
          rw [beq_eq_false_iff_ne]
          intro e
          rw [ByteArray.toList_eq, ByteArray.toList_eq] at e
          exact hs (ba_ext e)
        have HN2 := hid' (show ∀ j, j < i + 1 → ∀ y, (R.map (·.kn))[j]? = some y → y.name ≠ s from fun j hj y hy => by
          rcases Nat.lt_or_ge j i with h1 | h1
          · exact HN.out j h1 y hy
          · obtain rfl : j = i := by omega
            rw [hx'] at hy
            obtain rfl := Option.some.inj hy
            exact hs)
        clear hx hx' hs
        go_wp2_with fail
        go_roundw
        case rel => exact ⟨i + 1, by go_num, by omega, HN2, by first | rfl | trivial⟩
        case measure => simp [intOf]; omega
    · obtain rfl : i = R.length := by omega
      have g9 : decide (R.length < R.length) = false := by simp
      have HF := hid' (show FindAt R s (-1) from .inl ⟨rfl, findK_not fun k hk => by
        obtain ⟨j, hj, rfl⟩ := List.getElem_of_mem hk
        exact HN.out j (by simpa using hj) _ (List.getElem?_eq_getElem hj)⟩)
      clear hin
      go_wp2_with fail
      go_ret
      exact ⟨_, rfl, HF.out, rfl⟩
def seqK (L : List Orc.Kn) (s : ByteArray) : Int := match Orc.findK L s with | none => 0 | some k => k.seq
theorem refSeq_any (base rb : Nat) (lv : Value) (R : List Rk) (s : ByteArray) (w : World) (h : RfTab base rb lv R w) : Calls Tryz.prog 23 #[.pointer (some ⟨rb, 0, none⟩), .string s] w (Ret (.int .i64 (seqK (R.map (·.kn)) s)) w) := by
  have HF := hid' (refFind_any base rb lv R s w h)
  have c0 := (block_cells h.hb).1 0 _ rfl
  obtain ⟨p0, cc, rfl, hc, hcell⟩ := h.form
  have HC := hid' hcell
  have hl : (R.length : Int) ≤ 64 := by have := h.room; omega
  clear h hcell
  go_enter Tryz.func23, Tryz.ntmps23
  go_wp2_with fail
  refine HF.out.mono ?_
  rintro e w1 ⟨r, rfl, hr, rfl⟩
  rcases hr with ⟨rfl, hn⟩ | ⟨i, x, rfl, hx, hs, hf⟩
  · have HS := hid' (show seqK (R.map (·.kn)) s = 0 by unfold seqK; rw [hn])
    clear hn
    go_wp2_with fail
    go_ret
    refine ⟨?_, rfl⟩
    rw [HS.out]
    rfl
  · obtain ⟨g, rfl, _, _, _, _, x3, _⟩ := HC.out i x hx
    have HS := hid' (show seqK (R.map (·.kn)) s = x.kn.seq by unfold seqK; rw [hf])
    have hi := (List.getElem?_eq_some_iff.1 hx).1
    have j1 : (0 : Int) ≤ (i : Int) := by omega
    have j2 : (i : Int) < (R.length : Int) := by omega
    have g0 : decide ((i : Int) < 0) = false := decide_eq_false (by omega)
    clear hx hs hf hi
    go_wp2_with fail
    go_ret
    refine ⟨?_, rfl⟩
    rw [HS.out]
    rfl
end Go.Proofs.YtmddaomchhigbaaGreatDoor

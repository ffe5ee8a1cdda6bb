/- Proved: the reference's SameFeeds says yes where both lists of feeds are the same. -/
import Derived.Test.YtmddaomchhigbaaGreatDoorOrcFeeds
import Derived.Laws.StructEq
import Derived.Deep.DeepCutAuto
namespace Go.Proofs.YtmddaomchhigbaaGreatDoor
open Go.RowKit Go.Maps
open Led Orc
set_option linter.unusedVariables false
set_option linter.unusedSimpArgs false
set_option maxRecDepth 100000
theorem stamp_neq (d n : Int) (w : World) : (binOp .neq 54 (.agg #[.int .i64 d, .int .i64 n]) (.agg #[.int .i64 d, .int .i64 n])).run Tryz.prog w = .ok (.bool false) w := by
  have u1 := Tryz.underlying3
  have u2 := Tryz.underlying2
  have a1 := Tryz.isAgg3
  have a2 := Tryz.isAgg2
  have z1 := Tryz.sizeOf3
  have z2 := Tryz.sizeOf2
  have hS : Tryz.prog.underlying 54 = some (.struct (Tryz.prog.fieldsOf 54)) := by kernel_rfl
  have hp : Tryz.prog.stoodInHeld 54 = false := by kernel_rfl
  rw [run_neq_struct, show (10000 : Nat) = 9999 + 1 from rfl, run_equalIn_agg w 9999 54 _ _ hS hp]
  simp only [Program.fieldsOf, Tryz.underlying54]
  go_simp
theorem stamp_guard (x y : Operand) (d n : Int) (w : World) : (eqGuard .neq 54 x y (.agg #[.int .i64 d, .int .i64 n]) (.agg #[.int .i64 d, .int .i64 n])).run Tryz.prog w = .ok () w :=
  run_eqGuard_agg w .neq 54 x y _ _ (by kernel_rfl)
def Kept (w w' : World) : Prop := ∃ n, w' = w.drewN n
theorem Kept.cell {w w' : World} (h : Kept w w') {a : Addr} {v : Value} (hc : w.cell? a = some v) : w'.cell? a = some v := by
  obtain ⟨n, rfl⟩ := h; exact hc
theorem Kept.refl (w : World) : Kept w w := ⟨0, rfl⟩
theorem Kept.more {w w' : World} (h : Kept w w') (n : Nat) : Kept w (w'.drewN n) := by
  obtain ⟨m, rfl⟩ := h; exact ⟨m + n, by rw [World.drewN_drewN]⟩
theorem Kept.below {w w' : World} (h : Kept w w') : Below w.heap.size w w' := by
  obtain ⟨n, rfl⟩ := h; exact Below.drewn (Below.refl _ _) n
def DrewT (v : Value) (w : World) (e : Ending) (w' : World) : Prop := e = .returned v ∧ Kept w w'
/-- Stamps as they are read. -/
def StampsSeen (W : World) (v : Value) (l : List (Int × Int)) : Prop := ∃ p c, v = .slice p l.length c ∧ l.length ≤ 4096 ∧ ∀ (i : Nat) (x : Int × Int), l[i]? = some x → ∃ b off, p = some ⟨b, off, none⟩ ∧ b < W.heap.size ∧ W.cell? ⟨b, off + i * 2, none⟩ = some (.int .i64 x.1) ∧ W.cell? ⟨b, off + i * 2 + 1, none⟩ = some (.int .i64 x.2)
/-- Feeds as they are read. -/
def FeedsSeen (W : World) (v : Value) (l : List (ByteArray × List (Int × Int))) : Prop := ∃ p c, v = .slice p l.length c ∧ (l.length ≤ c ∧ l.length ≤ 64) ∧ ∀ (i : Nat) (x : ByteArray × List (Int × Int)), l[i]? = some x → ∃ b off sv, p = some ⟨b, off, none⟩ ∧ b < W.heap.size ∧ W.cell? ⟨b, off + i * 2, none⟩ = some (.string x.1) ∧ W.cell? ⟨b, off + i * 2 + 1, none⟩ = some sv ∧ StampsSeen W sv x.2
theorem StampsSeen.below {W W' : World} {v : Value} {l : List (Int × Int)} (h : StampsSeen W v l) (B : Below W.heap.size W W') : StampsSeen W' v l := by
  obtain ⟨p, c, e, hl, h⟩ := h
  refine ⟨p, c, e, hl, fun i x hx => ?_⟩
  obtain ⟨b, off, e, hb, h1, h2⟩ := h i x hx
  exact ⟨b, off, e, Nat.lt_of_lt_of_le hb B.size, (B.cell (p := ⟨b, off + i * 2, none⟩) hb).trans h1, (B.cell (p := ⟨b, off + i * 2 + 1, none⟩) hb).trans h2⟩
theorem FeedsSeen.below {W W' : World} {v : Value} {l : List (ByteArray × List (Int × Int))} (h : FeedsSeen W v l) (B : Below W.heap.size W W') : FeedsSeen W' v l := by
  obtain ⟨p, c, e, hl, h⟩ := h
  refine ⟨p, c, e, hl, fun i x hx => ?_⟩
  obtain ⟨b, off, sv, e, hb, h1, h2, h3⟩ := h i x hx
  exact ⟨b, off, sv, e, Nat.lt_of_lt_of_le hb B.size, (B.cell (p := ⟨b, off + i * 2, none⟩) hb).trans h1, (B.cell (p := ⟨b, off + i * 2 + 1, none⟩) hb).trans h2, h3.below B⟩
theorem StampRow.seen {base : Nat} {W : World} {v : Value} {l : List (Int × Int)} (h : StampRow base W v l) (hl : l.length ≤ 4096) : StampsSeen W v l := by
  obtain ⟨p, c, rfl, _⟩ := h.form
  refine ⟨p, c, rfl, hl, fun i x hx => ?_⟩
  obtain ⟨g, cap, e, h1, h2⟩ := h.at hx
  obtain ⟨rfl, -, rfl⟩ := Value.slice.inj e
  exact ⟨g, 0, rfl, (World.ownsRow.lt h g rfl).2, by rw [Nat.zero_add]; exact h1, by rw [Nat.zero_add]; exact h2⟩
theorem feedCells_at (l : List (ByteArray × Value)) : ∀ (i : Nat) (x : ByteArray × Value), l[i]? = some x → (feedCells l)[i * 2]? = some (.string x.1) ∧ (feedCells l)[i * 2 + 1]? = some x.2 := by
  induction l with
  | nil => intro i x h; simp at h
  | cons y t ih =>
    intro i x h
    cases i with
    | zero => simp at h; subst h; exact ⟨rfl, rfl⟩
    | succ i =>
      simp at h
      have := ih i x h
      rw [show (i + 1) * 2 = i * 2 + 1 + 1 by omega]
      exact this
/-- What Feeds gives, as it is read. -/
theorem FdAt.seen {Q : List Orc.Kb} {w : World} {q : List (ByteArray × Value)} {v : Value} {W : World} (h : FdAt Q w q v W) (hq : q.length ≤ 64) (hs : ∀ s, (stampsOf Q s).length ≤ 4096) : FeedsSeen W v (q.map fun p => (p.1, stampsOf Q p.1)) := by
  have hr := h.row
  have hform : ∃ p c, v = .slice p q.length c ∧ q.length ≤ c := by
    obtain ⟨_, ⟨e1, e2⟩ | ⟨g, cap, cur, e, _, _, h4, _⟩⟩ := hr
    · exact ⟨none, 0, by rw [e1, e2], by omega⟩
    · exact ⟨_, _, e, h4⟩
  obtain ⟨p, c, rfl, hqc⟩ := hform
  refine ⟨p, c, by rw [List.length_map], by rw [List.length_map]; exact ⟨hqc, hq⟩, fun i x hx => ?_⟩
  rw [List.getElem?_map] at hx
  cases hqi : q[i]? with
  | none => rw [hqi] at hx; cases hx
  | some y =>
    rw [hqi] at hx
    obtain rfl := Option.some.inj hx
    have hi := (List.getElem?_eq_some_iff.1 hqi).1
    obtain ⟨c0, c1⟩ := feedCells_at q i y hqi
    obtain ⟨_, ⟨e1, e2⟩ | ⟨g, cap, cur, e, h2, h3, h4, h5, h6, h7⟩⟩ := hr
    · omega
    · obtain ⟨rfl, -, rfl⟩ := Value.slice.inj e
      rw [← h7, List.getElem?_take_of_lt (by omega), Array.getElem?_toList] at c0 c1
      exact ⟨g, 0, y.2, rfl, lt_of_block h3, by rw [Nat.zero_add]; simp [World.cell?, h3, c0], by rw [Nat.zero_add]; simp [World.cell?, h3, c1], (h.st y (List.mem_of_getElem? hqi)).seen (hs _)⟩
set_option maxHeartbeats 4000000 in
theorem sameFeeds_yes (va vb : Value) (l : List (ByteArray × List (Int × Int))) (w : World) (ha : FeedsSeen w va l) (hb : FeedsSeen w vb l) : Calls Tryz.prog 25 #[va, vb] w (DrewT (.bool true) w) := by
  obtain ⟨pa, ca, rfl, hl, HA⟩ := ha
  obtain ⟨pb, cb, rfl, _, HB⟩ := hb
  have HA' := hid' HA
  have HB' := hid' HB
  have HK := hid' (Kept.refl w)
  clear HA HB
  have hl' : (l.length : Int) ≤ 64 := by have := hl.2; omega
  clear hl
  go_enter Tryz.func25, Tryz.ntmps25
  go_wp2_with fail
  go_loopw [5] (fun iv wr => ∃ i : Nat, iv = .int .i64 (i : Int) ∧ i ≤ l.length ∧ Hid (Kept w wr)) (fun iv _ => l.length - (intOf iv).toNat)
  case atStart => exact ⟨0, rfl, Nat.zero_le _, HK⟩
  case round =>
    obtain ⟨i, rfl, hi, HW⟩ := hrel
    by_cases hin : i < l.length
    · obtain ⟨x, hx⟩ : ∃ x, l[i]? = some x := ⟨_, List.getElem?_eq_getElem hin⟩
      obtain ⟨b1, o1, s1, rfl, _, x1, x2, x3⟩ := HA'.out i x hx
      obtain ⟨b2, o2, s2, rfl, _, y1, y2, y3⟩ := HB'.out i x hx
      obtain ⟨p1, c1, rfl, hsl, S1⟩ := x3
      obtain ⟨p2, c2, rfl, _, S2⟩ := y3
      have HS1 := hid' S1
      have HS2 := hid' S2
      have HX := hid' (And.intro x1 (And.intro x2 (And.intro y1 y2)))
      have x1' := HW.out.cell x1
      have x2' := HW.out.cell x2
      have y1' := HW.out.cell y1
      have y2' := HW.out.cell y2
      have j1 : (0 : Int) ≤ (i : Int) := by omega
      have j2 : (i : Int) < (l.length : Int) := by omega
      have hsl' : (x.2.length : Int) ≤ 4096 := by omega
      clear hx x1 x2 y1 y2 S1 S2
      go_upto_region 6 with (fail)
      go_quiet (fail)
      clear x1' x2' y1' y2'
      go_wp2_with fail
      go_loopw [6] (fun kv wr => ∃ k : Nat, kv = .int .i64 (k : Int) ∧ k ≤ x.2.length ∧ Hid (Kept w wr)) (fun kv _ => x.2.length - (intOf kv).toNat)
      case atStart => exact ⟨0, rfl, Nat.zero_le _, hid' (Kept.more HW.out _)⟩
      case round =>
        obtain ⟨k, rfl, hk, HV⟩ := hrel
        have x1' := HV.out.cell HX.out.1
        have x2' := HV.out.cell HX.out.2.1
        have y1' := HV.out.cell HX.out.2.2.1
        have y2' := HV.out.cell HX.out.2.2.2
        by_cases hkn : k < x.2.length
        · obtain ⟨y, hy⟩ : ∃ y, x.2[k]? = some y := ⟨_, List.getElem?_eq_getElem hkn⟩
          obtain ⟨g1, q1, rfl, _, u1, u2⟩ := HS1.out k y hy
          obtain ⟨g2, q2, rfl, _, v1, v2⟩ := HS2.out k y hy
          have u1' := HV.out.cell u1
          have u2' := HV.out.cell u2
          have v1' := HV.out.cell v1
          have v2' := HV.out.cell v2
          have k1 : (0 : Int) ≤ (k : Int) := by omega
          have k2 : (k : Int) < (x.2.length : Int) := by omega
          have hne := stamp_neq y.1 y.2
          have hgd := fun a b => stamp_guard a b y.1 y.2
          clear hy u1 u2 v1 v2
          go_wp2_with fail
          go_quiet (fail)
          go_wp2_with fail
          go_roundw
          case rel => exact ⟨k + 1, by go_num, by omega, hid' (Kept.more HV.out _)⟩
          case measure => simp [intOf]; omega
        · obtain rfl : k = x.2.length := by omega
          have g9 : decide (x.2.length < x.2.length) = false := by simp
          clear hkn
          go_wp2_with fail
          go_roundw
          case rel => exact ⟨i + 1, by go_num, by omega, HV⟩
          case measure => simp [intOf]; omega
    · obtain rfl : i = l.length := by omega
      have g9 : decide (l.length < l.length) = false := by simp
      clear hin
      go_wp2_with fail
      go_ret
      exact ⟨rfl, HW.out⟩
/-- A list's feeds in order, with what they told. -/
def stampsK (L : List Orc.Kn) (s : ByteArray) : List (Int × Int) := match Orc.findK L s with | none => [] | some k => k.stamps
theorem stampsOf_is (Q : List Orc.Kb) (s : ByteArray) : stampsOf Q s = stampsK (Q.map (·.kn)) s := by
  unfold stampsOf stampsK
  rw [Orc.findK_is]
  cases Orc.find Q s <;> rfl
def namesK (L : List Orc.Kn) : List (List UInt8) := (L.map fun k => k.name.data.toList).mergeSort leB
def feedsK (L : List Orc.Kn) : List (ByteArray × List (Int × Int)) := (namesK L).map fun n => (⟨n.toArray⟩, stampsK L ⟨n.toArray⟩)
theorem feedsK_len (L : List Orc.Kn) : (feedsK L).length = L.length := by
  unfold feedsK namesK
  rw [List.length_map, (List.mergeSort_perm _ _).length_eq, List.length_map]
theorem feedsK_at {L : List Orc.Kn} {i : Nat} {x : ByteArray × List (Int × Int)} (h : (feedsK L)[i]? = some x) : (namesK L)[i]? = some x.1.data.toList ∧ x.2 = stampsK L x.1 := by
  unfold feedsK at h
  rw [List.getElem?_map] at h
  obtain ⟨n, hn, rfl⟩ := Option.map_eq_some_iff.1 h
  exact ⟨hn, rfl⟩
/-- What Feeds gives. -/
theorem FdAt.is {base tb mb : Nat} {Q : List Orc.Kb} {w w0 : World} {q : List (ByteArray × Value)} {v : Value} {W : World} (ht : TabAt base tb mb Q w0) (h : FdAt Q w q v W) (hq : (q.map fun p => p.1.data.toList) = (namesOf Q).mergeSort leB) : FeedsSeen W v (feedsK (Q.map (·.kn))) := by
  have hn : (q.map fun p => p.1.data.toList) = namesK (Q.map (·.kn)) := by
    rw [hq]; unfold namesK namesOf; rw [List.map_map]; rfl
  have hl : q.length = Q.length := by
    have := congrArg List.length hn
    unfold namesK at this
    rw [(List.mergeSort_perm _ _).length_eq] at this
    simpa using this
  have hs : ∀ s, (stampsOf Q s).length ≤ 4096 := by
    intro s
    unfold stampsOf
    cases hf : Orc.find Q s with
    | none => exact Nat.zero_le _
    | some k => exact (ht.fits k (Orc.find_mem hf).1).stamps
  have := h.seen (by rw [hl]; exact ht.room) hs
  have e : (q.map fun p => (p.1, stampsOf Q p.1)) = feedsK (Q.map (·.kn)) := by
    unfold feedsK
    rw [← hn, List.map_map]
    apply List.map_congr_left
    intro p _
    simp only [Function.comp_apply]
    rw [stampsOf_is]
  rw [← e]
  exact this
end Go.Proofs.YtmddaomchhigbaaGreatDoor

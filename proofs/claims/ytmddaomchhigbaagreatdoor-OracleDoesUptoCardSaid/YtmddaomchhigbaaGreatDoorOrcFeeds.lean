/- Proved: Feeds as a contract: the feeds by name, each with stamps of its own. -/
import Derived.Test.YtmddaomchhigbaaGreatDoorOrcKeys
import Derived.Test.YtmddaomchhigbaaGreatDoorOrcClone
namespace Go.Proofs.YtmddaomchhigbaaGreatDoor
open Go.RowKit Go.Maps Go.Sort
open Led Orc
set_option linter.unusedVariables false
set_option linter.unusedSimpArgs false
set_option maxRecDepth 100000
theorem info_feed : (Tryz.prog.info? 52).map (fun i => (i.zero, i.size, i.bytes)) = some (some (.agg #[.string ⟨#[]⟩, .slice none 0 0]), 2, 40) := by kernel_rfl
def stampsOf (Q : List Orc.Kb) (s : ByteArray) : List (Int × Int) := match Orc.find Q s with | none => [] | some q => q.kn.stamps
def feedCells : List (ByteArray × Value) → List Value
  | [] => []
  | x :: t => .string x.1 :: x.2 :: feedCells t
theorem feedCells_append (a b : List (ByteArray × Value)) : feedCells (a ++ b) = feedCells a ++ feedCells b := by
  induction a with
  | nil => rfl
  | cons x t ih => simp [feedCells, ih]
structure FdAt (Q : List Orc.Kb) (w : World) (q : List (ByteArray × Value)) (v : Value) (W : World) : Prop where
  bel : Below w.heap.size w W
  row : W.ownsRow w.heap.size 52 2 v q.length (feedCells q)
  st : ∀ p ∈ q, StampRow w.heap.size W p.2 (stampsOf Q p.1)
/-- The feeds' names in order, each with its own stamps. -/
def FeedsPost (Q : List Orc.Kb) (w : World) (e : Ending) (w' : World) : Prop := ∃ v q, e = .returned v ∧ FdAt Q w q v w' ∧ (q.map fun p => p.1.data.toList) = (namesOf Q).mergeSort leB
theorem FdAt.below {Q : List Orc.Kb} {w : World} {q : List (ByteArray × Value)} {v : Value} {W W' : World} (h : FdAt Q w q v W) (B : Below W.heap.size W W') : FdAt Q w q v W' :=
  ⟨Below.more h.bel B, by
    obtain ⟨h1, h2 | ⟨g, cap, cur, hv, hg, hh, r⟩⟩ := h.row
    · exact ⟨h1, Or.inl h2⟩
    · exact ⟨h1, Or.inr ⟨g, cap, cur, hv, hg, (B.block g (lt_of_block hh)).trans hh, r⟩⟩, fun p hp => (h.st p hp).same fun g hg => B.block g ((World.ownsRow.lt (h.st p hp) g hg).2)⟩
/-- A feed more. -/
theorem FdAt.push {Q : List Orc.Kb} {w : World} {q : List (ByteArray × Value)} {v v' : Value} {W W' : World} (h : FdAt Q w q v W) {s : ByteArray} {sv : Value} (hs : StampRow w.heap.size W sv (stampsOf Q s))
    (h1 : W'.ownsRow w.heap.size 52 2 v' (q.length + 1) (feedCells q ++ [.string s, sv])) (h2 : W.grownBy W' v.ownBlock) : FdAt Q w (q ++ [(s, sv)]) v' W' := by
  have hown : ∀ g, v.ownBlock = some g → w.heap.size ≤ g ∧ ∃ cur, W.heap[g]? = some (.cells cur 52 (0, 0)) := by
    intro g hg
    obtain ⟨_, ⟨e1, _⟩ | ⟨g', cap, cur, hv, hg', hh, r⟩⟩ := h.row
    · rw [e1] at hg; cases hg
    · rw [hv] at hg; cases hg; exact ⟨hg', cur, hh⟩
  have hkeep : ∀ {x : Value} {l : List (Int × Int)}, StampRow w.heap.size W x l → StampRow w.heap.size W' x l := by
    intro x l hx
    refine hx.same fun g hg => h2.block g ((World.ownsRow.lt hx g hg).2) ?_
    intro e
    obtain ⟨_, cur, hc⟩ := hown g e.symm
    exact hx.ne hc (fun _ _ e => by cases e) hg
  refine ⟨?_, ?_, fun p hp => ?_⟩
  · have hz := h.bel.size
    refine ⟨h2.os.trans h.bel.os, h2.tape.trans h.bel.tape, h2.output.trans h.bel.output, Nat.le_trans hz h2.size, fun k hk => ?_⟩
    rw [h2.block k (by omega) (fun e => by have := (hown k e.symm).1; omega)]
    exact h.bel.block k hk
  · rw [List.length_append, feedCells_append]
    exact h1
  · rcases List.mem_append.1 hp with hp | hp
    · exact hkeep (h.st p hp)
    · obtain rfl := List.mem_singleton.1 hp
      exact hkeep hs
theorem ownsRow_less {w : World} {b b' : Nat} {e : TypeId} {z : Nat} {v : Value} {n : Nat} {xs : List Value} (h : w.ownsRow b e z v n xs) (hb : b' ≤ b) : w.ownsRow b' e z v n xs := by
  obtain ⟨h1, h2 | ⟨g, cap, cur, hv, hg, r⟩⟩ := h
  · exact ⟨h1, Or.inl h2⟩
  · exact ⟨h1, Or.inr ⟨g, cap, cur, hv, Nat.le_trans hb hg, r⟩⟩
theorem FdAt.mono {Q : List Orc.Kb} {w w2 : World} {q : List (ByteArray × Value)} {v : Value} {W : World} (h : FdAt Q w2 q v W) (B : Below w.heap.size w w2) : FdAt Q w q v W :=
  ⟨Below.more B h.bel, ownsRow_less h.row B.size, fun p hp => ownsRow_less (h.st p hp) B.size⟩
theorem name_found {Q : List Orc.Kb} {N : List (List UInt8)} (hN : N.Perm (namesOf Q)) {i : Nat} {x : List UInt8} (hx : N[i]? = some x) : ∃ q, Orc.find Q ⟨x.toArray⟩ = some q := by
  have hm : x ∈ namesOf Q := hN.mem_iff.1 (List.mem_of_getElem? hx)
  obtain ⟨q, hq, hn⟩ := List.mem_map.1 hm
  apply Option.isSome_iff_exists.1
  unfold Orc.find
  rw [List.find?_isSome]
  refine ⟨q, hq, decide_eq_true ?_⟩
  exact ba_ext (by simpa using hn)
set_option maxHeartbeats 8000000 in
theorem feeds_any (base tb mb : Nat) (Q : List Orc.Kb) (w : World) (h : TabAt base tb mb Q w) : Calls Tryz.prog 24 #[.pointer (some ⟨tb, 0, none⟩)] w (FeedsPost Q w) := by
  have HH := hid' h
  have HM := hid' (h.map)
  obtain ⟨D, hD, hsz, hl⟩ := h.map
  have hroom := h.room
  have hm64 : (64 : Nat) ≤ maxLen := by decide
  have HNP := hid' (names_perm hD h.names (fun q hq => Nat.le_trans (Led.name_len (h.fits q hq).name) (by decide)) (fun s hs => (hl s hs).1))
  have HSK := hid' (callsIn_wide.1 (sortedKeys_in mb Q.length D ptrElem w hD (by omega) (by omega)))
  have HRM := hid' hroom
  have c0 := (block_cells h.hb).1 0 _ rfl
  clear h hD hsz hl hroom hm64 HM
  go_enter Tryz.func24, Tryz.ntmps24
  go_wp2_with fail
  refine (callsIn_wide.1 (mapsKeys_in (some mb) w)).mono ?_
  rintro e w1 ⟨rfl, rfl⟩
  clear c0
  go_wp2_with fail
  refine HSK.out.mono ?_
  rintro e w2 ⟨nv, ss, rfl, hperm, hrow, hnil, hb⟩
  have hB2 : Below w.heap.size w w2 := Below.more ((Below.refl _ _).alloc (Nat.le_refl _) _) hb
  obtain ⟨N, hN⟩ : ∃ N, N = ss.mergeSort leB := ⟨_, rfl⟩
  have hNs : N = (namesOf Q).mergeSort leB := by rw [hN]; exact mergeSort_of_perm (hperm.trans HNP.out.symm)
  have hNp : N.Perm (namesOf Q) := by rw [hNs]; exact List.mergeSort_perm _ _
  have hNl : ss.length = N.length := by rw [hN]; exact (List.mergeSort_perm _ _).length_eq.symm
  have hN64 : N.length ≤ 64 := by rw [hNp.length_eq]; unfold namesOf; rw [List.length_map]; exact HRM.out
  have hrow2 : w2.ownsRow (w.alloc (.cells #[.map (some mb)] 76)).heap.size 9 1 nv N.length (N.map encStr) := by rw [← hNl, hN]; exact hrow
  have HROW := hid' hrow2
  have HNS := hid' hNs
  have HNP2 := hid' hNp
  have HN64 := hid' hN64
  have HB2 := hid' hB2
  obtain ⟨np, nc, hnv⟩ : ∃ p c, nv = .slice p N.length c := by
    obtain ⟨_, ⟨e1, e2⟩ | ⟨g, cap, cur, e, _⟩⟩ := hrow2
    · exact ⟨none, 0, by rw [e1, e2]⟩
    · exact ⟨_, _, e⟩
  subst hnv
  clear hperm hrow hnil hb hB2 hNs hNp hNl hN64 hrow2 HSK HNP hN
  go_wp2_with fail
  go_loopw [3, 15] (fun v iv wr => ∃ (i : Nat) (q : List (ByteArray × Value)) (vp : Option Addr) (vc : Nat), iv = .int .i64 (i : Int) ∧ v = .slice vp q.length vc ∧ i ≤ N.length ∧ Hid (FdAt Q w2 q (.slice vp q.length vc) wr) ∧ Hid ((q.map fun p => p.1.data.toList) = N.take i)) (fun _ iv _ => N.length - (intOf iv).toNat)
  case atStart => exact ⟨0, [], none, 0, rfl, rfl, Nat.zero_le _, hid' ⟨Below.refl _ _, World.ownsRow_nil _ _ _ _, fun p hp => by cases hp⟩, hid' rfl⟩
  case round =>
    obtain ⟨i, q, vp, vc, rfl, rfl, hi, HP, HQ⟩ := hrel
    by_cases hin : i < N.length
    · obtain ⟨x, hx⟩ : ∃ x, N[i]? = some x := ⟨_, List.getElem?_eq_getElem hin⟩
      obtain ⟨k, hk⟩ := name_found HNP2.out hx
      obtain ⟨sx, hsx⟩ : ∃ sx : ByteArray, sx = ⟨x.toArray⟩ := ⟨_, rfl⟩
      rw [← hsx] at hk
      have hT := HH.out.below (Below.more HB2.out HP.out.bel)
      have hnm := (Orc.find_mem hk).2
      have hlk := hT.look sx (by rw [← hnm]; exact Nat.le_trans (Led.name_len (HH.out.fits k (Orc.find_mem hk).1).name) (by decide)) false
      rw [hk] at hlk
      replace hlk : (Instr.lookup 76 (.map (some mb)) (.string sx) false).run Tryz.prog wr = .ok (.pointer (some ⟨k.kb, 0, none⟩)) wr := hlk
      have c0 := (block_cells hT.hb).1 0 _ rfl
      have k2 := (hT.kb hk).2.2.1
      obtain ⟨ng, hng⟩ : ∃ ng, np = some ⟨ng, 0, none⟩ ∧ w2.cell? ⟨ng, i, none⟩ = some (.string sx) ∧ ng < w2.heap.size := by
        have hr := HROW.out
        obtain ⟨_, ⟨e1, e2⟩ | ⟨g, cap, cur, e, _⟩⟩ := hr
        · omega
        · obtain ⟨rfl, rfl⟩ : np = some ⟨g, 0, none⟩ ∧ nc = cap := by simpa using e
          refine ⟨g, rfl, ?_, (World.ownsRow.lt HROW.out g rfl).2⟩
          have := World.ownsRow.cells HROW.out (g := g) rfl i (encStr x) (by rw [List.getElem?_map, hx]; rfl)
          rw [add_gen, Nat.zero_add] at this
          rw [this, hsx]
      obtain ⟨rfl, hnc, hngl⟩ := hng
      have n0 : wr.cell? ⟨ng, i, none⟩ = some (.string sx) := (HP.out.bel.cell (p := ⟨ng, i, none⟩) hngl).trans hnc
      have hcl := cloneStamps_any base k.sv k.kn.stamps wr ((hT.kn k (Orc.find_mem hk).1).row) (HH.out.fits k (Orc.find_mem hk).1).stamps
      have HX := hid' (And.intro hx hsx)
      have hsv := ((hT.kn k (Orc.find_mem hk).1).row).form
      obtain ⟨svp, svc, hsv, _⟩ := hsv
      rw [hsv] at hcl k2
      have HCL := hid' hcl
      have HST := hid' (show stampsOf Q sx = k.kn.stamps by unfold stampsOf; rw [hk])
      clear hsv hcl
      have g0 : decide ((i : Int) < (N.length : Int)) = true := by simp; omega
      have j1 : (0 : Int) ≤ (i : Int) := by omega
      have j2 : (i : Int) < (N.length : Int) := by omega
      have HI64 := HN64.out
      have w1 : IntKind.i64.wrap ((i : Int) + 1) = (i : Int) + 1 := IntWalk.i64_in _ (by omega)
      clear hT hnm hnc hngl hk hx hsx HI64
      go_wp2_with fail
      refine HCL.out.mono ?_
      rintro e w3 ⟨sv, rfl, hsr, b3⟩
      have hb4 : Below w3.heap.size w3 (w3.alloc (.cells #[.string sx, sv] 52)) := (Below.refl _ _).alloc (Nat.le_refl _) _
      have HF4 := hid' ((HP.out.below b3).below hb4)
      have HS4 := hid' (show StampRow w2.heap.size (w3.alloc (.cells #[.string sx, sv] 52)) sv (stampsOf Q sx) by
        rw [HST.out]
        exact StampRow.same (ownsRow_less hsr HP.out.bel.size) fun g hg => hb4.block g ((World.ownsRow.lt hsr g hg).2))
      have HG4 := hid' (heap_alloc_new w3 (.cells #[.string sx, sv] 52))
      obtain ⟨sp2, sc2, hsv2, _⟩ := StampRow.form hsr
      subst hsv2
      have HQL := hid' (show q.length ≤ 64 by
        have := congrArg List.length HQ.out
        rw [List.length_map, List.length_take] at this
        have := HN64.out
        omega)
      obtain ⟨fi, hfi, hz, hsz, hby⟩ := info_parts info_feed
      have HI := hid' hfi
      have HZ := hid' (And.intro hz (And.intro hsz hby))
      have HZ4 := hid' (Nat.le_trans HF4.out.bel.size (Nat.le_refl _))
      clear hb4 b3 hsr HCL c0 k2 n0 hlk hfi hz hsz hby
      go_wp2_with (refine wpList_append_own _ rfl _ _ 47 rfl w2.heap.size 52 fi _ 2 40 Tryz.underlying47 HI.out HZ.out.1 HZ.out.2.1 HZ.out.2.2 rfl (by decide) _ q.length _ rfl HF4.out.row ⟨w3.heap.size, 0, none⟩ 1 1 [.string sx, .slice sp2 k.kn.stamps.length sc2] rfl rfl (World.news_of_block HG4.out) (fun u hu => by
        simp only [List.mem_cons, List.not_mem_nil, or_false] at hu
        rcases hu with rfl | rfl <;> rfl) (by unfold maxLen; have := HQL.out; omega) (by have := HQL.out; omega) (by exact HZ4.out) (fun v' w' h1 h2 _ => ?_); refine halt' ?_)
      obtain ⟨vp2, vc2, hv2⟩ : ∃ p c, v' = .slice p (q.length + 1) c := by
        obtain ⟨_, ⟨e1, e2⟩ | ⟨g, cap, cur, e, _⟩⟩ := h1
        · omega
        · exact ⟨_, _, e⟩
      subst hv2
      have HPN := hid' (HF4.out.push HS4.out h1 h2)
      have HQN := hid' (show ((q ++ [(sx, Value.slice sp2 k.kn.stamps.length sc2)]).map fun p => p.1.data.toList) = N.take (i + 1) by
        rw [List.map_append, HQ.out, List.take_add_one, HX.out.1, HX.out.2]
        rfl)
      have HLN := hid' (show (q ++ [(sx, Value.slice sp2 k.kn.stamps.length sc2)]).length = q.length + 1 by simp)
      clear h1 h2
      refine hid' ?_
      go_wp2_with fail
      go_roundw
      case rel => exact ⟨i + 1, q ++ [(sx, Value.slice sp2 k.kn.stamps.length sc2)], vp2, vc2, by go_num, by rw [HLN.out], by omega, by rw [HLN.out]; exact HPN, HQN⟩
      case measure => simp [intOf]; omega
    · obtain rfl : i = N.length := by omega
      have g0 : decide (N.length < N.length) = false := by simp
      have HF := hid' (show (q.map fun p => p.1.data.toList) = (namesOf Q).mergeSort leB by rw [HQ.out, List.take_length]; exact HNS.out)
      have HPM := hid' (HP.out.mono HB2.out)
      go_wp2_with fail
      go_ret
      exact ⟨_, q, rfl, HPM.out, HF.out⟩
end Go.Proofs.YtmddaomchhigbaaGreatDoor

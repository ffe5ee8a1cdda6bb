/- Proved: lemmas and contracts of the functions that the law reaches, part 3 of 4: DnTold, DnToldW, DnLatP. Conditions: as each states. -/
import Derived.Deep.DeepCutAuto
import Derived.Maps.AppendAt
import Derived.Test.YtcpobnknmegkmaaDoorDnl1
import Derived.Test.YtcpobnknmegkmaaDoorDnm23
import Derived.Test.YtcpobnknmegkmaaDoorDnm24
import Derived.Test.YtcpobnknmegkmaaDoorDnm26
namespace Go.Proofs.YtcpobnknmegkmaaDoor
open Go.RowKit
set_option linter.unusedVariables false
set_option linter.unusedSimpArgs false
namespace Fd
/-- Feeds, without what they tell behind a day. -/
def keepTo (day : Int) (l : List (Int × Int)) : List (Int × Int) := l.filter fun s => decide (s.1 ≤ day)
def toldF (F : List Feed) (day : Int) : List Feed := F.map fun f => (f.1, keepTo day f.2)
theorem filter_take (d : Int) : ∀ l : List (Int × Int), l.Pairwise (fun a b => a.1 < b.1) → keepTo d l = l.take (keepTo d l).length
  | [], _ => rfl
  | a :: r, h => by
    obtain ⟨h1, h2⟩ := List.pairwise_cons.1 h
    have ih := filter_take d r h2
    unfold keepTo at ih ⊢
    by_cases ha : a.1 ≤ d
    · rw [List.filter_cons_of_pos (by simpa using ha), List.length_cons, List.take_succ_cons, ← ih]
    · rw [List.filter_cons_of_neg (by simpa using ha)]
      have : r.filter (fun s => decide (s.1 ≤ d)) = [] := by
        rw [List.filter_eq_nil_iff]
        intro b hb
        have := h1 b hb
        simp
        omega
      rw [this]
      rfl
theorem rise_pairs {l : List (Int × Int)} (h : Rise l) : l.Pairwise (fun a b => a.1 < b.1) := by
  rw [List.pairwise_iff_getElem]
  intro i j hi hj hij
  have := h.2 j i hij hj
  rwa [stampAt_eq' (List.getElem?_eq_getElem hi), stampAt_eq' (List.getElem?_eq_getElem hj)] at this
theorem keep_at {l : List (Int × Int)} (h : Rise l) (d : Int) (k : Nat) (hk : k < (keepTo d l).length) : (keepTo d l)[k]? = l[k]? := by
  have e := filter_take d l (rise_pairs h)
  rw [e, List.getElem?_take_of_lt hk]
theorem keep_le (d : Int) (l : List (Int × Int)) : (keepTo d l).length ≤ l.length := List.length_filter_le _ _
/-- Which ones are kept: those up to the day. -/
theorem keep_day {l : List (Int × Int)} (h : Rise l) (d : Int) {k : Nat} {s : Int × Int} (hs : l[k]? = some s) : s.1 ≤ d ↔ k < (keepTo d l).length := by
  constructor
  · intro hd
    apply Decidable.byContradiction
    intro hk
    have hm : s ∈ keepTo d l := List.mem_filter.2 ⟨List.mem_of_getElem? hs, by simpa using hd⟩
    obtain ⟨j, hj⟩ := List.getElem?_of_mem hm
    have hjl := (List.getElem?_eq_some_iff.1 hj).1
    rw [keep_at h d j hjl] at hj
    have hkl := (List.getElem?_eq_some_iff.1 hs).1
    have := h.2 k j (by omega) hkl
    rw [stampAt_eq' hj, stampAt_eq' hs] at this
    omega
  · intro hk
    rw [← keep_at h d k hk] at hs
    have := (List.mem_filter.1 (List.mem_of_getElem? hs)).2
    simpa using this
theorem upto_keep {l : List (Int × Int)} (h : Rise l) {d d' : Int} (hd : d' ≤ d) : upto (keepTo d l) d' = upto l d' := by
  obtain ⟨i, h0, h1, h2⟩ := lower_ex h (d' + 1) l.length (Nat.le_refl _)
  have e : upto l d' = i := by
    unfold upto
    refine countP_here _ i _ h0 (fun k hk => ?_) (fun k h3 h4 => ?_)
    · rw [Bool.not_eq_true', decide_eq_false_iff_not]; have := of_decide_eq_true (h1 k hk); omega
    · rw [Bool.not_eq_false', decide_eq_true_eq]; have := of_decide_eq_false (h2 k h3 h4); omega
  have hi : i ≤ (keepTo d l).length := by
    rcases hi0 : i with _ | j
    · omega
    · have hj : j < l.length := by omega
      have := (keep_day h d (stampAt_some hj)).1 (by have := of_decide_eq_true (h1 j (by omega)); omega)
      omega
  rw [e]
  unfold upto
  have at_eq'' : ∀ k, k < (keepTo d l).length → stampAt (keepTo d l) k = stampAt l k := fun k hk => by unfold stampAt; rw [keep_at h d k hk]
  refine countP_here _ i _ hi (fun k hk => ?_) (fun k h3 h4 => ?_)
  · rw [at_eq'' k (by omega), Bool.not_eq_true', decide_eq_false_iff_not]; have := of_decide_eq_true (h1 k hk); omega
  · have := keep_le d l
    rw [at_eq'' k h4, Bool.not_eq_false', decide_eq_true_eq]; have := of_decide_eq_false (h2 k h3 (by omega)); omega
theorem told_at (F : List Feed) (day : Int) (i : Nat) : (toldF F day)[i]? = (F[i]?).map fun f => (f.1, keepTo day f.2) := by unfold toldF; rw [List.getElem?_map]
theorem told_place (F : List Feed) (day : Int) (s : ByteArray) : place (toldF F day) s = place F s := by
  unfold place
  rw [show (toldF F day).length = F.length by unfold toldF; rw [List.length_map]]
  apply List.countP_congr
  intro i hi
  rw [List.mem_range] at hi
  have : (at' (toldF F day) i).1 = (at' F i).1 := by
    unfold at'
    rw [told_at, List.getElem?_eq_getElem hi]
    rfl
  rw [this]
theorem told_tells {F : List Feed} (h : Ok F) (day : Int) (s : ByteArray) {n : Int} (hn : 0 ≤ n) : tells (toldF F day) day s n = tells F day s n := by
  unfold tells
  rw [told_place, told_at]
  cases hp : F[place F s]? with
  | none => rfl
  | some f =>
    simp only [Option.map_some]
    have hr := rise_of h hp
    rw [upto_keep hr (by omega : day - n ≤ day)]
    by_cases hf : f.1 = s
    · rw [if_pos hf, if_pos hf]
      by_cases hu : upto f.2 (day - n) = 0
      · rw [if_pos hu, if_pos hu]
      · rw [if_neg hu, if_neg hu]
        congr 2
        unfold stampAt
        have h1 := upto_le (keepTo day f.2) (day - n)
        rw [upto_keep hr (by omega : day - n ≤ day)] at h1
        rw [keep_at hr day _ (by omega)]
    · rw [if_neg hf, if_neg hf]
theorem told_ok {F : List Feed} (h : Ok F) (day : Int) : Ok (toldF F day) := by
  refine ⟨by unfold toldF; rw [List.length_map]; exact h.1, fun i f hf => ?_⟩
  rw [told_at] at hf
  obtain ⟨g, hg, rfl⟩ := Option.map_eq_some_iff.1 hf
  have ok := h.2 i g hg
  have hr := rise_of h hg
  refine ⟨ok.name, fun j hj x hx => ?_, Nat.le_trans (keep_le day g.2) ok.len, fun k s hs => ?_⟩
  · rw [told_at] at hx
    obtain ⟨y, hy, rfl⟩ := Option.map_eq_some_iff.1 hx
    exact ok.rise j hj y hy
  · have hk := (List.getElem?_eq_some_iff.1 hs).1
    rw [keep_at hr day k hk] at hs
    have hst := ok.stamps k s hs
    refine ⟨hst.day, fun j hj u hu => ?_, hst.num⟩
    have hj2 := (List.getElem?_eq_some_iff.1 hu).1
    rw [keep_at hr day j hj2] at hu
    exact hst.up j hj u hu
end Fd
theorem told_alike {F : List Fd.Feed} (h : Fd.Ok F) (day : Int) : Dn.Alike (Dn.eyes F day) (Dn.eyes (Fd.toldF F day) day) := ⟨rfl, fun s n hn => (Fd.told_tells h day s hn).symm⟩
end Go.Proofs.YtcpobnknmegkmaaDoor
namespace Go.Proofs.YtcpobnknmegkmaaDoor
open Go.RowKit
open Rw
set_option linter.unusedVariables false
set_option linter.unusedSimpArgs false
set_option maxRecDepth 100000
def pair2 (x : Int × Int) : List Value := [.int .i64 x.1, .int .i64 x.2]
def StampRow (base : Nat) (w : World) (v : Value) (l : List (Int × Int)) : Prop := w.ownsRow base 68 2 v l.length (l.flatMap pair2)
abbrev FQ : Type := ByteArray × Value
def fq2 (x : FQ) : List Value := [.string x.1, x.2]
theorem info_stamp : (Tryd.prog.info? 68).map (fun i => (i.zero, i.size, i.bytes)) = some (some (.agg #[.int .i64 0, .int .i64 0]), 2, 16) := by kernel_rfl
theorem info_feed : (Tryd.prog.info? 66).map (fun i => (i.zero, i.size, i.bytes)) = some (some (.agg #[.string ⟨#[]⟩, .slice none 0 0]), 2, 40) := by kernel_rfl
/-- Feeds in rows of the call's own. -/
def ToldRow (base : Nat) (L : List Fd.Feed) (v : Value) (W : World) : Prop := ∃ qs : List FQ, qs.length = L.length ∧ W.ownsRow base 66 2 v L.length (qs.flatMap fq2) ∧
  ∀ (j : Nat) f, L[j]? = some f → ∃ q : FQ, qs[j]? = some q ∧ q.1 = f.1 ∧ StampRow base W q.2 f.2
theorem ToldRow.nil (base : Nat) (W : World) : ToldRow base [] (.slice none 0 0) W := ⟨[], rfl, ⟨rfl, .inl ⟨rfl, rfl⟩⟩, fun j u h => by simp at h⟩
theorem own_kept {W W' : World} {b z n : Nat} {t : TypeId} {v : Value} {xs : List Value} (h : W.ownsRow b t z v n xs) (hb : Below W.heap.size W W') : W'.ownsRow b t z v n xs :=
  ⟨h.1, h.2.imp id fun ⟨g, cap, cur, e1, e2, e3, e4⟩ => ⟨g, cap, cur, e1, e2, (hb.block g (lt_of_block e3)).trans e3, e4⟩⟩
theorem ToldRow.kept {base : Nat} {L : List Fd.Feed} {v : Value} {W W' : World} (h : ToldRow base L v W) (hb : Below W.heap.size W W') : ToldRow base L v W' := by
  obtain ⟨qs, h1, h2, h3⟩ := h
  refine ⟨qs, h1, own_kept h2 hb, fun j f hj => ?_⟩
  obtain ⟨q, h4, h5, h6⟩ := h3 j f hj
  exact ⟨q, h4, h5, own_kept h6 hb⟩
theorem ToldRow.far {base : Nat} {L : List Fd.Feed} {v : Value} {W : World} (h : ToldRow base L v W) {b : Nat} (e : v.ownBlock = some b) : base ≤ b ∧ b < W.heap.size := by
  obtain ⟨qs, h1, h2, h3⟩ := h
  exact World.ownsRow.lt h2 b e
theorem append_feed {w : World} {ops : Array Oper} {rest : List Oper} {o : Oper} {a : Act} {Q : Exit → Act → World → Prop} (hgd : o.guard = none) (s x : Operand)
    (ho : o.op = .call { callee := .builtin .append, args := #[s, x], argTypes := #[25, 25] })
    (base : Nat) (v : Value) (L : List Fd.Feed) (hs : a.eval s = v) (hown : ToldRow base L v w) (f : Fd.Feed) (sv : Value) (h1c : sv.oneCell' = true) (hst : StampRow base w sv f.2) (hx : a.eval x = .slice (some ⟨w.heap.size, 0, none⟩) 1 1)
    (hbound : L.length + 1 ≤ 4000000) (hbase : base ≤ w.heap.size)
    (h : ∀ v' w', ToldRow base (L ++ [f]) v' w' → w.grownBy w' v.ownBlock → wpList Tryd.prog ops Q rest (a.put o.dst v') w') :
    wpList Tryd.prog ops Q (o :: rest) a (w.alloc (.cells #[.string f.1, sv] 66)) := by
  obtain ⟨i, hi, hz, hsz, hby⟩ := info_split info_feed
  obtain ⟨qs, h1, h2, h3⟩ := hown
  refine wpList_append_own_at _ hgd s x 25 ho base 66 i _ 2 40 Tryd.underlying25 hi hz hsz hby rfl (by decide) v L.length _ hs (World.ownsRow.alloc h2 _) ⟨w.heap.size, 0, none⟩ 1 1 (fq2 (f.1, sv)) hx rfl
    (fun j u hj => ?_) (fun u hu => ?_) (by unfold maxLen; omega) (by omega) (by simp; omega) (fun v' w' k1 k2 _ k4 => h v' w' ?_ (grown_trans (grown_of_below ((Below.refl _ _).alloc (Nat.le_refl _) _) _) k2))
  · rw [add_gen, World.cell?_alloc_new, Nat.zero_add, ← hj]
    simp [fq2]
  · simp only [fq2, List.mem_cons, List.not_mem_nil, or_false] at hu
    rcases hu with rfl | rfl
    · rfl
    · exact h1c
  · have hne : ∀ sv' l, StampRow base w sv' l → StampRow base w' sv' l := fun sv' l h => World.ownsRow.kept (World.ownsRow.alloc h _) k2 (row_ne (World.ownsRow.alloc h (.cells #[.string f.1, sv] 66)) (World.ownsRow.alloc h2 (.cells #[.string f.1, sv] 66)) (by decide))
    refine ⟨qs ++ [(f.1, sv)], by simp [h1], ?_, fun j g hj => ?_⟩
    · rw [List.length_append, List.flatMap_append]
      simpa using k1
    · by_cases hjl : j < L.length
      · rw [List.getElem?_append_left hjl] at hj
        obtain ⟨q', h4, h5, h6⟩ := h3 j g hj
        exact ⟨q', by rw [List.getElem?_append_left (by omega)]; exact h4, h5, hne _ _ h6⟩
      · have hj' := (List.getElem?_eq_some_iff.1 hj).1
        simp only [List.length_append, List.length_cons, List.length_nil] at hj'
        obtain rfl : j = L.length := by omega
        have : f = g := by simpa using hj
        subst this
        exact ⟨(f.1, sv), by rw [← h1]; simp, rfl, hne _ _ hst⟩
theorem step_stamp {w : World} {ops : Array Oper} {o : Oper} {a : Act} {K : Act → World → Prop} {Q : Exit → Act → World → Prop} {E : Prop} (hgd : o.guard = none) (s x : Operand)
    (ho : o.op = .call { callee := .builtin .append, args := #[s, x], argTypes := #[64, 64] })
    (base : Nat) (v : Value) (L : List (Int × Int)) (hs : a.eval s = v) (hown : StampRow base w v L) (y : Int × Int) (hx : a.eval x = .slice (some ⟨w.heap.size, 0, none⟩) 1 1) (hbound : L.length + 1 ≤ 4000000) (hbase : base ≤ w.heap.size)
    (h : ∀ v' w', StampRow base w' v' (L ++ [y]) → w.grownBy w' v.ownBlock → K (a.put o.dst v') w') :
    if Region.wanted o (yielded ops a.tmps) = true then Oper.wp Tryd.prog o a (w.alloc (.cells #[.int .i64 y.1, .int .i64 y.2] 68)) K Q else E := by
  have hw : Region.wanted o (yielded ops a.tmps) = true := by simp [Region.wanted, hgd]
  rw [if_pos hw]
  obtain ⟨i, hi, hz, hsz, hby⟩ := info_split info_stamp
  refine wp_append_own _ s x 64 ho base 68 i _ 2 16 Tryd.underlying64 hi hz hsz hby rfl (by decide) v L.length _ hs (World.ownsRow.alloc hown _) ⟨w.heap.size, 0, none⟩ 1 1 (pair2 y) hx rfl
    (fun j u hj => ?_) (fun u hu => ?_) (by unfold maxLen; omega) (by omega) (by simp; omega) (fun v' w' h1 h2 _ => h v' w' ?_ (grown_trans (grown_of_below ((Below.refl _ _).alloc (Nat.le_refl _) _) _) h2))
  · rw [add_gen, World.cell?_alloc_new, Nat.zero_add, ← hj]
    simp [pair2]
  · simp only [pair2, List.mem_cons, List.not_mem_nil, or_false] at hu
    rcases hu with rfl | rfl <;> rfl
  · show World.ownsRow w' base _ 2 v' (L ++ [y]).length ((L ++ [y]).flatMap pair2)
    rw [List.length_append, List.flatMap_append]
    simpa using h1
theorem StampRow.stamps {base : Nat} {W : World} {v : Value} {L : List (Int × Int)} (h : StampRow base W v L) (hI : ∀ x ∈ L, I64 x.1 ∧ I64 x.2) : StampsAt W v L := by
  obtain ⟨h0, ⟨rfl, hz⟩ | ⟨g, cap, cur, rfl, h2, h3, h4, h5, h6, h7⟩⟩ := id h
  · obtain rfl : L = [] := List.eq_nil_of_length_eq_zero hz
    exact ⟨none, 0, rfl, ⟨Nat.le_refl _, Nat.zero_le _⟩, fun i x hx => by simp at hx⟩
  · obtain ⟨p, c, e, hc⟩ := rowcells_of (f := pair2) (fun _ => rfl) h
    cases e
    refine ⟨_, _, rfl, ⟨h4, h5⟩, fun i x hx => ?_⟩
    obtain ⟨g', e', hg, hj⟩ := hc i x hx
    cases e'
    exact ⟨g, 0, rfl, hg, ⟨hj 0 _ (by omega) rfl, hj 1 _ (by omega) rfl⟩, hI x (List.mem_of_getElem? hx)⟩
theorem ToldRow.feeds {base : Nat} {W : World} {v : Value} {L : List Fd.Feed} (h : ToldRow base L v W) (hI : ∀ f ∈ L, f.1.size ≤ 2000000 ∧ ∀ x ∈ f.2, I64 x.1 ∧ I64 x.2) : FeedsAt W v L := by
  obtain ⟨qs, h1, h2, h3⟩ := h
  obtain ⟨h0, ⟨rfl, hz⟩ | ⟨g, cap, cur, rfl, k2, k3, k4, k5, k6, k7⟩⟩ := id h2
  · obtain rfl : L = [] := List.eq_nil_of_length_eq_zero hz
    exact ⟨none, 0, rfl, ⟨Nat.le_refl _, Nat.zero_le _⟩, fun i x hx => by simp at hx⟩
  · rw [← h1] at h2
    obtain ⟨p, c, e, hc⟩ := rowcells_of (f := fq2) (fun _ => rfl) h2
    obtain ⟨rfl, rfl⟩ : some (⟨g, 0, none⟩ : Addr) = p ∧ cap = c := by simpa using e
    refine ⟨_, _, rfl, ⟨k4, k5⟩, fun i x hx => ?_⟩
    obtain ⟨q, hq, hq1, hst⟩ := h3 i x hx
    obtain ⟨g', e', hg, hj⟩ := hc i q hq
    cases e'
    have hi := hI x (List.mem_of_getElem? hx)
    exact ⟨g, 0, q.2, rfl, hg, ⟨by rw [← hq1]; exact hj 0 _ (by omega) rfl, hj 1 _ (by omega) rfl⟩, hst.stamps hi.2, hi.1⟩
/-- The box of the feed that is being made. -/
structure ToldIn (ws : World) (name : ByteArray) (l : List (Int × Int)) (sv : Value) (W : World) : Prop where
  bel : Below ws.heap.size ws W
  box : W.heap[ws.heap.size]? = some (.cells #[.string name, sv] 66 (0, 0))
  row : StampRow (ws.heap.size + 1) W sv l
theorem ToldIn.below {ws : World} {name : ByteArray} {l : List (Int × Int)} {sv : Value} {W W' : World} (h : ToldIn ws name l sv W) (b : Below W.heap.size W W') : ToldIn ws name l sv W' :=
  ⟨h.bel.trans (b.mono h.bel.size), box_below b h.box, own_kept h.row b⟩
theorem ToldIn.push {ws : World} {name : ByteArray} {l : List (Int × Int)} {sv v' : Value} {W W' : World} (h : ToldIn ws name l sv W) {y : Int × Int} (row : StampRow (ws.heap.size + 1) W' v' (l ++ [y])) (g : W.grownBy W' sv.ownBlock) : ToldIn ws name (l ++ [y]) v' (W'.setCell ⟨ws.heap.size, 1, none⟩ v') := by
  have hlt := lt_of_block h.box
  have hb : W'.heap[ws.heap.size]? = some (.cells #[.string name, sv] 66 (0, 0)) := (g.block _ hlt fun e => own_lt h.row (Nat.lt_succ_self _) e.symm).trans h.box
  refine ⟨?_, heap_setCell_same W' ws.heap.size 1 _ _ _ hb, World.ownsRow.kept row (grown_set W' ws.heap.size 1 v') (.inr (own_lt row (Nat.lt_succ_self _)))⟩
  have h1 : Below ws.heap.size ws W' := h.bel.trans ⟨g.os, g.tape, g.output, g.size, fun k hk => g.block k (Nat.lt_trans hk hlt) fun e => own_lt h.row (Nat.lt_succ_of_lt hk) e.symm⟩
  exact h1.setCell (p := ⟨ws.heap.size, 1, none⟩) (Nat.le_refl _) v'
theorem below_row2 {base z n : Nat} {w W W' : World} {t : TypeId} {v : Value} {xs : List Value} (h : Below base w W) (row : W.ownsRow base t z v n xs) (hb : base ≤ W.heap.size) (g : W.grownBy W' v.ownBlock) : Below base w W' :=
  h.trans ⟨g.os, g.tape, g.output, g.size, fun k hk => g.block k (Nat.lt_of_lt_of_le hk hb) fun e => own_lt row hk e.symm⟩
set_option maxHeartbeats 8000000 in
theorem told_any (F : List Fd.Feed) (day : Int) (vf : Value) (w : World) (hF : FeedsAt w vf F) (hn : F.length ≤ 1048576 ∧ ∀ f ∈ F, f.2.length ≤ 1048576) :
    Calls Tryd.prog 12 #[vf, .int .i64 day] w fun e w' => Below w.heap.size w w' ∧ ∃ v, e = .returned v ∧ FeedsAt w' v (Fd.toldF F day) := by
  have HF := hid' hF
  obtain ⟨fp, fc, rfl, ⟨hl1, hl2⟩, hf⟩ := hF
  have HFA := hid' hf
  have HNL := hid' hn
  have hbig : (F.length : Int) ≤ 1048576 := by have := hn.1; omega
  clear hf hl1 hl2 hn
  go_enter Tryd.func12, Tryd.ntmps12
  go_wp2_with fail
  go_loopw [5, 6] (fun ov iv wr => ∃ i : Nat, iv = .int .i64 (i : Int) ∧ i ≤ F.length ∧ Hid (ToldRow w.heap.size (Fd.toldF (F.take i) day) ov wr ∧ Below w.heap.size w wr)) (fun _ iv _ => F.length - (intOf iv).toNat)
  case atStart => exact ⟨0, rfl, Nat.zero_le _, hid' ⟨ToldRow.nil _ _, Below.refl _ _⟩⟩
  case round =>
    obtain ⟨i, rfl, hi, HJ⟩ := hrel
    obtain ⟨ov, hov⟩ : ∃ ov, ov = u5 := ⟨_, rfl⟩
    by_cases hin : i < F.length
    · obtain ⟨x, hx⟩ : ∃ x, F[i]? = some x := ⟨_, List.getElem?_eq_getElem hin⟩
      obtain ⟨fb, fo, sv0, rfl, hfb, ⟨x0, x1⟩, hst, hxs⟩ := HFA.out i x hx
      have HX0 := hid' (fun W (h : Below w.heap.size w W) => And.intro (keep_all h _ _ x0) (keep_all h _ _ x1))
      obtain ⟨sp, sc, rfl, ⟨hs1, hs2⟩, hss⟩ := hst
      have HSS := hid' hss
      have hxl : x.2.length ≤ 1048576 := HNL.out.2 x (List.mem_of_getElem? hx)
      have j1 : (0 : Int) ≤ (i : Int) := by omega
      have j2 : (i : Int) < (F.length : Int) := by omega
      have wi : IntKind.i64.wrap ((i : Int) + 1) = (i : Int) + 1 := IntWalk.i64_in _ (by omega)
      have HTK := hid' (show Fd.toldF (F.take (i + 1)) day = Fd.toldF (F.take i) day ++ [(x.1, Fd.keepTo day x.2)] by unfold Fd.toldF; rw [List.take_add_one, hx]; simp)
      have HI := hid' hin
      obtain ⟨ws, hws⟩ : ∃ ws, ws = wr := ⟨_, rfl⟩
      rw [← hws] at HJ ⊢
      obtain ⟨x0', x1'⟩ := HX0.out ws HJ.out.2
      clear hx hss hs1 hs2 hin hfb x0 x1 hws hxs
      have BX := (Below.refl ws.heap.size ws).alloc (Nat.le_refl _) (.cells #[.string x.1, .slice none 0 0] 66)
      have hbx := heap_alloc_new ws (.cells #[.string x.1, .slice none 0 0] 66)
      have HT0 := hid' (show ToldIn ws x.1 (Fd.keepTo day (x.2.take 0)) (.slice none 0 0) (ws.alloc (.cells #[.string x.1, .slice none 0 0] 66)) from ⟨BX, hbx, World.ownsRow_nil _ _ _ _⟩)
      go_upto_region 6 with (fail)
      clear BX hbx x0' x1'
      generalize World.alloc ws _ = w5 at *
      obtain ⟨xb, hxb⟩ : ∃ xb, xb = ws.heap.size := ⟨_, rfl⟩
      rw [← hxb]
      have HXB := hid' hxb
      clear hxb
      go_wp2_with fail
      go_loopw [8] (fun kv wz => ∃ (k : Nat) (sv : Value), kv = .int .i64 (k : Int) ∧ k ≤ x.2.length ∧ Hid (ToldIn ws x.1 (Fd.keepTo day (x.2.take k)) sv wz)) (fun kv _ => x.2.length - (intOf kv).toNat)
      case atStart => exact ⟨0, _, rfl, Nat.zero_le _, HT0⟩
      case round =>
        clear HT0
        obtain ⟨k, sv, rfl, hk, HT⟩ := hrel
        have HWT := hid' (show Below w.heap.size w wr from HJ.out.2.trans (HT.out.bel.mono HJ.out.2.size))
        obtain ⟨x0, x1⟩ := HX0.out wr HWT.out
        by_cases hkn : k < x.2.length
        · obtain ⟨z, hz⟩ : ∃ z, x.2[k]? = some z := ⟨_, List.getElem?_eq_getElem hkn⟩
          obtain ⟨sb, so, rfl, hsb, ⟨y0, y1⟩, -, -⟩ := HSS.out k z hz
          replace y0 := keep_all HWT.out _ _ y0
          replace y1 := keep_all HWT.out _ _ y1
          have k1 : (0 : Int) ≤ (k : Int) := by omega
          have k2 : (k : Int) < (x.2.length : Int) := by omega
          have wk : IntKind.i64.wrap ((k : Int) + 1) = (k : Int) + 1 := IntWalk.i64_in _ (by omega)
          have HKN := hid' hkn
          obtain ⟨za, zf⟩ := z
          simp only at y0 y1
          have HTZ : Hid (x.2.take (k + 1) = x.2.take k ++ [(za, zf)]) := hid' (by rw [List.take_add_one, hz]; rfl)
          clear hz hsb hkn
          by_cases hd : za ≤ day
          · have g0 : decide (za ≤ day) = true := decide_eq_true hd
            have HKK := hid' (show Fd.keepTo day (x.2.take (k + 1)) = Fd.keepTo day (x.2.take k) ++ [(za, zf)] by rw [HTZ.out]; unfold Fd.keepTo; rw [List.filter_append]; simp [hd])
            have r1 := bcells HT.out.box 1 _ rfl
            rw [← HXB.out] at r1
            have r1' := alloc_cell r1 (.cells #[.int .i64 za, .int .i64 zf] 68)
            have x1'' := alloc_cell x1 (.cells #[.int .i64 za, .int .i64 zf] 68)
            have HTS : Hid (StampRow (ws.heap.size + 1) wr.drew sv (Fd.keepTo day (x.2.take k))) := hid' (World.ownsRow.drew HT.out.row)
            have HLD := hid' (HT.out.below (Below.refl wr.heap.size wr).drew)
            have HLB := hid' (show (Fd.keepTo day (x.2.take k)).length + 1 ≤ 4000000 by have := Fd.keep_le day (x.2.take k); rw [List.length_take] at this; omega)
            have HMB := hid' (show ws.heap.size + 1 ≤ wr.drew.heap.size from lt_of_block HLD.out.box)
            clear hd
            go_upto_region 10 with (fail)
            go_region_law (first | (refine step_stamp rfl _ _ (by rfl) (ws.heap.size + 1) sv _ (by rfl) HTS.out (za, zf) (by rfl) HLB.out HMB.out ?_; intro v' w6 h5 h6; have hk5 := (h6.block ws.heap.size (lt_of_block HLD.out.box) (fun e => own_lt HTS.out (Nat.lt_succ_self _) e.symm)).trans HLD.out.box; rw [← HXB.out] at hk5; have hkc := bcells hk5 1 _ rfl; have hkf := frozen_of (o := 1) hk5; obtain ⟨hp, hc', rfl⟩ := row_form h5))
            all_goals have HNX := hid' (ToldIn.push HLD.out h5 h6)
            all_goals simp only [List.length_append, List.length_cons, List.length_nil, Nat.zero_add] at HNX
            all_goals rw [← HKK.out, ← HXB.out] at HNX
            all_goals clear h5 h6 r1 r1' x1'' hk5 hkc hkf y0 y1 x0 x1
            all_goals go_wp2_with fail
            all_goals
              go_roundw
              case rel => exact ⟨k + 1, _, by go_num, by have := HKN.out; omega, HNX⟩
              case measure => have := HKN.out; simp only [intOf]; omega
          · have g0 : decide (za ≤ day) = false := decide_eq_false hd
            have HKK := hid' (show Fd.keepTo day (x.2.take (k + 1)) = Fd.keepTo day (x.2.take k) by rw [HTZ.out]; unfold Fd.keepTo; rw [List.filter_append]; simp [hd])
            have HNX := hid' (show ToldIn ws x.1 (Fd.keepTo day (x.2.take (k + 1))) sv wr by rw [HKK.out]; exact HT.out)
            clear hd
            go_wp2_with fail
            go_roundw
            case rel => exact ⟨k + 1, _, by go_num, by have := HKN.out; omega, HNX⟩
            case measure => have := HKN.out; simp only [intOf]; omega
        · obtain rfl : k = x.2.length := by omega
          have j3 : decide (x.2.length < x.2.length) = false := by simp
          have r0 := bcells HT.out.box 0 _ rfl
          have r1 := bcells HT.out.box 1 _ rfl
          rw [← HXB.out] at r0 r1
          have HTR := hid' (HJ.out.1.kept HT.out.bel)
          have HSR := hid' (show StampRow w.heap.size wr sv (Fd.keepTo day x.2) from by
            have h := HT.out.row
            rw [List.take_length] at h
            exact ⟨h.1, h.2.imp id fun ⟨g, cap, cur, e1, e2, e3⟩ => ⟨g, cap, cur, e1, Nat.le_trans (Nat.le_succ_of_le HJ.out.2.size) e2, e3⟩⟩)
          have HSZ := hid' HWT.out.size
          obtain ⟨svp, svc, hsv⟩ := row_form HSR.out
          have hone : sv.oneCell' = true := by rw [hsv]; rfl
          clear hkn hsv
          go_wp2_with (refine append_feed rfl _ _ rfl w.heap.size u5 _ rfl HTR.out (x.1, Fd.keepTo day x.2) sv hone HSR.out rfl (by unfold Fd.toldF; rw [List.length_map, List.length_take]; omega) HSZ.out (fun v' w7 h5 h6 => ?_); refine halt' ?_)
          refine hid' ?_
          have HNX := hid' (show ToldRow w.heap.size (Fd.toldF (F.take (i + 1)) day) v' w7 ∧ Below w.heap.size w w7 from ⟨by rw [HTK.out]; exact h5, by
            obtain ⟨qs, -, hown, -⟩ := HTR.out
            exact below_row2 HWT.out hown HSZ.out h6⟩)
          clear h5 h6 r0 r1 x0 x1
          go_wp2_with fail
          go_roundw
          case rel => exact ⟨i + 1, by go_num, by have := HI.out; omega, HNX⟩
          case measure => have := HI.out; simp only [intOf]; omega
    · obtain rfl : i = F.length := by omega
      have j3 : decide (F.length < F.length) = false := by simp
      clear hin
      go_wp2_with fail
      go_ret
      refine ⟨HJ.out.2, _, rfl, ?_⟩
      have h := HJ.out.1
      rw [List.take_length] at h
      refine h.feeds (fun f hf => ?_)
      obtain ⟨j, hj⟩ := List.getElem?_of_mem hf
      rw [Fd.told_at] at hj
      obtain ⟨g, hg, rfl⟩ := Option.map_eq_some_iff.1 hj
      obtain ⟨_, _, _, _, _, _, ⟨_, _, _, _, hss⟩, hxs⟩ := HFA.out j g hg
      refine ⟨hxs, fun y hy => ?_⟩
      obtain ⟨m, hm⟩ := List.getElem?_of_mem (List.mem_filter.1 hy).1
      obtain ⟨_, _, _, _, _, h1, h2⟩ := hss m y hm
      exact ⟨h1, h2⟩
end Go.Proofs.YtcpobnknmegkmaaDoor
namespace Go.Proofs.YtcpobnknmegkmaaDoor
open Go.RowKit
open Rw
set_option linter.unusedVariables false
set_option linter.unusedSimpArgs false
set_option maxRecDepth 100000
namespace Dn
open Co
theorem errOf_none' : errOf none = 150 := rfl
theorem begin_told {t : T} {day : Int} {F : List Fd.Feed} (h : Fd.Ok F) : beginR t day (Fd.toldF F day) = beginR t day F := by
  unfold beginR
  by_cases hg : t.good ∧ dayOk day = true
  · rw [if_pos ⟨hg.1, hg.2, Fd.told_ok h day⟩, if_pos ⟨hg.1, hg.2, h⟩, acq_alike (told_alike h day) t hg.1.2.2]
  · rw [if_neg (fun hh => hg ⟨hh.1, hh.2.1⟩), if_neg (fun hh => hg ⟨hh.1, hh.2.1⟩)]
theorem step_told {t : T} {l : List (Int × Int)} {day : Int} {F : List Fd.Feed} {lab : ByteArray} {wh : Int} (h : Fd.Ok F) : stepR t l day (Fd.toldF F day) lab wh = stepR t l day F lab wh := by
  unfold stepR
  by_cases hg : t.good ∧ dayOk day = true ∧ pickB lab wh = true ∧ LivesOk (pre t) l
  · rw [if_pos ⟨hg.1, hg.2.1, Fd.told_ok h day, hg.2.2⟩, if_pos ⟨hg.1, hg.2.1, h, hg.2.2⟩, step_alike (told_alike h day) hg.1.2.2]
  · rw [if_neg (fun hh => hg ⟨hh.1, hh.2.1, hh.2.2.2⟩), if_neg (fun hh => hg ⟨hh.1, hh.2.1, hh.2.2.2⟩)]
theorem begin_short (t : T) (day : Int) (F : List Fd.Feed) : ∀ r, beginR t day F = some r → r.1.length ≤ 100000000 ∧ r.2.length ≤ 100000000 := by
  intro r h
  have := (begin_lives h).2.1
  omega
theorem step_short (t : T) (l : List (Int × Int)) (day : Int) (F : List Fd.Feed) (lab : ByteArray) (wh : Int) : ∀ r, stepR t l day F lab wh = some r → r.1.length ≤ 100000000 ∧ r.2.length ≤ 100000000 := by
  intro r h
  unfold stepR at h
  split at h
  · rename_i hg
    obtain rfl := Option.some.inj h
    have h1 := ((small_iff t).1 hg.1.1).1
    have h2 := lives_len hg.2.2.2.2
    have h3 := stepAll_len (eyes_ok hg.2.2.1 day) lab wh (t := t) (by rw [hg.1.2.1]; decide) hg.2.2.2.2 l.length (Nat.le_refl _)
    rw [List.take_length] at h3
    rw [pre_len] at h2
    have h4 : l.length * t.size ≤ 2000 * 2000 := Nat.mul_le_mul (by omega) h1
    omega
  · cases h
end Dn
/-- The results of Begin or Step, by their lists. -/
theorem DnPost.lists {o : Option Dn.R} {day : Int} {w w' : World} {e : Ending} (h : DnPost o day w e w') (hs : ∀ r, o = some r → r.1.length ≤ 100000000 ∧ r.2.length ≤ 100000000) :
    Below w.heap.size w w' ∧ ∃ vl vo, e = .returned (.tuple #[vl, vo, .int .i64 (Dn.errOf o)]) ∧ LivesSeen w' vl (o.getD Dn.nothing).1 ∧ TransSeen w' vo day (o.getD Dn.nothing).2 := by
  obtain ⟨hb, h⟩ := h
  refine ⟨hb, ?_⟩
  cases o with
  | none => exact ⟨.slice none 0 0, .slice none 0 0, h, ⟨none, 0, rfl, Nat.zero_le _, fun i x hx => by simp [Dn.nothing] at hx⟩, ⟨none, 0, rfl, Nat.zero_le _, fun i x hx => by simp [Dn.nothing] at hx⟩⟩
  | some r =>
    obtain ⟨vl, vo, e, h1, h2⟩ := h
    obtain ⟨k1, k2⟩ := hs r rfl
    exact ⟨vl, vo, e, h1.seen k1, TranRow.seen h2 k2⟩
end Go.Proofs.YtcpobnknmegkmaaDoor

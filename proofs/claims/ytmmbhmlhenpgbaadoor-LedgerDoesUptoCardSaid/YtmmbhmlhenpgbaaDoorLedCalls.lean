/- Proved: a ledger's state, call by call: what stands, its map of balances; calls as they lie in memory; a balance is its account's sum. -/
import Derived.Test.YtmmbhmlhenpgbaaDoorLedHeld2
namespace Go.Proofs.YtmmbhmlhenpgbaaDoor
open Go.RowKit
open Led
set_option linter.unusedVariables false
set_option linter.unusedSimpArgs false
set_option maxRecDepth 100000

/-- Calls that came in: lists of postings. -/
def CallsAt (w : World) (v : Value) (calls : List (List Post)) : Prop :=
  ((∃ p0, v = .slice p0 0 0) ∧ calls = []) ∨ ∃ b off cap, v = .slice (some ⟨b, off, none⟩) calls.length cap ∧ calls.length ≤ cap ∧ cap ≤ maxLen ∧ b < w.heap.size ∧
    ∀ (i : Nat) (ps : List Post), calls[i]? = some ps → ∃ pv, w.cell? ⟨b, off + i, none⟩ = some pv ∧ PostsAt w pv ps ∧ ps.length ≤ 1000000000
theorem CallsAt.row {w : World} {v : Value} {l : List (List Post)} (h : CallsAt w v l) : ∃ p cap, v = .slice p l.length cap ∧ l.length ≤ 9223372036854775807 ∧ ∀ i ps, l[i]? = some ps → ∃ b off pv, p = some ⟨b, off, none⟩ ∧ b < w.heap.size ∧
    w.cell? ⟨b, off + i, none⟩ = some pv ∧ PostsAt w pv ps ∧ ps.length ≤ 1000000000 := by
  rcases h with ⟨⟨p0, rfl⟩, rfl⟩ | ⟨b, off, cap, rfl, h1, h2, h3, h4⟩
  · exact ⟨p0, 0, rfl, by simp, fun i x h => by simp at h⟩
  · refine ⟨_, cap, rfl, by unfold maxLen at h2; omega, fun i ps h => ?_⟩
    obtain ⟨pv, x1, x2, x3⟩ := h4 i ps h
    exact ⟨b, off, pv, rfl, h3, x1, x2, x3⟩

/-- All but a ledger's own blocks, which lie from base to hi, is as it was. -/
structure Out (base hi : Nat) (w w' : World) : Prop where
  os : w'.os = w.os
  tape : w'.tape = w.tape
  output : w'.output = w.output
  size : w.heap.size ≤ w'.heap.size
  block : ∀ k, k < w.heap.size → (k < base ∨ hi ≤ k) → w'.heap[k]? = w.heap[k]?
theorem Out.below {base hi : Nat} {w w' : World} (h : Out base hi w w') (hb : base ≤ w.heap.size) : Below base w w' :=
  ⟨h.os, h.tape, h.output, h.size, fun k hk => h.block k (by omega) (.inl hk)⟩
theorem Out.of_only {base hi lb : Nat} {pv : Value} {w w' : World} (h : Only lb pv w w') (h1 : base ≤ lb) (h2 : lb < hi) (h3 : ∀ k, pv.ownBlock = some k → base ≤ k ∧ k < hi) : Out base hi w w' :=
  ⟨h.os, h.tape, h.output, h.size, fun k hk h4 => h.block k hk (by omega) (fun e => by have := h3 k e.symm; omega)⟩
theorem Out.of_below {base hi : Nat} {w w' : World} (h : Below w.heap.size w w') : Out base hi w w' :=
  ⟨h.os, h.tape, h.output, h.size, fun k hk _ => h.block k hk⟩

/-- A ledger in memory: what stands, its balances; its blocks lie from base to hi. -/
def LedIs (base hi lb : Nat) (S : List Post) (M : DataW Unit) (W : World) : Prop :=
  ∃ pv mb n q, LedgerAt base lb pv mb n q M W ∧ q.map Prod.fst = S ∧ n ≤ 256 ∧ S.length ≤ 4096 ∧ lb < hi ∧ (∀ k, pv.ownBlock = some k → base ≤ k ∧ k < hi) ∧ base ≤ W.heap.size
theorem LedIs.below {base hi lb : Nat} {S : List Post} {M : DataW Unit} {W W' : World} (h : LedIs base hi lb S M W) (B : Below W.heap.size W W') : LedIs base hi lb S M W' := by
  obtain ⟨pv, mb, n, q, h1, h2, h3, h4, h5, h6, h7⟩ := h
  exact ⟨pv, mb, n, q, h1.below B, h2, h3, h4, h5, h6, Nat.le_trans h7 B.size⟩
theorem LedIs.raise {base hi hi' lb : Nat} {S : List Post} {M : DataW Unit} {W : World} (h : LedIs base hi lb S M W) (hh : hi ≤ hi') : LedIs base hi' lb S M W := by
  obtain ⟨pv, mb, n, q, h1, h2, h3, h4, h5, h6, h7⟩ := h
  exact ⟨pv, mb, n, q, h1, h2, h3, h4, by omega, fun k hk => by have := h6 k hk; omega, h7⟩
theorem LedIs.base {base hi lb : Nat} {S : List Post} {M : DataW Unit} {W : World} (h : LedIs base hi lb S M W) : base ≤ W.heap.size := by
  obtain ⟨pv, mb, n, q, h1, h2, h3, h4, h5, h6, h7⟩ := h; exact h7
/-- What a call of Post turns a state into. -/
noncomputable def nextS (S : List Post) (M : DataW Unit) (ps : List Post) : List Post × DataW Unit := if postCode S.length M ps = 0 then (S ++ ps, addAll M ps) else (S, M)
def PostLed (base hi lb : Nat) (S : List Post) (M : DataW Unit) (ps : List Post) (w : World) (e : Ending) (w' : World) : Prop :=
  e = .returned (.int .i64 (postCode S.length M ps)) ∧ LedIs base w'.heap.size lb (nextS S M ps).1 (nextS S M ps).2 w' ∧ Out base hi w w'
theorem postCode_room {q : Nat} {M : DataW Unit} {ps : List Post} (h : postCode q M ps = 0) : ps.all right = true ∧ q + ps.length ≤ 4096 ∧ Maps.size (addAll M ps) ≤ 256 := by
  unfold postCode at h
  split at h
  · cases h
  · rename_i h1
    split at h
    · cases h
    · rename_i h2
      rw [not_or] at h2
      refine ⟨by simpa using h1, by omega, by omega⟩
theorem post_led (base hi lb : Nat) (S : List Post) (M : DataW Unit) (w : World) (h : LedIs base hi lb S M w) (hh : hi ≤ w.heap.size) (v : Value) (ps : List Post) (hp0 : ∀ W', Out base hi w W' → PostsAt W' v ps) (hps : ps.length ≤ 1000000000) :
    Calls Tryd.prog 17 #[.pointer (some ⟨lb, 0, none⟩), v] w (PostLed base hi lb S M ps w) := by
  obtain ⟨pv, mb, n, q, h1, h2, h3, h4, h5, h6, h7⟩ := h
  have hql : q.length = S.length := by rw [← h2, List.length_map]
  refine (post_any base lb pv mb n q M w h1 (by omega) (by omega) v ps (fun W' ho => hp0 W' (Out.of_only ho h1.lo h5 h6)) hps).mono ?_
  rintro e w' ⟨g1, g2⟩
  rw [hql] at g1 g2
  by_cases hc : postCode S.length M ps = 0
  · obtain ⟨rfl, mb', pv', q', hs⟩ := g2 hc
    have hlt := lt_of_block hs.led.hb
    refine ⟨by rw [hc], ?_, Out.of_only hs.only h1.lo h5 h6⟩
    unfold nextS
    rw [if_pos hc]
    refine ⟨pv', mb', 256, q', hs.led, by rw [hs.fst, h2, List.take_length], Nat.le_refl _, ?_, hlt, fun k hk => ?_, Nat.le_trans h7 hs.only.size⟩
    · have := (postCode_room hc).2.1
      rw [List.length_append]; omega
    · have := World.ownsRow.lt hs.led.own k hk
      exact ⟨this.1, this.2⟩
  · obtain ⟨rfl, hb⟩ := g1 hc
    refine ⟨rfl, ?_, Out.of_below hb⟩
    unfold nextS
    rw [if_neg hc]
    have hx : LedIs base hi lb S M w' := LedIs.below ⟨pv, mb, n, q, h1, h2, h3, h4, h5, h6, h7⟩ hb
    exact hx.raise (Nat.le_trans hh hb.size)
theorem postCode_cases (q : Nat) (M : DataW Unit) (ps : List Post) : postCode q M ps = 0 ∨ postCode q M ps = 200 ∨ postCode q M ps = 201 := by
  unfold postCode
  split
  · exact .inr (.inl rfl)
  · split
    · exact .inr (.inr rfl)
    · exact .inl rfl
theorem nextS_no {S : List Post} {M : DataW Unit} {ps : List Post} (h : postCode S.length M ps ≠ 0) : nextS S M ps = (S, M) := if_neg h
theorem nextS_yes {S : List Post} {M : DataW Unit} {ps : List Post} (h : postCode S.length M ps = 0) : nextS S M ps = (S ++ ps, addAll M ps) := if_pos h
/-- Legs whose texts may be long. -/
def Wide (x : Leg) : Prop := x.party.size ≤ maxLen ∧ x.cur.size ≤ maxLen ∧ -9223372036854775808 ≤ x.amount ∧ x.amount ≤ 9223372036854775807
theorem LegRow.wide {base : Nat} {W : World} {v : Value} {L : List Leg} (hb : LegRow base W v L) (hfit : ∀ x ∈ L, Wide x) : LegsAt W v L := by
  obtain ⟨_, ⟨rfl, hz⟩ | ⟨g', cap', cur, rfl, a3, a4, a5, a6, a7, a8⟩⟩ := hb
  · exact Or.inl ⟨⟨_, rfl⟩, List.length_eq_zero_iff.1 hz⟩
  · refine Or.inr ⟨g', 0, cap', rfl, a5, a6, lt_of_block a4, fun i x hx => ?_⟩
    obtain ⟨c0, c1, c2⟩ := legCells_at _ i x hx
    have hlt := (List.getElem?_eq_some_iff.1 hx).1
    rw [← a8, List.getElem?_take_of_lt (by omega), Array.getElem?_toList] at c0 c1 c2
    have f := hfit x (List.mem_of_getElem? hx)
    unfold Wide at f
    rw [maxLen_is] at f
    exact ⟨by simp [World.cell?, a4, c0], by simp [World.cell?, a4, c1], by simp [World.cell?, a4, c2], f⟩
theorem LegRow.out {base hi : Nat} {W W' : World} {b0 : Nat} {v : Value} {L : List Leg} (h : LegRow base W v L) (ho : Out b0 hi W W') (hb : hi ≤ base) : LegRow base W' v L := by
  obtain ⟨h0, h1 | ⟨g, cap, cur, rfl, h3, h4, h5⟩⟩ := h
  · exact ⟨h0, Or.inl h1⟩
  · exact ⟨h0, Or.inr ⟨g, cap, cur, rfl, h3, (ho.block g (lt_of_block h4) (.inr (Nat.le_trans hb h3))).trans h4, h5⟩⟩
theorem LegRow.under {base : Nat} {W W' : World} {v : Value} {L : List Leg} (h : LegRow base W v L) (B : Below W.heap.size W W') : LegRow base W' v L := h.ofBlock (fun g _ hg => B.block g hg)
theorem LegsAt.cells {w w' : World} {v : Value} {l : List Leg} (h : LegsAt w v l) (B : Below w.heap.size w w') {i : Nat} {x : Leg} (hx : l[i]? = some x) : ∃ b off cap, v = .slice (some ⟨b, off, none⟩) l.length cap ∧
    w'.cell? ⟨b, off + i * 3, none⟩ = some (.string x.party) ∧ w'.cell? ⟨b, off + i * 3 + 1, none⟩ = some (.string x.cur) ∧ w'.cell? ⟨b, off + i * 3 + 2, none⟩ = some (.int .i64 x.amount) := by
  rcases h.below B with ⟨⟨p0, rfl⟩, rfl⟩ | ⟨b, off, cap, rfl, h1, h2, h3, h4⟩
  · simp at hx
  · obtain ⟨x1, x2, x3, _⟩ := h4 i x hx
    exact ⟨b, off, cap, rfl, x1, x2, x3⟩
theorem LedIs.made {base lb mb : Nat} {W : World} (h : LedgerAt base lb (.slice none 0 0) mb 0 [] (.map []) W) (hb : base ≤ W.heap.size) : LedIs base W.heap.size lb [] (.map []) W :=
  ⟨_, mb, 0, [], h, rfl, by omega, by simp, lt_of_block h.hb, fun k hk => (by cases hk), hb⟩
theorem held_led (base hi lb : Nat) (S : List Post) (M : DataW Unit) (w : World) (h : LedIs base hi lb S M w) :
    Calls Tryd.prog 18 #[.pointer (some ⟨lb, 0, none⟩)] w (HeldPost M w) := by
  obtain ⟨pv, mb, n, q, h1, h2, h3, h4, h5, h6, h7⟩ := h
  exact held_any base lb pv mb n q M w h1 (by omega)
theorem balance_led (base hi lb : Nat) (S : List Post) (M : DataW Unit) (w : World) (h : LedIs base hi lb S M w) (p c : ByteArray) (hp : p.size ≤ maxLen) (hc : c.size ≤ maxLen) :
    Calls Tryd.prog 20 #[.pointer (some ⟨lb, 0, none⟩), .string p, .string c] w (Ret (.int .i64 (balOf M p c)) w) := by
  obtain ⟨pv, mb, n, q, h1, h2, h3, h4, h5, h6, h7⟩ := h
  exact balance_any base lb pv mb n q M w h1 p c hp hc
theorem LedIs.bal {base hi lb : Nat} {S : List Post} {M : DataW Unit} {w : World} (h : LedIs base hi lb S M w) {p c : ByteArray} (hp : p.size ≤ maxLen) (hc : c.size ≤ maxLen) : -9223372036854775808 ≤ balOf M p c ∧ balOf M p c ≤ 9223372036854775807 := by
  obtain ⟨pv, mb, n, q, h1, h2, h3, h4, h5, h6, h7⟩ := h
  have := (lookup_own h1.map hp hc).2
  have e0 : IntKind.i64.min = -9223372036854775808 := by decide
  have e1 : IntKind.i64.max = 9223372036854775807 := by decide
  simpa [Lit.wf, e0, e1] using this
theorem wide_held {base hi lb : Nat} {S : List Post} {M : DataW Unit} {w : World} (h : LedIs base hi lb S M w) (ks : List Acc) : ∀ x ∈ ks.map (legOf M), Wide x := by
  intro x hx
  obtain ⟨a, _, rfl⟩ := List.mem_map.1 hx
  have := h.bal a.hp a.hc
  exact ⟨a.hp, a.hc, this.1, this.2⟩
theorem LedIs.isMap {base hi lb : Nat} {S : List Post} {M : DataW Unit} {w : World} (h : LedIs base hi lb S M w) : Maps.IsMap M := by
  obtain ⟨pv, mb, n, q, h1, h2, h3, h4, h5, h6, h7⟩ := h
  exact h1.map.isMap

/-- What a list of legs adds to an account. -/
def acctSum (p c : ByteArray) : List Leg → Int
  | [] => 0
  | x :: t => (if x.party = p ∧ x.cur = c then x.amount else 0) + acctSum p c t
theorem acctSum_append (p c : ByteArray) (l m : List Leg) : acctSum p c (l ++ m) = acctSum p c l + acctSum p c m := by
  induction l with
  | nil => simp [acctSum]
  | cons x t ih => simp only [List.cons_append, acctSum, ih]; omega
theorem wrap64_wrap (a b : Int) : wrap64 (wrap64 a + b) = wrap64 (a + b) := by unfold wrap64; omega
theorem wrap64_id {a : Int} (h1 : -9223372036854775808 ≤ a) (h2 : a ≤ 9223372036854775807) : wrap64 a = a := by unfold wrap64; omega
theorem bal_legs {p c : ByteArray} (hp : p.size ≤ maxLen) (hc : c.size ≤ maxLen) : ∀ (L : List Leg) (D : DataW Unit), Maps.IsMap D → (∀ x ∈ L, Fits x) → (-9223372036854775808 ≤ balOf D p c ∧ balOf D p c ≤ 9223372036854775807) →
    Maps.IsMap (L.foldl addLeg D) ∧ balOf (L.foldl addLeg D) p c = wrap64 (balOf D p c + acctSum p c L)
  | [], D, hD, _, hb => ⟨hD, by simp only [List.foldl_nil, acctSum, Int.add_zero]; exact (wrap64_id hb.1 hb.2).symm⟩
  | x :: t, D, hD, hL, hb => by
    have hx := hL x (List.mem_cons_self ..)
    have h24 : (24 : Nat) ≤ maxLen := by decide
    have e := balOf_add (x := x) (p := p) (c := c) hD (Nat.le_trans hx.party h24) (Nat.le_trans hx.cur h24) hp hc
    have hr : -9223372036854775808 ≤ balOf (addLeg D x) p c ∧ balOf (addLeg D x) p c ≤ 9223372036854775807 := by
      rw [e]; split
      · unfold wrap64; omega
      · exact hb
    obtain ⟨i1, i2⟩ := bal_legs hp hc t (addLeg D x) (isMap_add hD x) (fun y hy => hL y (List.mem_cons_of_mem _ hy)) hr
    refine ⟨i1, ?_⟩
    rw [List.foldl_cons, i2, e]
    simp only [acctSum]
    split
    · rw [wrap64_wrap, Int.add_assoc]
    · rw [Int.zero_add]
/-- All legs of a list of postings. -/
def legsOf (ps : List Post) : List Leg := ps.flatMap (·.legs)
theorem addAll_legs : ∀ (ps : List Post) (D : DataW Unit), addAll D ps = (legsOf ps).foldl addLeg D
  | [], D => rfl
  | x :: t, D => by
    show addAll (addPost D x) t = _
    rw [addAll_legs t]
    show _ = List.foldl addLeg D (x.legs ++ legsOf t)
    rw [List.foldl_append]; rfl
theorem fits_right {p : Post} (h : right p = true) : ∀ x ∈ p.legs, Fits x := fun x hx => legOk_fits (List.all_eq_true.1 (right_parts h).2.1 x hx)
theorem fits_all {ps : List Post} (h : ps.all right = true) : ∀ x ∈ legsOf ps, Fits x := by
  intro x hx
  obtain ⟨p, hp, hx'⟩ := List.mem_flatMap.1 hx
  exact fits_right (List.all_eq_true.1 h p hp) x hx'
/-- A leg the other way round. -/
def negLeg (x : Leg) : Leg := ⟨x.party, x.cur, wrap64 (-x.amount)⟩
def backOf (p : Post) : Post := ⟨p.day, p.id, p.legs.map negLeg⟩
theorem acctSum_neg (p c : ByteArray) : ∀ L : List Leg, (∀ x ∈ L, -9223372036854775807 ≤ x.amount ∧ x.amount ≤ 9223372036854775807) → acctSum p c (L.map negLeg) = - acctSum p c L
  | [], _ => rfl
  | x :: t, h => by
    have hx := h x (List.mem_cons_self ..)
    have e : wrap64 (-x.amount) = -x.amount := by unfold wrap64; omega
    simp only [List.map_cons, acctSum, acctSum_neg p c t (fun y hy => h y (List.mem_cons_of_mem _ hy))]
    simp only [negLeg, e]
    split <;> omega
/-- Posted, and then the other way round: the balances are as they were. -/
theorem bal_undone {D : DataW Unit} {p c : ByteArray} {x : Post} (hD : Maps.IsMap D) (hp : p.size ≤ maxLen) (hc : c.size ≤ maxLen) (hb : -9223372036854775808 ≤ balOf D p c ∧ balOf D p c ≤ 9223372036854775807) (h : [x, backOf x].all right = true) :
    balOf (addAll D [x, backOf x]) p c = balOf D p c := by
  rw [addAll_legs, (bal_legs hp hc _ D hD (fits_all h) hb).2]
  have e : legsOf [x, backOf x] = x.legs ++ (x.legs.map negLeg ++ []) := rfl
  have hx : right x = true := by simp at h; exact h.1
  rw [e, List.append_nil, acctSum_append, acctSum_neg p c x.legs (fun y hy => by have := legOk_amount (List.all_eq_true.1 (right_parts hx).2.1 y hy); omega)]
  rw [show acctSum p c x.legs + -acctSum p c x.legs = 0 by omega, Int.add_zero]
  exact wrap64_id hb.1 hb.2
end Go.Proofs.YtmmbhmlhenpgbaaDoor

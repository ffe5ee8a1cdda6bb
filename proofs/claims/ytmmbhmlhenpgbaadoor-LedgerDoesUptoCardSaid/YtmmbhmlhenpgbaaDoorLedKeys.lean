/- Proved: maps.Keys at the ledger's accounts: its iterator hands out every account, each once. -/
import Derived.Test.YtmmbhmlhenpgbaaDoorLedNil
import Derived.Shelf.SlIter.Stops
import Derived.Lib.SmallJoins
namespace Go.Proofs.YtmmbhmlhenpgbaaDoor
open Go.RowKit Go.Shelf Go.Maps
open Led
set_option linter.unusedVariables false
set_option linter.unusedSimpArgs false
set_option maxRecDepth 100000
attribute [local go_sem] Oper.semAt_some

/-- An account: two texts that a key may hold. -/
structure Acc where
  p : ByteArray
  c : ByteArray
  hp : p.size ≤ maxLen
  hc : c.size ≤ maxLen
noncomputable def Acc.k (x : Acc) : Lit := accK x.p x.c
def Acc.v (x : Acc) : Value := .agg #[.string x.p, .string x.c]
theorem Acc.k_inj {x y : Acc} (h : x.k = y.k) : x = y := by
  obtain ⟨p, c, hp, hc⟩ := x
  obtain ⟨p', c', hp', hc'⟩ := y
  obtain ⟨h1, h2⟩ := accK_inj hp hc hp' hc' h
  subst h1
  subst h2
  rfl
theorem Acc.v_inj {x y : Acc} (h : x.v = y.v) : x = y := by
  unfold Acc.v at h
  obtain ⟨p, c, hp, hc⟩ := x
  obtain ⟨p', c', hp', hc'⟩ := y
  simp at h
  obtain ⟨h1, h2⟩ := h
  subst h1
  subst h2
  rfl
theorem Acc.key (x : Acc) : keyOf Tryd.prog 75 x.v = some x.k := key_acc x.p x.c x.hp x.hc
theorem keyLits_str_inv (d : Nat) (cs : List Value) (ls : List Lit) (h : Tryd.prog.keyLits d 9 cs = some ls) : ∃ s : ByteArray, cs = [.string s] ∧ s.size ≤ maxLen := by
  cases d with
  | zero => simp [Program.keyLits] at h
  | succ d =>
    unfold Program.keyLits at h
    rw [Tryd.underlying9] at h
    split at h <;> simp_all
theorem key_acc_inv {key : Value} {kl : Lit} (h : keyOf Tryd.prog 75 key = some kl) : ∃ x : Acc, key = x.v ∧ kl = x.k := by
  have h0 := h
  simp only [keyOf, Tryd.underlying75] at h
  split at h
  · rename_i hf
    obtain ⟨_, hfm⟩ := Bool.and_eq_true_iff.1 hf
    cases key with
    | agg cs =>
      simp only [Value.formed, Tryd.underlying75, cellsAcc] at hfm
      have hsz : cs.size = 2 := by simpa using hfm
      obtain ⟨c0, c1, rfl⟩ := Go.Joins.array2 hsz
      obtain ⟨ls, hls, _⟩ := Option.map_eq_some_iff.1 h
      rw [show (Value.agg #[c0, c1]).cells.toList = [c0, c1] from rfl] at hls
      unfold Program.keyLits at hls
      rw [Tryd.underlying75] at hls
      simp only [cellsAcc, cellsStr] at hls
      split at hls
      · rename_i hw
        obtain ⟨lls, hll, _⟩ := Option.map_eq_some_iff.1 hls
        simp only [List.mapM_cons, List.mapM_nil, List.drop_zero, List.take_succ_cons, List.take_zero, List.drop_succ_cons] at hll
        simp only [cellsStr, List.take_succ_cons, List.take_zero] at hll
        obtain ⟨l0, h1, hll⟩ := Option.bind_eq_some_iff.1 hll
        obtain ⟨l1, hll, _⟩ := Option.bind_eq_some_iff.1 hll
        obtain ⟨l2, h2, _⟩ := Option.bind_eq_some_iff.1 hll
        obtain ⟨s0, e0, w0⟩ := keyLits_str_inv _ _ _ h1
        obtain ⟨s1, e1, w1⟩ := keyLits_str_inv _ _ _ h2
        obtain rfl : c0 = .string s0 := by simpa using e0
        obtain rfl : c1 = .string s1 := by simpa using e1
        exact ⟨⟨s0, s1, w0, w1⟩, rfl, Option.some.inj (h0.symm.trans (Acc.key ⟨s0, s1, w0, w1⟩))⟩
      · cases hls
    | _ => simp [Value.formed, Tryd.underlying75] at hfm
  · cases h

/-- WHAT HAS COME OF THE KEYS. -/
def CollectedA (D0 : DataW Unit) (left : Lit → Bool) (ss : List Acc) : Prop := ss.Nodup ∧ ∀ x : Acc, x ∈ ss ↔ (has D0 x.k = true ∧ left x.k = false)
theorem CollectedA.start (D0 : DataW Unit) : CollectedA D0 (has D0) [] := ⟨List.nodup_nil, fun x => by cases has D0 x.k <;> simp⟩
theorem CollectedA.step {D0 : DataW Unit} {left : Lit → Bool} {ss : List Acc} (h : CollectedA D0 left ss) {x : Acc} {y : DataW Unit} (hlk : left x.k = true) (hat : ∀ zd, D0.atKey x.k zd = y) : CollectedA D0 (fun z => left z && !z.sameKey x.k) (ss ++ [x]) := by
  have hhas : has D0 x.k = true := has_true_of_atKey hat
  have hnew : x ∉ ss := fun hx => by have := ((h.2 x).1 hx).2; rw [hlk] at this; cases this
  refine ⟨List.nodup_append.2 ⟨h.1, by simp, fun a ha b hb => by simp at hb; subst hb; exact fun e => hnew (e ▸ ha)⟩, fun y => ?_⟩
  by_cases hy : y = x
  · subst hy
    have hs : y.k.sameKey y.k = true := WideAt.sameKey_self (accK_is _ _ y.hp y.hc)
    simp [hhas, hs]
  · have hs : y.k.sameKey x.k = false := Maps.sameKey_ne (fun e => hy (Acc.k_inj e))
    simp [h.2 y, hy, hs]

set_option maxHeartbeats 1000000 in
/-- **maps.Keys(m)'s iterator at accounts**: every key, each once, in some order; or a part, where a round has said 'no more'. -/
theorem keys1_in (F : Fence) (n : Nat) (h10 : F.fn 66) (hro : F.round = none) (hn : 1 ≤ n) (l Bm b nn : Nat) (D0 : DataW Unit) (J Jx : List Acc → World → Prop)
    (hY : ∀ pre x W, J pre W → pre.length < Maps.size D0 → YieldAt F (n - 1) Tryd.prog l #[x.v] W fun e W' =>
      (e = .returned (.bool true) ∧ J (pre ++ [x]) W' ∧ KeepsWalks W W') ∨ (e = .returned (.bool false) ∧ Jx (pre ++ [x]) W'))
    (W : World) (hJ : AbidesFrom W.heap.size J) (hm : W.cell? ⟨Bm, 0, none⟩ = some (.map (some b))) (hown : accM W b nn D0) (h0 : J [] W) :
    CallsIn F n Tryd.prog 66 #[.func (.yield l) #[] #[], .pointer (some ⟨Bm, 0, none⟩)] W fun e W' => (∃ v, e = .returned v) ∧
      ((∃ ss : List Acc, (CollectedA D0 (fun _ => false) ss ∧ ss.length ≤ Maps.size D0) ∧ J ss W') ∨ (∃ pre : List Acc, (pre.Nodup ∧ ∀ x ∈ pre, has D0 x.k = true) ∧ Jx pre W')) := by
  refine callsIn_of_wp Tryd.func66 rfl h10 ?_ hro
  simp only [Tryd.ntmps66, List.size_toArray, List.length_cons, List.length_nil, Nat.reduceAdd, Nat.reduceSub, Array.replicate_succ, Array.replicate_zero, List.push_toArray, List.append_toArray, List.nil_append, List.cons_append]
  gi_wp2_with (first
    | (gi_at_range; refine wpListIn_range_own _ rfl _ 69 rfl 75 2 keysAcc Tryd.underlying69 _ b nn _ rfl hown ?_; intro w0 hrg0 hg0 hs0)
    | gi_in)
  go_frame
  gi_loopw [3] (fun _ wr => ∃ (left : Lit → Bool) (cnt : Nat) (ss : List Acc), wr.ranges Tryd.prog 75 (plainElem Tryd.prog 2) b W.heap.size nn D0 left cnt ∧ ss.length + cnt ≤ Maps.size D0 ∧ CollectedA D0 left ss ∧ J ss wr)
    (fun _ wr => wr.rangeLeft b W.heap.size)
  case atStart =>
    exact ⟨_, _, [], hrg0, by simp, CollectedA.start D0, hJ [] W w0 none h0 hg0 (fun r e => by cases e)⟩
  case round =>
    obtain ⟨left, cnt, ss, hrg, hcs, hC, hJs⟩ := hrel
    gi_wp2_with (first
      | (gi_at_next; refine wpListIn_next_ranges _ rfl _ rfl 75 keysAcc (plainElem Tryd.prog 2) Acc.v id (fun key kl hk => by obtain ⟨x, hx, _⟩ := key_acc_inv hk; exact ⟨x, hx⟩) (fun v _ _ => ⟨v, rfl⟩) b W.heap.size nn _ _ _ rfl hrg ?_ ?_)
      | gi_in)
    · -- NOTHING IS LEFT
      intro hc0 hl0
      gi_wp2
      go_end0
      exact ⟨⟨_, rfl⟩, .inl ⟨ss, ⟨⟨hC.1, fun x => by rw [hC.2 x, hl0]⟩, by omega⟩, hJs⟩⟩
    · -- AN ENTRY HAS COME
      intro x c kl yd yp w2 cnt2 hkey hlk hv hat hrg2 hlt hg2 hs2 hen
      obtain ⟨x', ex, rfl⟩ := key_acc_inv hkey
      obtain rfl : x = x' := Acc.v_inj ex
      have hJ2 : J ss w2 := hJ ss wr w2 (some W.heap.size) hJs hg2 (fun r e => by cases e; exact ⟨Nat.le_refl _, hrg.iter_walk⟩)
      have hJ3 : J ss (w2.alloc (.cells #[.string x.p, .string x.c] 75)) := hJ ss w2 _ none hJ2 (World.grownBy_alloc w2 _ none) (fun r e => by cases e)
      obtain ⟨fn, tmps, assign, body, hy, hR⟩ := hY ss x _ hJ3 (by omega)
      clear hs2
      have hxv : x.v = .agg #[.string x.p, .string x.c] := rfl
      rw [hxv] at hen hy
      simp only [hxv]
      gi_wp2
      refine hR.mono ?_
      have hC2 := hC.step hlk hat
      rintro e W3 (⟨rfl, hJ4, hk3⟩ | ⟨rfl, hJx3⟩)
      · gi_wp2
        have hrg3 := (hrg2.of_walks ((KeepsOthers.alloc w2 _).walks)).of_walks hk3
        go_roundw
        case rel => exact ⟨_, cnt2, ss ++ [x], hrg3, by simp; omega, hC2, hJ4⟩
        case measure => rw [hrg3.left_eq, hrg.left_eq]; exact hlt
      · gi_wp2
        refine bodyPost_ret (results_none rfl _ _ _) rfl ?_
        exact ⟨⟨_, rfl⟩, .inr ⟨ss ++ [x], ⟨hC2.1, fun y hy => ((hC2.2 y).1 hy).1⟩, hJx3⟩⟩

theorem keysIt_in (F : Fence) (n : Nat) (h5 : F.fn 58) (hro : F.round = none) (m0 : Option Nat) (w : World) :
    CallsIn F n Tryd.prog 58 #[.map m0] w fun e w' => e = .returned (.func (.func 66) #[] #[.pointer (some ⟨w.heap.size, 0, none⟩)]) ∧ w' = w.alloc (.cells #[.map m0] 69) := by
  refine callsIn_of_wp Tryd.func58 rfl h5 ?_ hro
  simp only [Tryd.ntmps58, List.size_toArray, List.length_cons, List.length_nil, Nat.reduceAdd, Nat.reduceSub, Array.replicate_succ, Array.replicate_zero, List.push_toArray, List.append_toArray, List.nil_append, List.cons_append]
  gi_wp2
  go_ret
  exact ⟨rfl, rfl⟩
/-- **maps.Keys(m) hands back a value that 'SeqStops'.** -/
theorem keys_stops (F : Fence) (n : Nat) (h10 : F.fn 66) (hro : F.round = none) (hn : 1 ≤ n) (Bm b nn : Nat) (D0 : DataW Unit) (w : World) (hBm : Bm < w.heap.size)
    (hm : w.cell? ⟨Bm, 0, none⟩ = some (.map (some b))) (hown : accM w b nn D0) :
    SeqStops F n Tryd.prog 66 #[.pointer (some ⟨Bm, 0, none⟩)] Acc.v (fun ss => CollectedA D0 (fun _ => false) ss ∧ ss.length ≤ Maps.size D0) (fun pre => pre.Nodup ∧ ∀ x ∈ pre, has D0 x.k = true) (Maps.size D0) w := fun l J Jx W hW hJ _ hY h0 =>
  keys1_in F n h10 hro hn l Bm b nn D0 J Jx hY W hJ ((hW.cell (p := ⟨Bm, 0, none⟩) hBm).trans hm) (owns_below hown hW) h0
end Go.Proofs.YtmmbhmlhenpgbaaDoor

/- Proved: lemmas and contracts of the functions that the law reaches, part 23 of 31: DnPlain, DnChain, DnObs, GfFit, GfConP, GfWaitP, GfWl, GfJobs, GfJobs2, GfUnk, GfTot, GfGrow, GfExt, GfRunP. Conditions: as each states. -/
import Derived.Test.YtanlmbbalamgkaaGreatDoorGfm11
import Derived.Test.YtanlmbbalamgkaaGreatDoorGfm20
namespace Go.Proofs.YtanlmbbalamgkaaGreatDoor
set_option linter.unusedVariables false
set_option linter.unusedSimpArgs false
section
open Go.RowKit
namespace Dn
open Co
theorem map_none {ks : List T} (h : ([] : List UInt8) = ks.map T.letter) : ks = [] := by cases ks with | nil => rfl | cons a r => cases h
theorem map_one {ks : List T} {a : UInt8} (h : [a] = ks.map T.letter) : ∃ k, ks = [k] ∧ k.letter = a := by
 match ks, h with
 | [k], h => exact ⟨k, rfl, by simpa using h.symm⟩
theorem map_two {ks : List T} {a b : UInt8} (h : [a, b] = ks.map T.letter) : ∃ k j, ks = [k, j] ∧ k.letter = a ∧ j.letter = b := by
 match ks, h with
 | [k, j], h => exact ⟨k, j, rfl, by simpa using h.symm⟩
theorem map_three {ks : List T} {a b c : UInt8} (h : [a, b, c] = ks.map T.letter) : ∃ k j i, ks = [k, j, i] ∧ k.letter = a ∧ j.letter = b ∧ i.letter = c := by
 match ks, h with
 | [k, j, i], h => exact ⟨k, j, i, rfl, by simpa using h.symm⟩
theorem zzw {op n : Int} {s : ByteArray} {ks : List T} (h : (T.mk op n s ks).letter = 99) :
   ((op = 23 ∧ ks = []) ∨ (op = 24 ∧ ks = [])) ∨ ((op = 25 ∨ op = 29) ∧ ∃ k, ks = [k] ∧ k.letter = 99) ∨ (op = 26 ∧ ∃ o k, ks = [o, k] ∧ o.letter = 110 ∧ k.letter = 99) ∨
   ((op = 27 ∨ op = 31) ∧ ∃ k j, ks = [k, j] ∧ k.letter = 99 ∧ j.letter = 99) ∨ (op = 28 ∧ ∃ o k j, ks = [o, k, j] ∧ o.letter = 98 ∧ k.letter = 99 ∧ j.letter = 99) ∨ (op = 30 ∧ ∃ o k, ks = [o, k] ∧ o.letter = 98 ∧ k.letter = 99) := by
 have h22 : op ≠ 22 := by
   rintro rfl
   obtain ⟨_, _, _, _, _, _, _, h4, _⟩ := (letter_22 (x := 99) (by decide)).1 h
   exact h4 rfl
 obtain ⟨hw, -⟩ := letter_inv h (by decide) h22
 rcases op_cases (want_in hw) with rfl | rfl | rfl | rfl | rfl | rfl | rfl | rfl | rfl | rfl | rfl | rfl | rfl | rfl | rfl | rfl | rfl | rfl | rfl | rfl | rfl | rfl | rfl | rfl | rfl | rfl | rfl | rfl | rfl | rfl | rfl
 all_goals first | exact absurd rfl h22 | skip
 all_goals simp only [want_1, want_2, want_3, want_4, want_5, want_6, want_7, want_8, want_9, want_10, want_11, want_12, want_13, want_14, want_15, want_16, want_17, want_18, want_19, want_20, want_21, want_22, want_23, want_24, want_25, want_26, want_27, want_28, want_29, want_30, want_31, Option.some.injEq, Prod.mk.injEq] at hw
 all_goals try exact absurd hw.2 (by decide)
 · exact .inl (.inl ⟨rfl, map_none hw.1⟩)
 · exact .inl (.inr ⟨rfl, map_none hw.1⟩)
 · exact .inr (.inl ⟨.inl rfl, map_one hw.1⟩)
 · exact .inr (.inr (.inl ⟨rfl, map_two hw.1⟩))
 · exact .inr (.inr (.inr (.inl ⟨.inl rfl, map_two hw.1⟩)))
 · exact .inr (.inr (.inr (.inr (.inl ⟨rfl, map_three hw.1⟩))))
 · exact .inr (.inl ⟨.inr rfl, map_one hw.1⟩)
 · exact .inr (.inr (.inr (.inr (.inr ⟨rfl, map_two hw.1⟩))))
 · exact .inr (.inr (.inr (.inl ⟨.inr rfl, map_two hw.1⟩)))
section
variable {P : T → Int → Int → Prop} {t0 : T} {a0 : Int}
end
end Dn
end
section
open Go.RowKit
namespace Dn
open Co
def Obs (t : T) : Prop := t.letter ≠ 0 ∧ t.letter ≠ 99
theorem obs_n {t : T} (h : t.letter = 110) : Obs t := by unfold Obs; rw [h]; decide
theorem obs_b {t : T} (h : t.letter = 98) : Obs t := by unfold Obs; rw [h]; decide
theorem obs_d {t : T} (h : t.letter = 100) : Obs t := by unfold Obs; rw [h]; decide
def twoOp (op : Int) : Prop := 7 ≤ op ∧ op ≤ 21 ∧ op ≠ 14 ∧ op ≠ 15 ∧ op ≠ 16
theorem observable_of {op n : Int} {s : ByteArray} {ks : List T} (h : Obs (.mk op n s ks)) :
   (op = 1 ∨ op = 2 ∨ op = 3) ∨ (op = 4 ∧ -3660 ≤ n ∧ n ≤ 3660) ∨ (op = 5 ∧ -3660 ≤ n ∧ n ≤ 3660) ∨ ((op = 6 ∨ op = 14) ∧ ∃ k, ks = [k] ∧ Obs k ∧ (op = 14 → k.letter = 98)) ∨
   ((op = 15 ∨ op = 16) ∧ ∃ k j, ks = [k, j] ∧ k.letter = 98 ∧ Obs j) ∨ (op = 22 ∧ ∃ k j i, ks = [k, j, i] ∧ k.letter = 98 ∧ Obs j ∧ Obs i) ∨ (twoOp op ∧ ∃ k j, ks = [k, j] ∧ Obs k ∧ Obs j) := by
 obtain ⟨h0, h99⟩ := h
 by_cases h22 : op = 22
 · subst h22
   obtain ⟨a, b, c, rfl, h1, h2, h3, h4, -⟩ := (letter_22 h0).1 rfl
   exact .inr (.inr (.inr (.inr (.inr (.inl ⟨rfl, a, b, c, rfl, h1, ⟨by rw [h2]; exact h0, by rw [h2]; exact h99⟩, ⟨by rw [h3]; exact h0, by rw [h3]; exact h99⟩⟩)))))
 · obtain ⟨hw, hf⟩ := letter_inv rfl h0 h22
   generalize hx : (T.mk op n s ks).letter = x at *
   rcases op_cases (want_in hw) with rfl | rfl | rfl | rfl | rfl | rfl | rfl | rfl | rfl | rfl | rfl | rfl | rfl | rfl | rfl | rfl | rfl | rfl | rfl | rfl | rfl | rfl | rfl | rfl | rfl | rfl | rfl | rfl | rfl | rfl | rfl
   rotate_left 21
   · exact absurd rfl h22
   all_goals try (exfalso; apply h99; simp only [want_23, want_24, want_25, want_26, want_27, want_28, want_29, want_30, want_31, Option.some.injEq, Prod.mk.injEq] at hw; exact hw.2.symm)
   all_goals simp only [want_1, want_2, want_3, want_4, want_5, want_6, want_7, want_8, want_9, want_10, want_11, want_12, want_13, want_14, want_15, want_16, want_17, want_18, want_19, want_20, want_21, Option.some.injEq, Prod.mk.injEq] at hw
   · exact .inl (.inl rfl)
   · exact .inl (.inr (.inl rfl))
   · exact .inl (.inr (.inr rfl))
   · refine .inr (.inl ⟨rfl, ?_⟩)
     simp [fields, Gen.within] at hf
     omega
   · refine .inr (.inr (.inl ⟨rfl, ?_⟩))
     simp [fields, Gen.within] at hf
     omega
   · obtain ⟨k, hk, h⟩ := map_one hw.1
     exact .inr (.inr (.inr (.inl ⟨.inl rfl, k, hk, obs_n h, fun e => absurd e (by decide)⟩)))
   · obtain ⟨k, j, hk, h, h'⟩ := map_two hw.1
     exact .inr (.inr (.inr (.inr (.inr (.inr ⟨by unfold twoOp; omega, k, j, hk, by first | exact obs_n h | exact obs_d h, by first | exact obs_n h' | exact obs_d h'⟩)))))
   · obtain ⟨k, j, hk, h, h'⟩ := map_two hw.1
     exact .inr (.inr (.inr (.inr (.inr (.inr ⟨by unfold twoOp; omega, k, j, hk, by first | exact obs_n h | exact obs_d h, by first | exact obs_n h' | exact obs_d h'⟩)))))
   · obtain ⟨k, j, hk, h, h'⟩ := map_two hw.1
     exact .inr (.inr (.inr (.inr (.inr (.inr ⟨by unfold twoOp; omega, k, j, hk, by first | exact obs_n h | exact obs_d h, by first | exact obs_n h' | exact obs_d h'⟩)))))
   · obtain ⟨k, j, hk, h, h'⟩ := map_two hw.1
     exact .inr (.inr (.inr (.inr (.inr (.inr ⟨by unfold twoOp; omega, k, j, hk, by first | exact obs_n h | exact obs_d h, by first | exact obs_n h' | exact obs_d h'⟩)))))
   · obtain ⟨k, j, hk, h, h'⟩ := map_two hw.1
     exact .inr (.inr (.inr (.inr (.inr (.inr ⟨by unfold twoOp; omega, k, j, hk, by first | exact obs_n h | exact obs_d h, by first | exact obs_n h' | exact obs_d h'⟩)))))
   · obtain ⟨k, j, hk, h, h'⟩ := map_two hw.1
     exact .inr (.inr (.inr (.inr (.inr (.inr ⟨by unfold twoOp; omega, k, j, hk, by first | exact obs_n h | exact obs_d h, by first | exact obs_n h' | exact obs_d h'⟩)))))
   · obtain ⟨k, j, hk, h, h'⟩ := map_two hw.1
     exact .inr (.inr (.inr (.inr (.inr (.inr ⟨by unfold twoOp; omega, k, j, hk, by first | exact obs_n h | exact obs_d h, by first | exact obs_n h' | exact obs_d h'⟩)))))
   · obtain ⟨k, hk, h⟩ := map_one hw.1
     exact .inr (.inr (.inr (.inl ⟨.inr rfl, k, hk, obs_b h, fun _ => h⟩)))
   · obtain ⟨k, j, hk, h, h'⟩ := map_two hw.1
     exact .inr (.inr (.inr (.inr (.inl ⟨.inl rfl, k, j, hk, h, obs_b h'⟩))))
   · obtain ⟨k, j, hk, h, h'⟩ := map_two hw.1
     exact .inr (.inr (.inr (.inr (.inl ⟨.inr rfl, k, j, hk, h, obs_b h'⟩))))
   · obtain ⟨k, j, hk, h, h'⟩ := map_two hw.1
     exact .inr (.inr (.inr (.inr (.inr (.inr ⟨by unfold twoOp; omega, k, j, hk, by first | exact obs_n h | exact obs_d h, by first | exact obs_n h' | exact obs_d h'⟩)))))
   · obtain ⟨k, j, hk, h, h'⟩ := map_two hw.1
     exact .inr (.inr (.inr (.inr (.inr (.inr ⟨by unfold twoOp; omega, k, j, hk, by first | exact obs_n h | exact obs_d h, by first | exact obs_n h' | exact obs_d h'⟩)))))
   · obtain ⟨k, j, hk, h, h'⟩ := map_two hw.1
     exact .inr (.inr (.inr (.inr (.inr (.inr ⟨by unfold twoOp; omega, k, j, hk, by first | exact obs_n h | exact obs_d h, by first | exact obs_n h' | exact obs_d h'⟩)))))
   · obtain ⟨k, j, hk, h, h'⟩ := map_two hw.1
     exact .inr (.inr (.inr (.inr (.inr (.inr ⟨by unfold twoOp; omega, k, j, hk, by first | exact obs_n h | exact obs_d h, by first | exact obs_n h' | exact obs_d h'⟩)))))
   · obtain ⟨k, j, hk, h, h'⟩ := map_two hw.1
     exact .inr (.inr (.inr (.inr (.inr (.inr ⟨by unfold twoOp; omega, k, j, hk, by first | exact obs_n h | exact obs_d h, by first | exact obs_n h' | exact obs_d h'⟩)))))
end Dn
end
section
open Go.RowKit
namespace Gf
open Co Gen Dn
def pend : List (Nat × T) → Nat
 | [] => 0
 | x :: r => (8 * x.2.size - 2) + pend r
theorem pend_append (a b : List (Nat × T)) : pend (a ++ b) = pend a + pend b := by
 induction a with
 | nil => simp [pend]
 | cons x r ih => rw [List.cons_append, pend, pend, ih]; omega
structure Fit (k : Nat) (m : Mk) : Prop where
 len : m.ins.length + m.ws.length + pend m.jobs ≤ k
 nx : 0 ≤ m.next ∧ m.next ≤ k
 rg : 0 ≤ m.regs ∧ m.regs ≤ k
 pt : m.puts ≤ k
 kn : ∀ v r, m.known v = some r → 0 ≤ r ∧ r ≤ k
section
variable {k j : Nat} {m : Mk}
theorem Fit.mono (h : Fit k m) (hj : k ≤ j) : Fit j m := ⟨by have := h.len; omega, by have := h.nx; omega, by have := h.rg; omega, by have := h.pt; omega, fun v r e => by have := h.kn v r e; omega⟩
theorem Fit.lay (h : Fit k m) (x : Ix) : Fit (k + 1) (m.lay x) := ⟨by have := h.len; simp [Mk.lay]; omega, (h.mono (Nat.le_succ k)).nx, (h.mono (Nat.le_succ k)).rg, (h.mono (Nat.le_succ k)).pt, (h.mono (Nat.le_succ k)).kn⟩
theorem Fit.reg (h : Fit k m) : Fit (k + 1) m.reg := ⟨(h.mono (Nat.le_succ k)).len, by have := h.nx; simp [Mk.reg]; omega, by have := h.nx; have := h.rg; simp only [Mk.reg]; omega, (h.mono (Nat.le_succ k)).pt, (h.mono (Nat.le_succ k)).kn⟩
theorem Fit.here (h : Fit k m) (p : Nat) : Fit k (m.here p) := ⟨by have := h.len; simp [Mk.here, toHere]; omega, h.nx, h.rg, h.pt, h.kn⟩
theorem Fit.back {m0 : Mk} (h : Fit k m) (h0 : Fit j m0) (hj : j ≤ k) : Fit k (m.back m0.known) := ⟨h.len, h.nx, h.rg, h.pt, (h0.mono hj).kn⟩
theorem Fit.free (h : Fit k m) (sh : Bool) (r : Int) (hr : 0 ≤ r ∧ r ≤ k) : Fit k (m.free sh r) := by
 unfold Mk.free
 split
 · exact h
 · exact ⟨h.len, hr, h.rg, h.pt, h.kn⟩
theorem Fit.fresh (h : Fit k m) : Fit k m.fresh := ⟨h.len, by simp [Mk.fresh], h.rg, h.pt, fun v r e => by cases e⟩
theorem Fit.setW (h : Fit k m) (i : Nat) (f : Wt → Wt) : Fit k (m.setW i f) := ⟨by have := h.len; simp [Mk.setW]; omega, h.nx, h.rg, h.pt, h.kn⟩
theorem Fit.fin (h : Fit k m) : Fit (k + 1) m.fin := h.lay _
theorem Fit.call (h : Fit k m) (t : T) : Fit (k + 8 * t.size) (m.call t) := by
 have hs := size_pos t
 have hk := h.mono (show k ≤ k + 8 * t.size by omega)
 refine ⟨?_, hk.nx, hk.rg, hk.pt, hk.kn⟩
 have := h.len
 simp [Mk.call, pend_append, pend]
 omega
open Classical in
theorem Fit.put (h : Fit k m) (v : Val) {r : Int} (hr : 0 ≤ r ∧ r ≤ k) : Fit (k + 1) (m.put v r) := by
 have hk := h.mono (Nat.le_succ k)
 refine ⟨hk.len, hk.nx, hk.rg, by have := h.pt; simp [Mk.put]; omega, fun x r' e => ?_⟩
 have e' : (if x = v then some r else m.known x) = some r' := e
 split at e'
 · cases e'; omega
 · exact hk.kn x r' e'
structure FitO (k u : Nat) (o : Ob) : Prop where
 m : Fit k o.2.1
 r : 0 ≤ o.1 ∧ o.1 ≤ k
 u : o.2.2.length ≤ u
theorem FitO.mono {k u j w : Nat} {o : Ob} (h : FitO k u o) (hk : k ≤ j) (hu : u ≤ w) : FitO j w o := ⟨h.m.mono hk, by have := h.r; omega, by have := h.u; omega⟩
theorem reckon_fit (sh : Bool) (v : Val) (h : Fit k m) (u : List Nat) : FitO (k + 3) (u.length + 1) (zzz sh v m u) := by
 unfold zzz
 split
 · rename_i r hr
   have : m.known v = some r := by
     split at hr
     · exact hr
     · cases hr
   have hk := h.kn v r this
   exact ⟨h.mono (by omega), by show 0 ≤ r ∧ r ≤ _; omega, by simp⟩
 · have hn := h.nx
   refine ⟨((h.reg.lay _).put v ?_).mono (by omega), by show 0 ≤ m.next ∧ m.next ≤ _; omega, ?_⟩
   · show 0 ≤ m.next ∧ m.next ≤ _; omega
   · show (if v.op = 2 then u ++ [m.ins.length] else u).length ≤ _
     split <;> simp
theorem zqo (sh : Bool) {out : Int} {u : Nat} {o : Ob} (h : FitO k u o) (ho : 0 ≤ out ∧ out ≤ k) : Fit (k + 1) (into sh out o).1 ∧ (into sh out o).2.length ≤ u :=
 ⟨(h.m.lay _).free sh _ (by omega), h.u⟩
end
theorem kid0 {op n : Int} {s : ByteArray} {a : T} {r : List T} : (T.mk op n s (a :: r)).kid 0 = a := rfl
theorem kid1 {op n : Int} {s : ByteArray} {a b : T} {r : List T} : (T.mk op n s (a :: b :: r)).kid 1 = b := rfl
theorem kid2 {op n : Int} {s : ByteArray} {a b c : T} {r : List T} : (T.mk op n s (a :: b :: c :: r)).kid 2 = c := rfl
theorem zzs (sh : Bool) (d : Nat) : ∀ (t : T) (m : Mk) (u : List Nat) (k : Nat), Obs t → Fit k m → FitO (k + 8 * t.size) (u.length + 8 * t.size) (obs sh d t m u) := by
 induction d with
 | zero =>
   intro t m u k _ h
   exact ⟨h.mono (by omega), by show (0 : Int) ≤ 0 ∧ (0 : Int) ≤ _; omega, by show u.length ≤ _; omega⟩
 | succ d ih =>
   intro t m u k ht h
   obtain ⟨op, n, s, ks⟩ := t
   have hz : (T.mk op n s ks).size = 1 + sizes ks := by rw [T.size]
   have hn := h.nx
   rcases observable_of ht with h1 | ⟨rfl, -⟩ | ⟨rfl, -⟩ | ⟨h1, a, rfl, ha, -⟩ | ⟨h1, a, b, rfl, ha, hb⟩ | ⟨rfl, a, b, c, rfl, ha, hb, hc⟩ | ⟨h1, a, b, rfl, ha, hb⟩
   · rw [obs_lit (t := .mk op n s ks) h1]; exact (reckon_fit sh _ h u).mono (by omega) (by omega)
   · rw [obs_feed rfl]; exact (reckon_fit sh _ h u).mono (by omega) (by omega)
   · rw [obs_now rfl]; exact (reckon_fit sh _ h u).mono (by omega) (by omega)
   · have hs : (T.mk op n s [a]).size = 1 + a.size := by rw [hz]; simp [sizes]
     rw [obs_pl (by show 6 ≤ op ∧ op ≤ 21 ∧ op ≠ 15 ∧ op ≠ 16; omega)]
     unfold obsPl
     simp only [kid0, T.ks, List.length_singleton, Nat.lt_irrefl, if_false]
     have fa := ih a m u k ha h
     rw [hs]
     split
     · exact (reckon_fit sh _ fa.m _).mono (by omega) (by have := fa.u; omega)
     · exact ⟨((fa.m.lay _).free sh _ (by omega)).mono (by omega), by have := fa.r; show 0 ≤ (obs sh d a m u).1 ∧ (obs sh d a m u).1 ≤ _; omega, by have := fa.u; show (obs sh d a m u).2.2.length ≤ _; omega⟩
   · have hs : (T.mk op n s [a, b]).size = 1 + (a.size + b.size) := by rw [hz]; simp [sizes]
     have fa := zqo sh (ih a m.reg u (k + 1) (obs_b ha) h.reg) (out := m.next) (by omega)
     rcases h1 with rfl | rfl
     · rw [obs_and rfl]
       unfold chosen choAnd
       simp only [kid0, kid1]
       generalize into sh m.next (obs sh d a m.reg u) = A at *
       have f1 := fa.1.lay (ix 19 0 m.next 0)
       have fb := zqo sh (ih b _ A.2 _ hb f1) (out := m.next) (by omega)
       generalize into sh m.next (obs sh d b (A.1.lay (ix 19 0 m.next 0)) A.2) = C at *
       refine ⟨(((fb.1.back f1 (by omega)).here _).free sh _ (by omega)).mono (by rw [hs]; omega), by show 0 ≤ m.next ∧ m.next ≤ _; omega, ?_⟩
       show C.2.length ≤ _
       have := fb.2
       have := fa.2
       rw [hs]
       omega
     · rw [obs_or rfl]
       unfold chosen choOr
       simp only [kid0, kid1]
       generalize into sh m.next (obs sh d a m.reg u) = A at *
       have f1 := ((fa.1.lay (ix 19 0 m.next 0)).lay (ix 20 0 0 0)).here A.1.ins.length
       have fb := zqo sh (ih b _ A.2 _ hb f1) (out := m.next) (by omega)
       generalize into sh m.next (obs sh d b (((A.1.lay (ix 19 0 m.next 0)).lay (ix 20 0 0 0)).here A.1.ins.length) A.2) = C at *
       refine ⟨(((fb.1.back f1 (by omega)).here _).free sh _ (by omega)).mono (by rw [hs]; omega), by show 0 ≤ m.next ∧ m.next ≤ _; omega, ?_⟩
       show C.2.length ≤ _
       have := fb.2
       have := fa.2
       rw [hs]
       omega
   · have hs : (T.mk 22 n s [a, b, c]).size = 1 + (a.size + (b.size + c.size)) := by rw [hz]; simp [sizes]
     have fa := zqo sh (ih a m.reg u (k + 1) (obs_b ha) h.reg) (out := m.next) (by omega)
     rw [obs_if rfl]
     unfold chosen choIf
     simp only [kid0, kid1, kid2]
     generalize into sh m.next (obs sh d a m.reg u) = A at *
     have f1 := fa.1.lay (ix 19 0 m.next 0)
     have fb := zqo sh (ih b _ A.2 _ hb f1) (out := m.next) (by omega)
     generalize into sh m.next (obs sh d b (A.1.lay (ix 19 0 m.next 0)) A.2) = C at *
     have f2 := ((fb.1.back f1 (by omega)).lay (ix 20 0 0 0)).here A.1.ins.length
     have fc := zqo sh (ih c _ C.2 _ hc f2) (out := m.next) (by omega)
     generalize into sh m.next (obs sh d c (((C.1.back (A.1.lay (ix 19 0 m.next 0)).known).lay (ix 20 0 0 0)).here A.1.ins.length) C.2) = F at *
     refine ⟨(((fc.1.back f2 (by omega)).here _).free sh _ (by omega)).mono (by rw [hs]; omega), by show 0 ≤ m.next ∧ m.next ≤ _; omega, ?_⟩
     show F.2.length ≤ _
     have := fc.2
     have := fb.2
     have := fa.2
     rw [hs]
     omega
   · have hs : (T.mk op n s [a, b]).size = 1 + (a.size + b.size) := by rw [hz]; simp [sizes]
     unfold twoOp at h1
     rw [obs_pl (by show 6 ≤ op ∧ op ≤ 21 ∧ op ≠ 15 ∧ op ≠ 16; omega)]
     unfold obsPl
     simp only [kid0, kid1, T.ks, List.length_cons, List.length_nil, show 1 < 0 + 1 + 1 by decide, if_true]
     have fa := ih a m u k ha h
     have fb := ih b (obs sh d a m u).2.1 (obs sh d a m u).2.2 _ hb fa.m
     have ua := fa.u
     have ub := fb.u
     rw [hs]
     split
     · exact (reckon_fit sh _ fb.m _).mono (by omega) (by omega)
     · exact ⟨((fb.m.lay _).free sh _ (by omega)).mono (by omega), by have := fa.r; show 0 ≤ (obs sh d a m u).1 ∧ (obs sh d a m u).1 ≤ _; omega, by show (obs sh d b (obs sh d a m u).2.1 (obs sh d a m u).2.2).2.2.length ≤ _; omega⟩
end Gf
end
section
open Go.RowKit
namespace Gf
open Co Gen Dn
section
variable {sh : Bool} {d : Nat} {t : T} {m : Mk}
theorem con_call (h : zzq t = true) : con sh (d + 1) t m = m.call t := by rw [con]; exact if_pos h
theorem con_zero (h : zzq t = false) (ho : t.op = 23) : con sh (d + 1) t m = m.free sh m.next := by
 rw [con]
 refine (if_neg (by rw [h]; decide)).trans ?_
 rw [show (if t.op = 24 then m.lay ⟨27, 0, 0, 0, 0, t.s, 0⟩ else _) = m from (if_neg (by omega)).trans ((if_neg (by omega)).trans ((if_neg (by omega)).trans ((if_neg (by omega)).trans (if_neg (by omega)))))]
theorem con_pay (h : zzq t = false) (ho : t.op = 24) : con sh (d + 1) t m = (m.lay ⟨27, 0, 0, 0, 0, t.s, 0⟩).free sh m.next := by
 rw [con]
 refine (if_neg (by rw [h]; decide)).trans ?_
 rw [show (if t.op = 24 then m.lay ⟨27, 0, 0, 0, 0, t.s, 0⟩ else _) = m.lay ⟨27, 0, 0, 0, 0, t.s, 0⟩ from if_pos ho]
theorem con_give (h : zzq t = false) (ho : t.op = 25) : con sh (d + 1) t m = (con sh d (t.kid 0) (m.lay (ix 24 0 0 0))).free sh m.next := by
 rw [con]
 refine (if_neg (by rw [h]; decide)).trans ?_
 rw [show (if t.op = 24 then m.lay ⟨27, 0, 0, 0, 0, t.s, 0⟩ else _) = con sh d (t.kid 0) (m.lay (ix 24 0 0 0)) from (if_neg (by omega)).trans (if_pos ho)]
theorem con_both (h : zzq t = false) (ho : t.op = 27) : con sh (d + 1) t m = (con sh d (t.kid 1) ((con sh d (t.kid 0) (m.reg.lay (ix 25 m.next 0 0))).lay (ix 26 0 m.next 0))).free sh m.next := by
 rw [con]
 refine (if_neg (by rw [h]; decide)).trans ?_
 rw [show (if t.op = 24 then m.lay ⟨27, 0, 0, 0, 0, t.s, 0⟩ else _) = con sh d (t.kid 1) ((con sh d (t.kid 0) (m.reg.lay (ix 25 m.next 0 0))).lay (ix 26 0 m.next 0)) from (if_neg (by omega)).trans ((if_neg (by omega)).trans (if_pos ho))]
theorem con_scale (h : zzq t = false) (ho : t.op = 26) : con sh (d + 1) t m = (con sh d (t.kid 1) ((obs sh d (t.kid 0) m []).2.1.lay (ix 23 0 (obs sh d (t.kid 0) m []).1 0))).free sh m.next := by
 rw [con]
 refine (if_neg (by rw [h]; decide)).trans ?_
 rw [show (if t.op = 24 then m.lay ⟨27, 0, 0, 0, 0, t.s, 0⟩ else _) = con sh d (t.kid 1) ((obs sh d (t.kid 0) m []).2.1.lay (ix 23 0 (obs sh d (t.kid 0) m []).1 0)) from (if_neg (by omega)).trans ((if_neg (by omega)).trans ((if_neg (by omega)).trans (if_pos ho)))]
theorem con_if (h : zzq t = false) (ho : t.op = 28) : con sh (d + 1) t m = (zqf (con sh d) (obs sh d (t.kid 0) m []).1 t (obs sh d (t.kid 0) m []).2.1).free sh m.next := by
 rw [con]
 refine (if_neg (by rw [h]; decide)).trans ?_
 rw [show (if t.op = 24 then m.lay ⟨27, 0, 0, 0, 0, t.s, 0⟩ else _) = zqf (con sh d) (obs sh d (t.kid 0) m []).1 t (obs sh d (t.kid 0) m []).2.1 from (if_neg (by omega)).trans ((if_neg (by omega)).trans ((if_neg (by omega)).trans ((if_neg (by omega)).trans (if_pos ho))))]
end
theorem waits_op {t : T} (h : zzq t = false) : t.op ≠ 29 ∧ t.op ≠ 30 ∧ t.op ≠ 31 ∧ (t.op = 26 ∨ t.op = 28 → zzy (t.kid 0) = false) := by
 unfold zzq at h
 split at h
 · cases h
 · rename_i h1
   simp only [not_or] at h1
   refine ⟨h1.1, h1.2.1, h1.2.2, fun e => ?_⟩
   rw [if_pos e] at h
   exact h
theorem either_fit {con : T → Mk → Mk} {t : T} {k : Nat} {m : Mk} (r : Int) (h : Fit k m) (h1 : ∀ k m, Fit k m → Fit (k + 8 * (t.kid 1).size) (con (t.kid 1) m)) (h2 : ∀ k m, Fit k m → Fit (k + 8 * (t.kid 2).size) (con (t.kid 2) m)) :
   Fit (k + 2 + 8 * (t.kid 1).size + 8 * (t.kid 2).size) (zqf con r t m) := by
 unfold zqf
 have f1 := h.lay (ix 19 0 r 0)
 have f2 := (h1 _ _ f1).back f1 (by omega)
 have f3 := (f2.lay (ix 20 0 0 0)).here m.ins.length
 have f4 := (h2 _ _ f3).back f3 (by omega)
 exact (f4.here _).mono (by omega)
theorem zzx (sh : Bool) (d : Nat) : ∀ (t : T) (m : Mk) (k : Nat), t.letter = 99 → Fit k m → Fit (k + 8 * t.size) (con sh d t m) := by
 induction d with
 | zero => intro t m k _ h; exact h.mono (by omega)
 | succ d ih =>
   intro t m k hx h
   have hn := h.nx
   cases hw : zzq t with
   | true => rw [con_call hw]; exact h.call t
   | false =>
     obtain ⟨op, n, s, ks⟩ := t
     have hz : (T.mk op n s ks).size = 1 + sizes ks := by rw [T.size]
     obtain ⟨w1, w2, w3, w4⟩ := waits_op hw
     rcases zzw hx with (⟨rfl, rfl⟩ | ⟨rfl, rfl⟩) | ⟨h1, a, rfl, ha⟩ | ⟨rfl, o, a, rfl, ho, ha⟩ | ⟨h1, a, b, rfl, ha, hb⟩ | ⟨rfl, o, a, b, rfl, ho, ha, hb⟩ | ⟨rfl, o, a, rfl, ho, ha⟩
     · rw [con_zero hw rfl]; exact (h.free sh _ hn).mono (by omega)
     · rw [con_pay hw rfl]; exact ((h.lay _).free sh _ (by omega)).mono (by omega)
     · rcases h1 with rfl | rfl
       · rw [con_give hw rfl, kid0]
         have hs : (T.mk 25 n s [a]).size = 1 + a.size := by rw [hz]; simp [sizes]
         exact ((ih a _ _ ha (h.lay _)).free sh _ (by omega)).mono (by omega)
       · exact absurd rfl w1
     · rw [con_scale hw rfl, kid0, kid1]
       have hs : (T.mk 26 n s [o, a]).size = 1 + (o.size + a.size) := by rw [hz]; simp [sizes]
       have fo := zzs sh d o m [] k (obs_n ho) h
       exact ((ih a _ _ ha (fo.m.lay _)).free sh _ (by omega)).mono (by omega)
     · rcases h1 with rfl | rfl
       · rw [con_both hw rfl, kid0, kid1]
         have hs : (T.mk 27 n s [a, b]).size = 1 + (a.size + b.size) := by rw [hz]; simp [sizes]
         exact ((ih b _ _ hb ((ih a _ _ ha (h.reg.lay _)).lay _)).free sh _ (by omega)).mono (by omega)
       · exact absurd rfl w3
     · rw [con_if hw rfl, kid0]
       have hs : (T.mk 28 n s [o, a, b]).size = 1 + (o.size + (a.size + b.size)) := by rw [hz]; simp [sizes]
       have fo := zzs sh d o m [] k (obs_b ho) h
       have fe := either_fit (con := con sh d) (t := .mk 28 n s [o, a, b]) (obs sh d o m []).1 fo.m (fun k m h => ih a m k ha h) (fun k m h => ih b m k hb h)
       rw [kid1, kid2] at fe
       exact (fe.free sh _ (by omega)).mono (by omega)
     · exact absurd rfl w2
theorem con_puts (sh : Bool) (d : Nat) : ∀ (t : T) (m : Mk), m.puts ≤ (con sh d t m).puts ∧ m.ins.length ≤ (con sh d t m).ins.length := by
 induction d with
 | zero => intro t m; exact ⟨Nat.le_refl _, Nat.le_refl _⟩
 | succ d ih =>
   intro t m
   have he : ∀ (r : Int) (m : Mk), m.puts ≤ (zqf (con sh d) r t m).puts ∧ m.ins.length ≤ (zqf (con sh d) r t m).ins.length := by
     intro r m
     unfold zqf
     simp only [zzh, zzj]
     have h1 := ih (t.kid 1) (m.lay (ix 19 0 r 0))
     rw [zzf] at h1
     generalize con sh d (t.kid 1) (m.lay (ix 19 0 r 0)) = C at *
     have h2 := ih (t.kid 2) (((C.back (m.lay (ix 19 0 r 0)).known).lay (ix 20 0 0 0)).here m.ins.length)
     rw [zzh, zzf, zzj] at h2
     exact ⟨Nat.le_trans h1.1 h2.1, by omega⟩
   rw [con]
   split
   · exact ⟨Nat.le_refl _, by show m.ins.length ≤ (m.ins ++ [_]).length; simp⟩
   · rw [free_puts, free_len]
     split
     · rw [zzf]; exact ⟨Nat.le_refl _, by omega⟩
     split
     · have h1 := ih (t.kid 0) (m.lay (ix 24 0 0 0))
       rw [zzf] at h1
       exact ⟨h1.1, by omega⟩
     split
     · have h1 := ih (t.kid 0) (m.reg.lay (ix 25 m.next 0 0))
       rw [zzf, reg_len] at h1
       generalize con sh d (t.kid 0) (m.reg.lay (ix 25 m.next 0 0)) = C at *
       have h2 := ih (t.kid 1) (C.lay (ix 26 0 m.next 0))
       rw [zzf] at h2
       exact ⟨Nat.le_trans h1.1 h2.1, by omega⟩
     split
     · simp only
       have h1 := obs_puts sh d (t.kid 0) m []
       have h1' := obs_len sh d (t.kid 0) m []
       have h2 := ih (t.kid 1) ((obs sh d (t.kid 0) m []).2.1.lay (ix 23 0 (obs sh d (t.kid 0) m []).1 0))
       rw [zzf] at h2
       exact ⟨Nat.le_trans h1 h2.1, by omega⟩
     split
     · simp only
       have h1 := obs_puts sh d (t.kid 0) m []
       have h1' := obs_len sh d (t.kid 0) m []
       have h2 := he (obs sh d (t.kid 0) m []).1 (obs sh d (t.kid 0) m []).2.1
       exact ⟨Nat.le_trans h1 h2.1, by omega⟩
     · exact ⟨Nat.le_refl _, Nat.le_refl _⟩
end Gf
end
section
open Go.RowKit
namespace Gf
open Co Gen Dn
theorem hereAll_fit {k : Nat} : ∀ (l : List Nat) (m : Mk), Fit k m → Fit k (hereAll m l)
 | [], _, h => h
 | p :: r, m, h => hereAll_fit r (m.here p) (h.here p)
theorem again_fit {k : Nat} {m : Mk} (j : Nat) (l : List Nat) (h : Fit k m) : Fit (k + 3) (again j m l) := by
 unfold again
 exact (((hereAll_fit l _ (h.setW j _).fin).lay _).fin).mono (by omega)
theorem pick_fit {k : Nat} {m : Mk} (sh : Bool) (j : Nat) (t : T) (h : Fit k m) (h1 : (t.kid 0).letter = 99) (h2 : (t.kid 1).letter = 99) : Fit (k + 6 + 8 * (t.kid 0).size + 8 * (t.kid 1).size) (pick sh j t m) := by
 unfold pick
 have fa := ((h.lay (ix 21 0 0 t.n)).lay (ix 28 0 0 j)).fin
 have fb := (((zzx sh 200 (t.kid 0) _ _ h1 (fa.lay (ix 21 0 0 t.n))).fin.here m.ins.length).here (((m.lay (ix 21 0 0 t.n)).lay (ix 28 0 0 j)).fin).ins.length)
 have fc := (zzx sh 200 (t.kid 1) _ _ h2 fb.fresh).fin
 exact (fc.setW j _).mono (by omega)
def zze (j : Nat) (m : Mk) : Mk := (m.setW j fun w => { w with entry := m.ins.length }).fresh
section
variable {sh : Bool} {j : Nat} {t : T} {m : Mk}
theorem wait_at (h : t.op = 29) : wait sh j t m = again j (con sh 200 (t.kid 0) (((zze j m).setW j fun w => { w with day := t.n }).lay (ix 22 0 0 t.n))) [(zze j m).ins.length] := by
 unfold wait
 exact if_pos h
theorem wait_when (h : t.op = 30) : wait sh j t m = again j ((con sh 200 (t.kid 1) ((obs sh 200 (t.kid 0) (((zze j m).setW j fun w => { w with day := t.n + 1 }).lay (ix 21 0 0 t.n)) []).2.1.lay (ix 19 0 (obs sh 200 (t.kid 0) (((zze j m).setW j fun w => { w with day := t.n + 1 }).lay (ix 21 0 0 t.n)) []).1 0))).here (zze j m).ins.length)
   ((obs sh 200 (t.kid 0) (((zze j m).setW j fun w => { w with day := t.n + 1 }).lay (ix 21 0 0 t.n)) []).2.2 ++ [(obs sh 200 (t.kid 0) (((zze j m).setW j fun w => { w with day := t.n + 1 }).lay (ix 21 0 0 t.n)) []).2.1.ins.length]) := by
 unfold wait
 exact (if_neg (by omega)).trans (if_pos h)
theorem wait_scale (h : t.op = 26) : wait sh j t m = again j (con sh 200 (t.kid 1) ((obs sh 200 (t.kid 0) (zze j m) []).2.1.lay (ix 23 0 (obs sh 200 (t.kid 0) (zze j m) []).1 0))) (obs sh 200 (t.kid 0) (zze j m) []).2.2 := by
 unfold wait
 exact (if_neg (by omega)).trans ((if_neg (by omega)).trans (if_pos h))
theorem wait_if (h : t.op = 28) : wait sh j t m = again j (zqf (con sh 200) (obs sh 200 (t.kid 0) (zze j m) []).1 t (obs sh 200 (t.kid 0) (zze j m) []).2.1) (obs sh 200 (t.kid 0) (zze j m) []).2.2 := by
 unfold wait
 exact (if_neg (by omega)).trans ((if_neg (by omega)).trans ((if_neg (by omega)).trans (if_pos h)))
theorem wait_pick (h : t.op = 31) : wait sh j t m = pick sh j t (zze j m) := by
 unfold wait
 exact (if_neg (by omega)).trans ((if_neg (by omega)).trans ((if_neg (by omega)).trans ((if_neg (by omega)).trans (if_pos h))))
end
theorem zzn {op n : Int} {s : ByteArray} {ks : List T} (h : op = 23 ∨ op = 24 ∨ op = 25 ∨ op = 27) : zzq (.mk op n s ks) = false := by
 unfold zzq
 exact (if_neg (by show ¬ (op = 29 ∨ op = 30 ∨ op = 31); omega)).trans (if_neg (by show ¬ (op = 26 ∨ op = 28); omega))
theorem wait_fit {k : Nat} {m : Mk} (sh : Bool) (j : Nat) (t : T) (h : Fit k m) (hx : t.letter = 99) (hw : zzq t = true) : Fit (k + (8 * t.size - 2)) (wait sh j t m) := by
 obtain ⟨op, n, s, ks⟩ := t
 have hz : (T.mk op n s ks).size = 1 + sizes ks := by rw [T.size]
 have h0 : Fit k (zze j m) := (h.setW j _).fresh
 rcases zzw hx with (⟨rfl, rfl⟩ | ⟨rfl, rfl⟩) | ⟨h1, a, rfl, ha⟩ | ⟨rfl, o, a, rfl, ho, ha⟩ | ⟨h1, a, b, rfl, ha, hb⟩ | ⟨rfl, o, a, b, rfl, ho, ha, hb⟩ | ⟨rfl, o, a, rfl, ho, ha⟩
 · rw [zzn (by omega)] at hw; cases hw
 · rw [zzn (by omega)] at hw; cases hw
 · rcases h1 with rfl | rfl
   · rw [zzn (by omega)] at hw; cases hw
   · have hs : (T.mk 29 n s [a]).size = 1 + a.size := by rw [hz]; simp [sizes]
     rw [wait_at rfl, kid0]
     exact (again_fit j _ (zzx sh 200 a _ _ ha ((h0.setW j _).lay _))).mono (by omega)
 · have hs : (T.mk 26 n s [o, a]).size = 1 + (o.size + a.size) := by rw [hz]; simp [sizes]
   rw [wait_scale rfl, kid0, kid1]
   have fo := zzs sh 200 o _ [] _ (obs_n ho) h0
   exact (again_fit j _ (zzx sh 200 a _ _ ha (fo.m.lay _))).mono (by omega)
 · rcases h1 with rfl | rfl
   · rw [zzn (by omega)] at hw; cases hw
   · have hs : (T.mk 31 n s [a, b]).size = 1 + (a.size + b.size) := by rw [hz]; simp [sizes]
     rw [wait_pick rfl]
     exact (pick_fit sh j (T.mk 31 n s [a, b]) h0 ha hb).mono (by rw [kid0, kid1]; omega)
 · have hs : (T.mk 28 n s [o, a, b]).size = 1 + (o.size + (a.size + b.size)) := by rw [hz]; simp [sizes]
   rw [wait_if rfl, kid0]
   have fo := zzs sh 200 o _ [] _ (obs_b ho) h0
   have fe := either_fit (con := con sh 200) (t := .mk 28 n s [o, a, b]) (obs sh 200 o (zze j m) []).1 fo.m (fun k m h => zzx sh 200 a m k ha h) (fun k m h => zzx sh 200 b m k hb h)
   rw [kid1, kid2] at fe
   exact (again_fit j _ fe).mono (by omega)
 · have hs : (T.mk 30 n s [o, a]).size = 1 + (o.size + a.size) := by rw [hz]; simp [sizes]
   rw [wait_when rfl, kid0, kid1]
   have fo := zzs sh 200 o _ [] _ (obs_b ho) ((h0.setW j fun w => { w with day := n + 1 }).lay (ix 21 0 0 n))
   exact (again_fit j _ ((zzx sh 200 a _ _ ha (fo.m.lay _)).here _)).mono (by omega)
end Gf
end
section
open Go.RowKit
namespace Gf
open Co Gen Dn
theorem into_wl (sh : Bool) (out : Int) (o : Ob) : (into sh out o).1.ws.length = o.2.1.ws.length := by
 unfold into Mk.free
 cases sh <;> rfl
theorem reckon_wl (sh : Bool) (v : Val) (m : Mk) (u : List Nat) : m.ws.length ≤ (zzz sh v m u).2.1.ws.length := by
 unfold zzz
 split
 · exact Nat.le_refl _
 · exact Nat.le_refl _
theorem free_wl (m : Mk) (sh : Bool) (r : Int) : (m.free sh r).ws.length = m.ws.length := by unfold Mk.free; cases sh <;> rfl
theorem obs_wl (sh : Bool) (d : Nat) : ∀ (t : T) (m : Mk) (u : List Nat), m.ws.length ≤ (obs sh d t m u).2.1.ws.length := by
 induction d with
 | zero => intro t m u; exact Nat.le_refl _
 | succ d ih =>
   intro t m u
   rw [obs]
   split
   · exact reckon_wl _ _ _ _
   split
   · exact reckon_wl _ _ _ _
   split
   · exact reckon_wl _ _ _ _
   have hi : ∀ (t : T) (m : Mk) (u : List Nat) (out : Int), m.ws.length ≤ (into sh out (obs sh d t m u)).1.ws.length := fun t m u out => by rw [into_wl]; exact ih t m u
   split
   · unfold chosen choAnd
     simp only
     rw [free_wl]
     have h1 := hi (t.kid 0) m.reg u m.next
     generalize into sh m.next (obs sh d (t.kid 0) m.reg u) = A at *
     exact Nat.le_trans h1 (hi (t.kid 1) (A.1.lay (ix 19 0 m.next 0)) A.2 m.next)
   split
   · unfold chosen choOr
     simp only
     rw [free_wl]
     have h1 := hi (t.kid 0) m.reg u m.next
     generalize into sh m.next (obs sh d (t.kid 0) m.reg u) = A at *
     exact Nat.le_trans h1 (hi (t.kid 1) (((A.1.lay (ix 19 0 m.next 0)).lay (ix 20 0 0 0)).here A.1.ins.length) A.2 m.next)
   split
   · unfold chosen choIf
     simp only
     rw [free_wl]
     have h1 := hi (t.kid 0) m.reg u m.next
     generalize into sh m.next (obs sh d (t.kid 0) m.reg u) = A at *
     have h2 := hi (t.kid 1) (A.1.lay (ix 19 0 m.next 0)) A.2 m.next
     generalize into sh m.next (obs sh d (t.kid 1) (A.1.lay (ix 19 0 m.next 0)) A.2) = C at *
     exact Nat.le_trans (Nat.le_trans h1 h2) (hi (t.kid 2) (((C.1.back (A.1.lay (ix 19 0 m.next 0)).known).lay (ix 20 0 0 0)).here A.1.ins.length) C.2 m.next)
   · unfold obsPl
     simp only
     have h1 := ih (t.kid 0) m u
     have h2 : ∀ b : Ob, b = (if 1 < t.ks.length then obs sh d (t.kid 1) (obs sh d (t.kid 0) m u).2.1 (obs sh d (t.kid 0) m u).2.2 else (0, (obs sh d (t.kid 0) m u).2.1, (obs sh d (t.kid 0) m u).2.2)) → m.ws.length ≤ b.2.1.ws.length := by
       rintro b rfl
       split
       · exact Nat.le_trans h1 (ih _ _ _)
       · exact h1
     split
     · exact Nat.le_trans (h2 _ rfl) (reckon_wl _ _ _ _)
     · rw [free_wl]; exact h2 _ rfl
theorem con_wl (sh : Bool) (d : Nat) : ∀ (t : T) (m : Mk), m.ws.length ≤ (con sh d t m).ws.length ∧ m.ins.length ≤ (con sh d t m).ins.length := by
 induction d with
 | zero => intro t m; exact ⟨Nat.le_refl _, Nat.le_refl _⟩
 | succ d ih =>
   intro t m
   have he : ∀ (r : Int) (m : Mk), m.ws.length ≤ (zqf (con sh d) r t m).ws.length ∧ m.ins.length ≤ (zqf (con sh d) r t m).ins.length := by
     intro r m
     unfold zqf
     simp only [zzh, zzj]
     have h1 := ih (t.kid 1) (m.lay (ix 19 0 r 0))
     rw [zzf] at h1
     generalize con sh d (t.kid 1) (m.lay (ix 19 0 r 0)) = C at *
     have h2 := ih (t.kid 2) (((C.back (m.lay (ix 19 0 r 0)).known).lay (ix 20 0 0 0)).here m.ins.length)
     rw [zzh, zzf, zzj] at h2
     exact ⟨Nat.le_trans h1.1 h2.1, by omega⟩
   rw [con]
   split
   · exact ⟨by show m.ws.length ≤ (m.ws ++ [_]).length; simp, by show m.ins.length ≤ (m.ins ++ [_]).length; simp⟩
   · rw [free_wl, free_len]
     split
     · rw [zzf]; exact ⟨Nat.le_refl _, by omega⟩
     split
     · have h1 := ih (t.kid 0) (m.lay (ix 24 0 0 0))
       rw [zzf] at h1
       exact ⟨h1.1, by omega⟩
     split
     · have h1 := ih (t.kid 0) (m.reg.lay (ix 25 m.next 0 0))
       rw [zzf, reg_len] at h1
       generalize con sh d (t.kid 0) (m.reg.lay (ix 25 m.next 0 0)) = C at *
       have h2 := ih (t.kid 1) (C.lay (ix 26 0 m.next 0))
       rw [zzf] at h2
       exact ⟨Nat.le_trans h1.1 h2.1, by omega⟩
     split
     · simp only
       have h1 := obs_wl sh d (t.kid 0) m []
       have h1' := obs_len sh d (t.kid 0) m []
       have h2 := ih (t.kid 1) ((obs sh d (t.kid 0) m []).2.1.lay (ix 23 0 (obs sh d (t.kid 0) m []).1 0))
       rw [zzf] at h2
       exact ⟨Nat.le_trans h1 h2.1, by omega⟩
     split
     · simp only
       have h1 := obs_wl sh d (t.kid 0) m []
       have h1' := obs_len sh d (t.kid 0) m []
       have h2 := he (obs sh d (t.kid 0) m []).1 (obs sh d (t.kid 0) m []).2.1
       exact ⟨Nat.le_trans h1 h2.1, by omega⟩
     · exact ⟨Nat.le_refl _, Nat.le_refl _⟩
end Gf
end
section
open Go.RowKit
namespace Gf
open Co Gen Dn
def jw (m : Mk) : List (Nat × T) × Nat := (m.jobs, m.ws.length)
theorem zzm (m : Mk) (x : Ix) : jw (m.lay x) = jw m := rfl
theorem jw_reg (m : Mk) : jw m.reg = jw m := rfl
theorem zqb (m : Mk) (p : Nat) : jw (m.here p) = jw m := rfl
theorem jw_back (m : Mk) (k : Val → Option Int) : jw (m.back k) = jw m := rfl
theorem zqg (m : Mk) (sh : Bool) (r : Int) : jw (m.free sh r) = jw m := by unfold Mk.free; cases sh <;> rfl
theorem jw_fin (m : Mk) : jw m.fin = jw m := rfl
theorem jw_fresh (m : Mk) : jw m.fresh = jw m := rfl
theorem jw_put (m : Mk) (v : Val) (r : Int) : jw (m.put v r) = jw m := rfl
theorem jw_setW (m : Mk) (j : Nat) (f : Wt → Wt) : jw (m.setW j f) = jw m := by simp [jw, Mk.setW]
theorem jw_into (sh : Bool) (out : Int) (o : Ob) : jw (into sh out o).1 = jw o.2.1 := by unfold into; rw [zqg, zzm]
theorem jw_reckon (sh : Bool) (v : Val) (m : Mk) (u : List Nat) : jw (zzz sh v m u).2.1 = jw m := by
 unfold zzz
 split
 · rfl
 · exact (jw_put _ _ _).trans rfl
theorem jw_pl {ob : T → Mk → List Nat → Ob} (h : ∀ (t : T) (m : Mk) (u : List Nat), jw (ob t m u).2.1 = jw m) (sh : Bool) (t : T) (m : Mk) (u : List Nat) : jw (obsPl ob sh t m u).2.1 = jw m := by
 have h1 := h (t.kid 0) m u
 obtain ⟨o, ho⟩ : ∃ o, ob (t.kid 0) m u = o := ⟨_, rfl⟩
 rw [ho] at h1
 by_cases hl : 1 < t.ks.length
 · have h2 := h (t.kid 1) o.2.1 o.2.2
   obtain ⟨p, hp⟩ : ∃ p, ob (t.kid 1) o.2.1 o.2.2 = p := ⟨_, rfl⟩
   rw [hp] at h2
   rw [obsPl_two hl rfl ho rfl hp]
   cases sh
   · exact (zqg _ _ _).trans ((zzm _ _).trans (h2.trans h1))
   · exact (jw_reckon _ _ _ _).trans (h2.trans h1)
 · rw [obsPl_one hl rfl ho]
   cases sh
   · exact (zqg _ _ _).trans ((zzm _ _).trans h1)
   · exact (jw_reckon _ _ _ _).trans h1
theorem jw_obs (sh : Bool) (d : Nat) : ∀ (t : T) (m : Mk) (u : List Nat), jw (obs sh d t m u).2.1 = jw m := by
 induction d with
 | zero => intro t m u; rfl
 | succ d ih =>
   intro t m u
   rw [obs]
   split
   · exact jw_reckon _ _ _ _
   split
   · exact jw_reckon _ _ _ _
   split
   · exact jw_reckon _ _ _ _
   split
   · unfold chosen choAnd
     simp only
     rw [zqg, zqb, jw_back, jw_into, ih, zzm, jw_into, ih, jw_reg]
   split
   · unfold chosen choOr
     simp only
     rw [zqg, zqb, jw_back, jw_into, ih, zqb, zzm, zzm, jw_into, ih, jw_reg]
   split
   · unfold chosen choIf
     simp only
     rw [zqg, zqb, jw_back, jw_into, ih, zqb, zzm, jw_back, jw_into, ih, zzm, jw_into, ih, jw_reg]
   · exact jw_pl ih sh t m u
def JobOk (n : Nat) (x : Nat × T) : Prop := x.1 < n ∧ x.2.letter = 99 ∧ zzq x.2 = true ∧ x.2.depth ≤ 200
def JobsOk (s : List (Nat × T) × Nat) : Prop := ∀ x ∈ s.1, JobOk s.2 x
theorem JobsOk.call {m : Mk} {t : T} (h : JobsOk (jw m)) (hx : t.letter = 99) (hw : zzq t = true) (hd : t.depth ≤ 200) : JobsOk (jw (m.call t)) := by
 intro x hxm
 have hl : (jw (m.call t)).2 = m.ws.length + 1 := by simp [jw, Mk.call]
 have hm : x ∈ m.jobs ++ [(m.ws.length, t)] := hxm
 rw [hl]
 rcases List.mem_append.1 hm with h1 | h1
 · obtain ⟨h2, h3⟩ := h x h1
   exact ⟨Nat.lt_succ_of_lt h2, h3⟩
 · rw [List.mem_singleton] at h1
   subst h1
   exact ⟨Nat.lt_succ_self _, hx, hw, hd⟩
theorem jobs_con (sh : Bool) (d : Nat) : ∀ (t : T) (m : Mk), t.letter = 99 → t.depth ≤ 200 → JobsOk (jw m) → JobsOk (jw (con sh d t m)) := by
 induction d with
 | zero => intro t m _ _ h; exact h
 | succ d ih =>
   intro t m hx hd h
   cases hw : zzq t with
   | true => rw [con_call hw]; exact h.call hx hw hd
   | false =>
     obtain ⟨op, n, s, ks⟩ := t
     have hk : ∀ k ∈ ks, k.depth ≤ 200 := fun k hk => by
       have := depths_mem hk
       rw [T.depth] at hd
       omega
     obtain ⟨w1, w2, w3, w4⟩ := waits_op hw
     rcases zzw hx with (⟨rfl, rfl⟩ | ⟨rfl, rfl⟩) | ⟨h1, a, rfl, ha⟩ | ⟨rfl, o, a, rfl, ho, ha⟩ | ⟨h1, a, b, rfl, ha, hb⟩ | ⟨rfl, o, a, b, rfl, ho, ha, hb⟩ | ⟨rfl, o, a, rfl, ho, ha⟩
     · rw [con_zero hw rfl, zqg]; exact h
     · rw [con_pay hw rfl, zqg]; exact h
     · rcases h1 with rfl | rfl
       · rw [con_give hw rfl, kid0, zqg]
         exact ih a _ ha (hk a (by simp)) h
       · exact absurd rfl w1
     · rw [con_scale hw rfl, kid0, kid1, zqg]
       exact ih a _ ha (hk a (by simp)) (by rw [zzm, jw_obs]; exact h)
     · rcases h1 with rfl | rfl
       · rw [con_both hw rfl, kid0, kid1, zqg]
         exact ih b _ hb (hk b (by simp)) (ih a _ ha (hk a (by simp)) h)
       · exact absurd rfl w3
     · rw [con_if hw rfl, kid0, zqg]
       unfold zqf
       simp only [kid1, kid2, zqb, jw_back]
       refine ih b _ hb (hk b (by simp)) ?_
       rw [zqb, zzm, jw_back]
       refine ih a _ ha (hk a (by simp)) ?_
       rw [zzm, jw_obs]
       exact h
     · exact absurd rfl w2
theorem jw_hereAll : ∀ (l : List Nat) (m : Mk), jw (hereAll m l) = jw m
 | [], _ => rfl
 | p :: r, m => (jw_hereAll r (m.here p)).trans (zqb m p)
theorem jw_again (j : Nat) (l : List Nat) (m : Mk) : jw (again j m l) = jw m := by
 unfold again
 rw [jw_fin, zzm, jw_hereAll, jw_fin, jw_setW]
theorem zqi (j : Nat) (m : Mk) : jw (zze j m) = jw m := by unfold zze; rw [jw_fresh, jw_setW]
end Gf
end
section
open Go.RowKit
namespace Gf
open Co Gen Dn
theorem pick_parts (sh : Bool) (j : Nat) (t : T) (m : Mk) : ∃ A C B D : Mk, A = ((m.lay (ix 21 0 0 t.n)).lay (ix 28 0 0 j)).fin ∧ C = con sh 200 (t.kid 0) (A.lay (ix 21 0 0 t.n)) ∧ B = (C.fin.here m.ins.length).here A.ins.length ∧ D = con sh 200 (t.kid 1) B.fresh ∧
   pick sh j t m = D.fin.setW j fun _ => ⟨m.ins.length, dayIn (t.n + 1), t.s, A.ins.length, B.ins.length⟩ := ⟨_, _, _, _, rfl, rfl, rfl, rfl, rfl⟩
theorem zqp (con : T → Mk → Mk) (r : Int) (t : T) (m : Mk) : ∃ A B C D : Mk, A = m.lay (ix 19 0 r 0) ∧ B = con (t.kid 1) A ∧ C = ((B.back A.known).lay (ix 20 0 0 0)).here m.ins.length ∧ D = con (t.kid 2) C ∧
   zqf con r t m = (D.back C.known).here (B.back A.known).ins.length := ⟨_, _, _, _, rfl, rfl, rfl, rfl, rfl⟩
theorem jobs_wait (sh : Bool) (j : Nat) (t : T) (m : Mk) (hx : t.letter = 99) (hw : zzq t = true) (hd : t.depth ≤ 200) (h : JobsOk (jw m)) : JobsOk (jw (wait sh j t m)) := by
 obtain ⟨op, n, s, ks⟩ := t
 have hk : ∀ k ∈ ks, k.depth ≤ 200 := fun k hk => by
   have := depths_mem hk
   rw [T.depth] at hd
   omega
 rcases zzw hx with (⟨rfl, rfl⟩ | ⟨rfl, rfl⟩) | ⟨h1, a, rfl, ha⟩ | ⟨rfl, o, a, rfl, ho, ha⟩ | ⟨h1, a, b, rfl, ha, hb⟩ | ⟨rfl, o, a, b, rfl, ho, ha, hb⟩ | ⟨rfl, o, a, rfl, ho, ha⟩
 · rw [zzn (by omega)] at hw; cases hw
 · rw [zzn (by omega)] at hw; cases hw
 · rcases h1 with rfl | rfl
   · rw [zzn (by omega)] at hw; cases hw
   · rw [wait_at rfl, kid0, jw_again]
     exact jobs_con sh 200 a _ ha (hk a (by simp)) (by rw [zzm, jw_setW, zqi]; exact h)
 · rw [wait_scale rfl, kid0, kid1, jw_again]
   exact jobs_con sh 200 a _ ha (hk a (by simp)) (by rw [zzm, jw_obs, zqi]; exact h)
 · rcases h1 with rfl | rfl
   · rw [zzn (by omega)] at hw; cases hw
   · rw [wait_pick rfl]
     obtain ⟨A, C, B, D, hA, hC, hB, hD, e⟩ := pick_parts sh j (T.mk 31 n s [a, b]) (zze j m)
     rw [kid0] at hC
     rw [kid1] at hD
     rw [e, jw_setW, jw_fin, hD]
     refine jobs_con sh 200 b _ hb (hk b (by simp)) ?_
     rw [jw_fresh, hB, zqb, zqb, jw_fin, hC]
     refine jobs_con sh 200 a _ ha (hk a (by simp)) ?_
     rw [zzm, hA, jw_fin, zzm, zzm, zqi]
     exact h
 · rw [wait_if rfl, kid0, jw_again]
   have hjo := jw_obs sh 200 o (zze j m) []
   rw [zqi] at hjo
   generalize obs sh 200 o (zze j m) [] = O at *
   obtain ⟨A, B, C, D, hA, hB, hC, hD, e⟩ := zqp (con sh 200) O.1 (T.mk 28 n s [o, a, b]) O.2.1
   rw [kid1] at hB
   rw [kid2] at hD
   rw [e, zqb, jw_back, hD]
   refine jobs_con sh 200 b _ hb (hk b (by simp)) ?_
   rw [hC, zqb, zzm, jw_back, hB]
   refine jobs_con sh 200 a _ ha (hk a (by simp)) ?_
   rw [hA, zzm, hjo]
   exact h
 · rw [wait_when rfl, kid0, kid1, jw_again, zqb]
   exact jobs_con sh 200 a _ ha (hk a (by simp)) (by rw [zzm, jw_obs, zzm, jw_setW, zqi]; exact h)
end Gf
end
section
open Go.RowKit
namespace Gf
open Co Gen Dn
def Within (u : List Nat) (m : Mk) : Prop := ∀ p ∈ u, p < m.ins.length
theorem Within.more {u : List Nat} {m m' : Mk} (h : Within u m) (hl : m.ins.length ≤ m'.ins.length) : Within u m' := fun p hp => Nat.lt_of_lt_of_le (h p hp) hl
theorem Within.snoc {u : List Nat} {m : Mk} (h : Within u m) (x : Ix) : Within (u ++ [m.ins.length]) (m.lay x) := fun p hp => by
 rw [zzf]
 rcases List.mem_append.1 hp with h1 | h1
 · have := h p h1; omega
 · rw [List.mem_singleton] at h1; omega
theorem into_within {sh : Bool} {out : Int} {o : Ob} (h : Within o.2.2 o.2.1) : Within (into sh out o).2 (into sh out o).1 := h.more (by rw [into_len]; omega)
theorem reckon_within (sh : Bool) (v : Val) {m : Mk} {u : List Nat} (h : Within u m) : Within (zzz sh v m u).2.2 (zzz sh v m u).2.1 := by
 unfold zzz
 split
 · exact h
 · show Within (if v.op = 2 then u ++ [m.ins.length] else u) ((m.reg.lay (v.ix m.next)).put v m.next)
   split
   · exact (Within.snoc (m := m.reg) h (v.ix m.next)).more (Nat.le_refl _)
   · exact h.more (by show m.ins.length ≤ (m.ins ++ [_]).length; simp)
theorem obs_within (sh : Bool) (d : Nat) : ∀ (t : T) (m : Mk) (u : List Nat), Within u m → Within (obs sh d t m u).2.2 (obs sh d t m u).2.1 := by
 induction d with
 | zero => intro t m u h; exact h
 | succ d ih =>
   intro t m u h
   rw [obs]
   split
   · exact reckon_within _ _ h
   split
   · exact reckon_within _ _ h
   split
   · exact reckon_within _ _ h
   have h1 := into_within (sh := sh) (out := m.next) (ih (t.kid 0) m.reg u h)
   split
   · unfold chosen choAnd
     simp only
     generalize into sh m.next (obs sh d (t.kid 0) m.reg u) = A at *
     have h2 := into_within (sh := sh) (out := m.next) (ih (t.kid 1) (A.1.lay (ix 19 0 m.next 0)) A.2 (h1.more (by rw [zzf]; omega)))
     exact h2.more (by rw [free_len, zzh, zzj]; omega)
   split
   · unfold chosen choOr
     simp only
     generalize into sh m.next (obs sh d (t.kid 0) m.reg u) = A at *
     have h2 := into_within (sh := sh) (out := m.next) (ih (t.kid 1) (((A.1.lay (ix 19 0 m.next 0)).lay (ix 20 0 0 0)).here A.1.ins.length) A.2 (h1.more (by rw [zzh, zzf, zzf]; omega)))
     exact h2.more (by rw [free_len, zzh, zzj]; omega)
   split
   · unfold chosen choIf
     simp only
     generalize into sh m.next (obs sh d (t.kid 0) m.reg u) = A at *
     have h2 := into_within (sh := sh) (out := m.next) (ih (t.kid 1) (A.1.lay (ix 19 0 m.next 0)) A.2 (h1.more (by rw [zzf]; omega)))
     generalize into sh m.next (obs sh d (t.kid 1) (A.1.lay (ix 19 0 m.next 0)) A.2) = C at *
     have h3 := into_within (sh := sh) (out := m.next) (ih (t.kid 2) (((C.1.back (A.1.lay (ix 19 0 m.next 0)).known).lay (ix 20 0 0 0)).here A.1.ins.length) C.2 (h2.more (by rw [zzh, zzf, zzj]; omega)))
     exact h3.more (by rw [free_len, zzh, zzj]; omega)
   · have h2 := ih (t.kid 0) m u h
     obtain ⟨o, ho⟩ : ∃ o, obs sh d (t.kid 0) m u = o := ⟨_, rfl⟩
     rw [ho] at h2
     by_cases hl : 1 < t.ks.length
     · have h3 := ih (t.kid 1) o.2.1 o.2.2 h2
       obtain ⟨p, hp⟩ : ∃ p, obs sh d (t.kid 1) o.2.1 o.2.2 = p := ⟨_, rfl⟩
       rw [hp] at h3
       rw [obsPl_two hl rfl ho rfl hp]
       cases sh
       · exact h3.more (by show _ ≤ ((p.2.1.lay _).free false _).ins.length; rw [free_len, zzf]; omega)
       · exact reckon_within _ _ h3
     · rw [obsPl_one hl rfl ho]
       cases sh
       · exact h2.more (by show _ ≤ ((o.2.1.lay _).free false _).ins.length; rw [free_len, zzf]; omega)
       · exact reckon_within _ _ h2
end Gf
end
section
open Go.RowKit
namespace Gf
open Co Gen Dn
def tot : List (Nat × T) → Nat
 | [] => 0
 | x :: r => x.2.size + tot r
theorem tot_append (a b : List (Nat × T)) : tot (a ++ b) = tot a + tot b := by
 induction a with
 | nil => simp [tot]
 | cons x r ih => rw [List.cons_append, tot, tot, ih]; omega
theorem jobs_call (m : Mk) (t : T) : tot (jw (m.call t)).1 = tot (jw m).1 + t.size := by
 show tot (m.jobs ++ [(m.ws.length, t)]) = _
 rw [tot_append]
 rfl
theorem con_tot (sh : Bool) (d : Nat) : ∀ (t : T) (m : Mk), t.letter = 99 → tot (jw (con sh d t m)).1 ≤ tot (jw m).1 + t.size := by
 induction d with
 | zero => intro t m _; exact Nat.le_add_right _ _
 | succ d ih =>
   intro t m hx
   cases hw : zzq t with
   | true => rw [con_call hw, jobs_call]; exact Nat.le_refl _
   | false =>
     obtain ⟨op, n, s, ks⟩ := t
     have hz : (T.mk op n s ks).size = 1 + sizes ks := by rw [T.size]
     obtain ⟨w1, w2, w3, w4⟩ := waits_op hw
     rcases zzw hx with (⟨rfl, rfl⟩ | ⟨rfl, rfl⟩) | ⟨h1, a, rfl, ha⟩ | ⟨rfl, o, a, rfl, ho, ha⟩ | ⟨h1, a, b, rfl, ha, hb⟩ | ⟨rfl, o, a, b, rfl, ho, ha, hb⟩ | ⟨rfl, o, a, rfl, ho, ha⟩
     · rw [con_zero hw rfl, zqg]; omega
     · rw [con_pay hw rfl, zqg, zzm]; omega
     · rcases h1 with rfl | rfl
       · rw [con_give hw rfl, kid0, zqg]
         have hs : (T.mk 25 n s [a]).size = 1 + a.size := by rw [hz]; simp [sizes]
         have := ih a (m.lay (ix 24 0 0 0)) ha
         rw [zzm] at this
         omega
       · exact absurd rfl w1
     · rw [con_scale hw rfl, kid0, kid1, zqg]
       have hs : (T.mk 26 n s [o, a]).size = 1 + (o.size + a.size) := by rw [hz]; simp [sizes]
       have := ih a ((obs sh d o m []).2.1.lay (ix 23 0 (obs sh d o m []).1 0)) ha
       rw [zzm, jw_obs] at this
       omega
     · rcases h1 with rfl | rfl
       · rw [con_both hw rfl, kid0, kid1, zqg]
         have hs : (T.mk 27 n s [a, b]).size = 1 + (a.size + b.size) := by rw [hz]; simp [sizes]
         have h1 := ih a (m.reg.lay (ix 25 m.next 0 0)) ha
         rw [zzm, jw_reg] at h1
         generalize con sh d a (m.reg.lay (ix 25 m.next 0 0)) = C at *
         have h2 := ih b (C.lay (ix 26 0 m.next 0)) hb
         rw [zzm] at h2
         omega
       · exact absurd rfl w3
     · rw [con_if hw rfl, kid0, zqg]
       have hs : (T.mk 28 n s [o, a, b]).size = 1 + (o.size + (a.size + b.size)) := by rw [hz]; simp [sizes]
       have hjo := jw_obs sh d o m []
       generalize obs sh d o m [] = O at *
       unfold zqf
       simp only [kid1, kid2, zqb, jw_back]
       have h1 := ih a (O.2.1.lay (ix 19 0 O.1 0)) ha
       rw [zzm, hjo] at h1
       generalize con sh d a (O.2.1.lay (ix 19 0 O.1 0)) = C at *
       have h2 := ih b (((C.back (O.2.1.lay (ix 19 0 O.1 0)).known).lay (ix 20 0 0 0)).here O.2.1.ins.length) hb
       rw [zqb, zzm, jw_back] at h2
       omega
     · exact absurd rfl w2
theorem wait_tot (sh : Bool) (j : Nat) (t : T) (m : Mk) (hx : t.letter = 99) (hw : zzq t = true) : tot (jw (wait sh j t m)).1 + 1 ≤ tot (jw m).1 + t.size := by
 obtain ⟨op, n, s, ks⟩ := t
 have hz : (T.mk op n s ks).size = 1 + sizes ks := by rw [T.size]
 rcases zzw hx with (⟨rfl, rfl⟩ | ⟨rfl, rfl⟩) | ⟨h1, a, rfl, ha⟩ | ⟨rfl, o, a, rfl, ho, ha⟩ | ⟨h1, a, b, rfl, ha, hb⟩ | ⟨rfl, o, a, b, rfl, ho, ha, hb⟩ | ⟨rfl, o, a, rfl, ho, ha⟩
 · rw [zzn (by omega)] at hw; cases hw
 · rw [zzn (by omega)] at hw; cases hw
 · rcases h1 with rfl | rfl
   · rw [zzn (by omega)] at hw; cases hw
   · have hs : (T.mk 29 n s [a]).size = 1 + a.size := by rw [hz]; simp [sizes]
     rw [wait_at rfl, kid0, jw_again]
     have := con_tot sh 200 a (((zze j m).setW j fun w => { w with day := (T.mk 29 n s [a]).n }).lay (ix 22 0 0 (T.mk 29 n s [a]).n)) ha
     rw [zzm, jw_setW, zqi] at this
     omega
 · have hs : (T.mk 26 n s [o, a]).size = 1 + (o.size + a.size) := by rw [hz]; simp [sizes]
   rw [wait_scale rfl, kid0, kid1, jw_again]
   have := con_tot sh 200 a ((obs sh 200 o (zze j m) []).2.1.lay (ix 23 0 (obs sh 200 o (zze j m) []).1 0)) ha
   rw [zzm, jw_obs, zqi] at this
   omega
 · rcases h1 with rfl | rfl
   · rw [zzn (by omega)] at hw; cases hw
   · have hs : (T.mk 31 n s [a, b]).size = 1 + (a.size + b.size) := by rw [hz]; simp [sizes]
     rw [wait_pick rfl]
     obtain ⟨A, C, B, D, hA, hC, hB, hD, e⟩ := pick_parts sh j (T.mk 31 n s [a, b]) (zze j m)
     rw [kid0] at hC
     rw [kid1] at hD
     have h1 := con_tot sh 200 a (A.lay (ix 21 0 0 (T.mk 31 n s [a, b]).n)) ha
     have h2 := con_tot sh 200 b B.fresh hb
     rw [← hC, zzm, hA, jw_fin, zzm, zzm, zqi] at h1
     rw [← hD, jw_fresh, hB, zqb, zqb, jw_fin] at h2
     rw [e, jw_setW, jw_fin]
     omega
 · have hs : (T.mk 28 n s [o, a, b]).size = 1 + (o.size + (a.size + b.size)) := by rw [hz]; simp [sizes]
   rw [wait_if rfl, kid0, jw_again]
   have hjo := jw_obs sh 200 o (zze j m) []
   rw [zqi] at hjo
   generalize obs sh 200 o (zze j m) [] = O at *
   obtain ⟨A, B, C, D, hA, hB, hC, hD, e⟩ := zqp (con sh 200) O.1 (T.mk 28 n s [o, a, b]) O.2.1
   rw [kid1] at hB
   rw [kid2] at hD
   have h1 := con_tot sh 200 a A ha
   have h2 := con_tot sh 200 b C hb
   rw [← hB, hA, zzm, hjo] at h1
   rw [← hD, hC, zqb, zzm, jw_back] at h2
   rw [e, zqb, jw_back]
   omega
 · have hs : (T.mk 30 n s [o, a]).size = 1 + (o.size + a.size) := by rw [hz]; simp [sizes]
   rw [wait_when rfl, kid0, kid1, jw_again, zqb]
   have hjo := jw_obs sh 200 o (((zze j m).setW j fun w => { w with day := (T.mk 30 n s [o, a]).n + 1 }).lay (ix 21 0 0 (T.mk 30 n s [o, a]).n)) []
   rw [zzm, jw_setW, zqi] at hjo
   generalize obs sh 200 o _ [] = O at *
   have := con_tot sh 200 a (O.2.1.lay (ix 19 0 O.1 0)) ha
   rw [zzm, hjo] at this
   omega
end Gf
end
section
open Go.RowKit
namespace Gf
open Co Gen Dn
structure Gr (s : Int) (m m' : Mk) : Prop where
 ln : m.ins.length ≤ m'.ins.length
 sl : 0 ≤ (m'.ins.length : Int) - m.ins.length + s
 nx : m'.next ≤ m.next + ((m'.ins.length : Int) - m.ins.length) + s
 rg : m'.regs ≤ max m.regs (m.next + ((m'.ins.length : Int) - m.ins.length) + s)
 pt : m'.puts + m.ins.length ≤ m.puts + m'.ins.length
section
variable {s s' : Int} {m m' m'' : Mk}
theorem Gr.refl (m : Mk) : Gr 0 m m := ⟨Nat.le_refl _, by omega, by omega, by omega, Nat.le_refl _⟩
theorem Gr.trans (h : Gr s m m') (k : Gr s' m' m'') : Gr (s + s') m m'' := by
 obtain ⟨h1, h2, h3, h4, h5⟩ := h
 obtain ⟨k1, k2, k3, k4, k5⟩ := k
 exact ⟨by omega, by omega, by omega, by omega, by omega⟩
theorem Gr.weak (h : Gr s m m') (hs : s ≤ s') : Gr s' m m' := by
 obtain ⟨h1, h2, h3, h4, h5⟩ := h
 exact ⟨by omega, by omega, by omega, by omega, by omega⟩
theorem Gr.lay (h : Gr s m m') (x : Ix) : Gr (s - 1) m (m'.lay x) := by
 obtain ⟨h1, h2, h3, h4, h5⟩ := h
 have hl := zzf m' x
 have e1 : (m'.lay x).next = m'.next := rfl
 have e2 : (m'.lay x).regs = m'.regs := rfl
 have e3 : (m'.lay x).puts = m'.puts := rfl
 refine ⟨by omega, by omega, by rw [e1]; omega, by rw [e2]; omega, by rw [e3]; omega⟩
theorem Gr.reg (h : Gr s m m') : Gr (s + 1) m m'.reg := by
 obtain ⟨h1, h2, h3, h4, h5⟩ := h
 have hl := reg_len m'
 have e1 : m'.reg.next = m'.next + 1 := rfl
 have e2 : m'.reg.regs = max m'.regs (m'.next + 1) := rfl
 have e3 : m'.reg.puts = m'.puts := rfl
 refine ⟨by omega, by omega, by rw [e1]; omega, by rw [e2]; omega, by rw [e3]; omega⟩
theorem Gr.here (h : Gr s m m') (p : Nat) : Gr s m (m'.here p) := by
 obtain ⟨h1, h2, h3, h4, h5⟩ := h
 have hl := zzh m' p
 exact ⟨by omega, by omega, by rw [hl]; exact h3, by rw [hl]; exact h4, by rw [hl]; exact h5⟩
theorem Gr.back (h : Gr s m m') (k : Val → Option Int) : Gr s m (m'.back k) := ⟨h.ln, h.sl, h.nx, h.rg, h.pt⟩
theorem Gr.setW (h : Gr s m m') (j : Nat) (f : Wt → Wt) : Gr s m (m'.setW j f) := ⟨h.ln, h.sl, h.nx, h.rg, h.pt⟩
theorem Gr.fin (h : Gr s m m') : Gr (s - 1) m m'.fin := h.lay _
theorem Gr.free (h : Gr s m m') (sh : Bool) {r : Int} (hr : r ≤ m.next + ((m'.ins.length : Int) - m.ins.length) + s) : Gr s m (m'.free sh r) := by
 unfold Mk.free
 split
 · exact h
 · exact ⟨h.ln, h.sl, hr, h.rg, h.pt⟩
theorem Gr.fresh (h : Gr s m m') (hr : 0 ≤ m.next + ((m'.ins.length : Int) - m.ins.length) + s) : Gr s m m'.fresh := ⟨h.ln, h.sl, hr, h.rg, h.pt⟩
theorem Gr.call (h : Gr s m m') (t : T) : Gr (s - 1) m (m'.call t) := by
 have := h.lay (ix 29 0 0 m'.ws.length)
 exact ⟨this.ln, this.sl, this.nx, this.rg, this.pt⟩
theorem reckon_gr (sh : Bool) (v : Val) (u : List Nat) (h : Gr s m m') : Gr s m (zzz sh v m' u).2.1 := by
 unfold zzz
 split
 · exact h
 · obtain ⟨h1, h2, h3, h4, h5⟩ := (h.reg).lay (v.ix m'.next)
   have hl := zzf m'.reg (v.ix m'.next)
   rw [reg_len] at hl
   have e1 : ((m'.reg.lay (v.ix m'.next)).put v m'.next).next = (m'.reg.lay (v.ix m'.next)).next := rfl
   have e2 : ((m'.reg.lay (v.ix m'.next)).put v m'.next).regs = (m'.reg.lay (v.ix m'.next)).regs := rfl
   have e3 : ((m'.reg.lay (v.ix m'.next)).put v m'.next).puts = m'.puts + 1 := rfl
   have e4 : ((m'.reg.lay (v.ix m'.next)).put v m'.next).ins.length = (m'.reg.lay (v.ix m'.next)).ins.length := rfl
   have k1 := h.ln
   have k5 := h.pt
   refine ⟨?_, ?_, ?_, ?_, ?_⟩
   · show _ ≤ ((m'.reg.lay (v.ix m'.next)).put v m'.next).ins.length; omega
   · show 0 ≤ (((m'.reg.lay (v.ix m'.next)).put v m'.next).ins.length : Int) - _ + _; omega
   · show ((m'.reg.lay (v.ix m'.next)).put v m'.next).next ≤ _ + ((((m'.reg.lay (v.ix m'.next)).put v m'.next).ins.length : Int) - _) + _; rw [e1, e4]; omega
   · show ((m'.reg.lay (v.ix m'.next)).put v m'.next).regs ≤ max _ (_ + ((((m'.reg.lay (v.ix m'.next)).put v m'.next).ins.length : Int) - _) + _); rw [e2, e4]; omega
   · show ((m'.reg.lay (v.ix m'.next)).put v m'.next).puts + _ ≤ _ + ((m'.reg.lay (v.ix m'.next)).put v m'.next).ins.length; rw [e3, e4]; omega
end
theorem into_gr {s : Int} {m : Mk} {o : Ob} (sh : Bool) (h : Gr s m o.2.1) (out : Int) (hr : out + 1 ≤ m.next + ((o.2.1.ins.length : Int) - m.ins.length) + s) : Gr (s - 1) m (into sh out o).1 := by
 unfold into
 refine (h.lay _).free sh ?_
 rw [zzf]
 omega
theorem obs_gr (sh : Bool) (d : Nat) : ∀ (t : T) (m : Mk) (u : List Nat), Gr 0 m (obs sh d t m u).2.1 := by
 induction d with
 | zero => intro t m u; exact Gr.refl m
 | succ d ih =>
   intro t m u
   have hi : ∀ {s : Int} {m0 m' : Mk} (t : T) (u : List Nat) (out : Int), Gr s m0 m' → out + 1 ≤ m0.next + ((m'.ins.length : Int) - m0.ins.length) + s → Gr (s - 1) m0 (into sh out (obs sh d t m' u)).1 := by
     intro s m0 m' t u out h hr
     have h1 := h.trans (ih t m' u)
     rw [Int.add_zero] at h1
     refine into_gr sh h1 out ?_
     have := (ih t m' u).ln
     omega
   rw [obs]
   split
   · exact reckon_gr _ _ _ (Gr.refl m)
   split
   · exact reckon_gr _ _ _ (Gr.refl m)
   split
   · exact reckon_gr _ _ _ (Gr.refl m)
   have h1 := hi (t.kid 0) u m.next (Gr.refl m).reg (by rw [reg_len]; omega)
   have hl := into_len sh m.next (obs sh d (t.kid 0) m.reg u)
   have hl2 := obs_len sh d (t.kid 0) m.reg u
   rw [reg_len] at hl2
   split
   · unfold chosen choAnd
     simp only
     generalize into sh m.next (obs sh d (t.kid 0) m.reg u) = A at *
     have h2 := hi (t.kid 1) A.2 m.next (h1.lay (ix 19 0 m.next 0)) (by rw [zzf]; omega)
     have hl3 := into_len sh m.next (obs sh d (t.kid 1) (A.1.lay (ix 19 0 m.next 0)) A.2)
     have hl4 := obs_len sh d (t.kid 1) (A.1.lay (ix 19 0 m.next 0)) A.2
     rw [zzf] at hl4
     exact (((h2.back _).here _).weak (by omega)).free sh (by rw [zzh, zzj]; omega)
   split
   · unfold chosen choOr
     simp only
     generalize into sh m.next (obs sh d (t.kid 0) m.reg u) = A at *
     have h2 := hi (t.kid 1) A.2 m.next (((h1.lay (ix 19 0 m.next 0)).lay (ix 20 0 0 0)).here A.1.ins.length) (by rw [zzh, zzf, zzf]; omega)
     have hl3 := into_len sh m.next (obs sh d (t.kid 1) (((A.1.lay (ix 19 0 m.next 0)).lay (ix 20 0 0 0)).here A.1.ins.length) A.2)
     have hl4 := obs_len sh d (t.kid 1) (((A.1.lay (ix 19 0 m.next 0)).lay (ix 20 0 0 0)).here A.1.ins.length) A.2
     rw [zzh, zzf, zzf] at hl4
     exact (((h2.back _).here _).weak (by omega)).free sh (by rw [zzh, zzj]; omega)
   split
   · unfold chosen choIf
     simp only
     generalize into sh m.next (obs sh d (t.kid 0) m.reg u) = A at *
     have h2 := hi (t.kid 1) A.2 m.next (h1.lay (ix 19 0 m.next 0)) (by rw [zzf]; omega)
     have hl3 := into_len sh m.next (obs sh d (t.kid 1) (A.1.lay (ix 19 0 m.next 0)) A.2)
     have hl4 := obs_len sh d (t.kid 1) (A.1.lay (ix 19 0 m.next 0)) A.2
     rw [zzf] at hl4
     generalize into sh m.next (obs sh d (t.kid 1) (A.1.lay (ix 19 0 m.next 0)) A.2) = C at *
     have h3 := hi (t.kid 2) C.2 m.next (((h2.back (A.1.lay (ix 19 0 m.next 0)).known).lay (ix 20 0 0 0)).here A.1.ins.length) (by rw [zzh, zzf, zzj]; omega)
     have hl5 := into_len sh m.next (obs sh d (t.kid 2) (((C.1.back (A.1.lay (ix 19 0 m.next 0)).known).lay (ix 20 0 0 0)).here A.1.ins.length) C.2)
     have hl6 := obs_len sh d (t.kid 2) (((C.1.back (A.1.lay (ix 19 0 m.next 0)).known).lay (ix 20 0 0 0)).here A.1.ins.length) C.2
     rw [zzh, zzf, zzj] at hl6
     exact (((h3.back _).here _).weak (by omega)).free sh (by rw [zzh, zzj]; omega)
   · unfold obsPl
     simp only
     have g1 := ih (t.kid 0) m u
     generalize obs sh d (t.kid 0) m u = A at *
     have h2 : ∀ b : Ob, b = (if 1 < t.ks.length then obs sh d (t.kid 1) A.2.1 A.2.2 else (0, A.2.1, A.2.2)) → Gr 0 m b.2.1 := by
       rintro b rfl
       split
       · have := g1.trans (ih (t.kid 1) A.2.1 A.2.2)
         rwa [Int.add_zero] at this
       · exact g1
     split
     · exact reckon_gr _ _ _ (h2 _ rfl)
     · have g2 := h2 _ rfl
       generalize (if 1 < t.ks.length then obs sh d (t.kid 1) A.2.1 A.2.2 else (0, A.2.1, A.2.2)) = B at *
       have := g2.ln
       exact ((g2.lay _).weak (by omega)).free sh (by rw [zzf]; omega)
theorem con_gr (sh : Bool) (d : Nat) : ∀ (t : T) (m : Mk), Gr 0 m (con sh d t m) := by
 induction d with
 | zero => intro t m; exact Gr.refl m
 | succ d ih =>
   intro t m
   have hi : ∀ {s : Int} {m0 m' : Mk} (t : T), Gr s m0 m' → Gr s m0 (con sh d t m') := by
     intro s m0 m' t h
     have h1 := h.trans (ih t m')
     rwa [Int.add_zero] at h1
   have ho : ∀ {s : Int} {m0 m' : Mk} (t : T), Gr s m0 m' → Gr s m0 (obs sh d t m' []).2.1 := by
     intro s m0 m' t h
     have h1 := h.trans (obs_gr sh d t m' [])
     rwa [Int.add_zero] at h1
   have hf : ∀ {m' : Mk}, Gr 0 m m' → Gr 0 m (m'.free sh m.next) := fun h => h.free sh (by have := h.ln; omega)
   rw [con]
   split
   · exact ((Gr.refl m).call t).weak (by omega)
   · apply hf
     split
     · exact ((Gr.refl m).lay _).weak (by omega)
     split
     · exact (hi _ ((Gr.refl m).lay _)).weak (by omega)
     split
     · exact (hi _ ((hi _ ((Gr.refl m).reg.lay _)).lay _)).weak (by omega)
     split
     · simp only
       exact (hi _ ((ho _ (Gr.refl m)).lay _)).weak (by omega)
     split
     · simp only
       unfold zqf
       simp only
       exact ((((hi _ ((((hi _ ((ho _ (Gr.refl m)).lay _)).back _).lay _).here _)).back _).here _)).weak (by omega)
     · exact Gr.refl m
theorem hereAll_gr {s : Int} {m : Mk} : ∀ (l : List Nat) (m' : Mk), Gr s m m' → Gr s m (hereAll m' l)
 | [], _, h => h
 | p :: r, m', h => hereAll_gr r (m'.here p) (h.here p)
theorem again_gr {s : Int} {m m' : Mk} (j : Nat) (l : List Nat) (h : Gr s m m') : Gr (s - 3) m (again j m' l) := by
 unfold again
 exact ((((hereAll_gr l _ (h.setW j _).fin).lay _).fin)).weak (by omega)
theorem wait_none {sh : Bool} {j : Nat} {t : T} {m : Mk} (h1 : t.op ≠ 29) (h2 : t.op ≠ 30) (h3 : t.op ≠ 26) (h4 : t.op ≠ 28) (h5 : t.op ≠ 31) : wait sh j t m = again j (zze j m) [] := by
 unfold wait
 exact (if_neg h1).trans ((if_neg h2).trans ((if_neg h3).trans ((if_neg h4).trans (if_neg h5))))
theorem wait_gr (sh : Bool) (j : Nat) (t : T) (m : Mk) : Gr 0 (zze j m) (wait sh j t m) := by
 have hc : ∀ {s : Int} {m0 m' : Mk} (t : T), Gr s m0 m' → Gr s m0 (con sh 200 t m') := by
   intro s m0 m' t h
   have h1 := h.trans (con_gr sh 200 t m')
   rwa [Int.add_zero] at h1
 have ho : ∀ {s : Int} {m0 m' : Mk} (t : T), Gr s m0 m' → Gr s m0 (obs sh 200 t m' []).2.1 := by
   intro s m0 m' t h
   have h1 := h.trans (obs_gr sh 200 t m' [])
   rwa [Int.add_zero] at h1
 have h0 := Gr.refl (zze j m)
 have hn : (zze j m).next = 0 := rfl
 by_cases h29 : t.op = 29
 · rw [wait_at h29]
   exact (again_gr j _ (hc _ ((h0.setW j _).lay _))).weak (by omega)
 by_cases h30 : t.op = 30
 · rw [wait_when h30]
   have g := ho (t.kid 0) ((h0.setW j fun w => { w with day := t.n + 1 }).lay (ix 21 0 0 t.n))
   generalize obs sh 200 (t.kid 0) (((zze j m).setW j fun w => { w with day := t.n + 1 }).lay (ix 21 0 0 t.n)) [] = O at *
   exact (again_gr j _ ((hc (t.kid 1) (g.lay (ix 19 0 O.1 0))).here _)).weak (by omega)
 by_cases h26 : t.op = 26
 · rw [wait_scale h26]
   have g := ho (t.kid 0) h0
   generalize obs sh 200 (t.kid 0) (zze j m) [] = O at *
   exact (again_gr j _ (hc (t.kid 1) (g.lay (ix 23 0 O.1 0)))).weak (by omega)
 by_cases h28 : t.op = 28
 · rw [wait_if h28]
   have g := ho (t.kid 0) h0
   generalize obs sh 200 (t.kid 0) (zze j m) [] = O at *
   obtain ⟨A, B, C, D, hA, hB, hC, hD, e⟩ := zqp (con sh 200) O.1 t O.2.1
   have gA : Gr (0 - 1) (zze j m) A := by rw [hA]; exact g.lay _
   have gB : Gr (0 - 1) (zze j m) B := by rw [hB]; exact hc _ gA
   have gC : Gr (0 - 1 - 1) (zze j m) C := by rw [hC]; exact ((gB.back _).lay _).here _
   have gD : Gr (0 - 1 - 1) (zze j m) D := by rw [hD]; exact hc _ gC
   rw [e]
   exact (again_gr j _ ((gD.back _).here _)).weak (by omega)
 by_cases h31 : t.op = 31
 · rw [wait_pick h31]
   obtain ⟨A, C, B, D, hA, hC, hB, hD, e⟩ := pick_parts sh j t (zze j m)
   have gA : Gr (-3) (zze j m) A := by rw [hA]; exact ((((h0.lay _).lay _).fin)).weak (by omega)
   have gC : Gr (-4) (zze j m) C := by rw [hC]; exact (hc _ (gA.lay _)).weak (by omega)
   have gB : Gr (-5) (zze j m) B := by rw [hB]; exact ((gC.fin.here _).here _).weak (by omega)
   have gD : Gr (-5) (zze j m) D := by rw [hD]; exact hc _ (gB.fresh (by rw [hn]; have := gB.sl; omega))
   rw [e]
   exact ((gD.fin).setW j _).weak (by omega)
 · rw [wait_none h29 h30 h26 h28 h31]
   exact (again_gr j _ h0).weak (by omega)
end Gf
end
section
open Go.RowKit
namespace Gf
open Co Gen Dn
def reTo (x : Ix) (z : Int) : Ix := ⟨x.op, x.a, x.b, x.c, x.n, x.s, z⟩
structure Ext (m m' : Mk) : Prop where
 ins : ∀ (p : Nat) x, m.ins[p]? = some x → ∃ z, m'.ins[p]? = some (reTo x z)
 ws : m.ws <+: m'.ws
section
variable {m m' m'' : Mk}
theorem Ext.refl (m : Mk) : Ext m m := ⟨fun p x h => ⟨x.to, h⟩, List.prefix_refl _⟩
theorem Ext.trans (h : Ext m m') (k : Ext m' m'') : Ext m m'' := ⟨fun p x hx => by
 obtain ⟨t1, h1⟩ := h.ins p x hx
 obtain ⟨t2, h2⟩ := k.ins p _ h1
 exact ⟨t2, h2⟩, h.ws.trans k.ws⟩
theorem Ext.same (h : Ext m m') (h1 : m''.ins = m'.ins) (h2 : m''.ws = m'.ws) : Ext m m'' := ⟨by rw [h1]; exact h.ins, by rw [h2]; exact h.ws⟩
theorem Ext.lay (h : Ext m m') (x : Ix) : Ext m (m'.lay x) := ⟨fun p y hy => by
 obtain ⟨t, h1⟩ := h.ins p y hy
 exact ⟨t, by show (m'.ins ++ [x])[p]? = _; rw [List.getElem?_append_left (List.getElem?_eq_some_iff.1 h1).1]; exact h1⟩, h.ws⟩
theorem here_at (m : Mk) (p q : Nat) : (m.here p).ins[q]? = if p = q then (m.ins[q]?).map fun x => reTo x m.ins.length else m.ins[q]? := by
 show (m.ins.modify p _)[q]? = _
 rw [List.getElem?_modify]
 split
 · rfl
 · simp
theorem Ext.here (h : Ext m m') (p : Nat) : Ext m (m'.here p) := ⟨fun q x hx => by
 obtain ⟨t, h1⟩ := h.ins q x hx
 rw [here_at]
 split
 · exact ⟨m'.ins.length, by rw [h1]; rfl⟩
 · exact ⟨t, h1⟩, h.ws⟩
theorem Ext.reg (h : Ext m m') : Ext m m'.reg := h.same rfl rfl
theorem Ext.back (h : Ext m m') (k : Val → Option Int) : Ext m (m'.back k) := h.same rfl rfl
theorem Ext.free (h : Ext m m') (sh : Bool) (r : Int) : Ext m (m'.free sh r) := h.same (by unfold Mk.free; cases sh <;> rfl) (by unfold Mk.free; cases sh <;> rfl)
theorem Ext.put (h : Ext m m') (v : Val) (r : Int) : Ext m (m'.put v r) := h.same rfl rfl
theorem Ext.fin (h : Ext m m') : Ext m m'.fin := h.lay _
theorem Ext.fresh (h : Ext m m') : Ext m m'.fresh := h.same rfl rfl
theorem Ext.call (h : Ext m m') (t : T) : Ext m (m'.call t) := ⟨(h.lay (ix 29 0 0 m'.ws.length)).ins, h.ws.trans (List.prefix_append _ _)⟩
theorem reckon_ext (sh : Bool) (v : Val) (u : List Nat) (h : Ext m m') : Ext m (zzz sh v m' u).2.1 := by
 unfold zzz
 split
 · exact h
 · exact (h.reg.lay _).put v _
theorem into_ext {o : Ob} (sh : Bool) (out : Int) (h : Ext m o.2.1) : Ext m (into sh out o).1 := (h.lay _).free sh _
end
theorem obs_ext (sh : Bool) (d : Nat) : ∀ (t : T) (m : Mk) (u : List Nat), Ext m (obs sh d t m u).2.1 := by
 induction d with
 | zero => intro t m u; exact Ext.refl m
 | succ d ih =>
   intro t m u
   have hi : ∀ {m0 m' : Mk} (t : T) (u : List Nat) (out : Int), Ext m0 m' → Ext m0 (into sh out (obs sh d t m' u)).1 := fun t u out h => into_ext sh out (h.trans (ih t _ u))
   rw [obs]
   split
   · exact reckon_ext _ _ _ (Ext.refl m)
   split
   · exact reckon_ext _ _ _ (Ext.refl m)
   split
   · exact reckon_ext _ _ _ (Ext.refl m)
   have h1 := hi (t.kid 0) u m.next (Ext.refl m).reg
   split
   · unfold chosen choAnd
     simp only
     exact (((hi _ _ _ (h1.lay _)).back _).here _).free sh _
   split
   · unfold chosen choOr
     simp only
     exact (((hi _ _ _ (((h1.lay _).lay _).here _)).back _).here _).free sh _
   split
   · unfold chosen choIf
     simp only
     exact (((hi _ _ _ ((((hi _ _ _ (h1.lay _)).back _).lay _).here _)).back _).here _).free sh _
   · unfold obsPl
     simp only
     have g1 := ih (t.kid 0) m u
     generalize obs sh d (t.kid 0) m u = A at *
     have h2 : ∀ b : Ob, b = (if 1 < t.ks.length then obs sh d (t.kid 1) A.2.1 A.2.2 else (0, A.2.1, A.2.2)) → Ext m b.2.1 := by
       rintro b rfl
       split
       · exact g1.trans (ih (t.kid 1) A.2.1 A.2.2)
       · exact g1
     split
     · exact reckon_ext _ _ _ (h2 _ rfl)
     · exact ((h2 _ rfl).lay _).free sh _
theorem con_ext (sh : Bool) (d : Nat) : ∀ (t : T) (m : Mk), Ext m (con sh d t m) := by
 induction d with
 | zero => intro t m; exact Ext.refl m
 | succ d ih =>
   intro t m
   have hi : ∀ {m0 m' : Mk} (t : T), Ext m0 m' → Ext m0 (con sh d t m') := fun t h => h.trans (ih t _)
   have ho : ∀ {m0 m' : Mk} (t : T), Ext m0 m' → Ext m0 (obs sh d t m' []).2.1 := fun t h => h.trans (obs_ext sh d t _ [])
   rw [con]
   split
   · exact (Ext.refl m).call t
   · refine Ext.free ?_ sh _
     split
     · exact (Ext.refl m).lay _
     split
     · exact hi _ ((Ext.refl m).lay _)
     split
     · exact hi _ ((hi _ ((Ext.refl m).reg.lay _)).lay _)
     split
     · simp only
       exact hi _ ((ho _ (Ext.refl m)).lay _)
     split
     · simp only
       unfold zqf
       simp only
       exact ((hi _ ((((hi _ ((ho _ (Ext.refl m)).lay _)).back _).lay _).here _)).back _).here _
     · exact Ext.refl m
def pendW : List (Nat × T) → Nat
 | [] => 0
 | x :: r => (manyT x.2 - 1) + pendW r
theorem pendW_append (a b : List (Nat × T)) : pendW (a ++ b) = pendW a + pendW b := by
 induction a with
 | nil => simp [pendW]
 | cons x r ih => rw [List.cons_append, pendW, pendW, ih]; omega
def wsum (s : List (Nat × T) × Nat) : Nat := s.2 + pendW s.1
theorem waits_many {t : T} (h : zzq t = true) : 1 ≤ manyT t := by
 obtain ⟨op, n, s, ks⟩ := t
 rw [many_mk, if_pos h]
 omega
theorem wsum_call (m : Mk) {t : T} (h : zzq t = true) : wsum (jw (m.call t)) = wsum (jw m) + manyT t := by
 have := waits_many h
 show (m.ws ++ [_]).length + pendW (m.jobs ++ [(m.ws.length, t)]) = m.ws.length + pendW m.jobs + manyT t
 rw [pendW_append, List.length_append]
 simp [pendW]
 omega
theorem con_many (sh : Bool) (d : Nat) : ∀ (t : T) (m : Mk), t.letter = 99 → wsum (jw (con sh d t m)) ≤ wsum (jw m) + manyT t := by
 induction d with
 | zero => intro t m _; exact Nat.le_add_right _ _
 | succ d ih =>
   intro t m hx
   cases hw : zzq t with
   | true => rw [con_call hw, wsum_call m hw]; exact Nat.le_refl _
   | false =>
     obtain ⟨op, n, s, ks⟩ := t
     have hz : manyT (T.mk op n s ks) = zzi ks := by rw [many_mk, if_neg (by rw [hw]; decide), Nat.zero_add]
     obtain ⟨w1, w2, w3, w4⟩ := waits_op hw
     rcases zzw hx with (⟨rfl, rfl⟩ | ⟨rfl, rfl⟩) | ⟨h1, a, rfl, ha⟩ | ⟨rfl, o, a, rfl, ho, ha⟩ | ⟨h1, a, b, rfl, ha, hb⟩ | ⟨rfl, o, a, b, rfl, ho, ha, hb⟩ | ⟨rfl, o, a, rfl, ho, ha⟩
     · rw [con_zero hw rfl, zqg]; omega
     · rw [con_pay hw rfl, zqg, zzm]; omega
     · rcases h1 with rfl | rfl
       · rw [con_give hw rfl, kid0, zqg]
         have := ih a (m.lay (ix 24 0 0 0)) ha
         rw [zzm] at this
         simp only [zzi] at hz
         omega
       · exact absurd rfl w1
     · rw [con_scale hw rfl, kid0, kid1, zqg]
       have := ih a ((obs sh d o m []).2.1.lay (ix 23 0 (obs sh d o m []).1 0)) ha
       rw [zzm, jw_obs] at this
       simp only [zzi] at hz
       omega
     · rcases h1 with rfl | rfl
       · rw [con_both hw rfl, kid0, kid1, zqg]
         have h1 := ih a (m.reg.lay (ix 25 m.next 0 0)) ha
         rw [zzm, jw_reg] at h1
         generalize con sh d a (m.reg.lay (ix 25 m.next 0 0)) = C at *
         have h2 := ih b (C.lay (ix 26 0 m.next 0)) hb
         rw [zzm] at h2
         simp only [zzi] at hz
         omega
       · exact absurd rfl w3
     · rw [con_if hw rfl, kid0, zqg]
       have hjo := jw_obs sh d o m []
       generalize obs sh d o m [] = O at *
       unfold zqf
       simp only [kid1, kid2, zqb, jw_back]
       have h1 := ih a (O.2.1.lay (ix 19 0 O.1 0)) ha
       rw [zzm, hjo] at h1
       generalize con sh d a (O.2.1.lay (ix 19 0 O.1 0)) = C at *
       have h2 := ih b (((C.back (O.2.1.lay (ix 19 0 O.1 0)).known).lay (ix 20 0 0 0)).here O.2.1.ins.length) hb
       rw [zqb, zzm, jw_back] at h2
       simp only [zzi] at hz
       omega
     · exact absurd rfl w2
theorem wait_many (sh : Bool) (j : Nat) (t : T) (m : Mk) (hx : t.letter = 99) (hw : zzq t = true) : wsum (jw (wait sh j t m)) + 1 ≤ wsum (jw m) + manyT t := by
 obtain ⟨op, n, s, ks⟩ := t
 have hz : manyT (T.mk op n s ks) = 1 + zzi ks := by rw [many_mk, if_pos hw]
 rcases zzw hx with (⟨rfl, rfl⟩ | ⟨rfl, rfl⟩) | ⟨h1, a, rfl, ha⟩ | ⟨rfl, o, a, rfl, ho, ha⟩ | ⟨h1, a, b, rfl, ha, hb⟩ | ⟨rfl, o, a, b, rfl, ho, ha, hb⟩ | ⟨rfl, o, a, rfl, ho, ha⟩
 · rw [zzn (by omega)] at hw; cases hw
 · rw [zzn (by omega)] at hw; cases hw
 · rcases h1 with rfl | rfl
   · rw [zzn (by omega)] at hw; cases hw
   · rw [wait_at rfl, kid0, jw_again]
     have := con_many sh 200 a (((zze j m).setW j fun w => { w with day := (T.mk 29 n s [a]).n }).lay (ix 22 0 0 (T.mk 29 n s [a]).n)) ha
     rw [zzm, jw_setW, zqi] at this
     simp only [zzi] at hz
     omega
 · rw [wait_scale rfl, kid0, kid1, jw_again]
   have := con_many sh 200 a ((obs sh 200 o (zze j m) []).2.1.lay (ix 23 0 (obs sh 200 o (zze j m) []).1 0)) ha
   rw [zzm, jw_obs, zqi] at this
   simp only [zzi] at hz
   omega
 · rcases h1 with rfl | rfl
   · rw [zzn (by omega)] at hw; cases hw
   · rw [wait_pick rfl]
     obtain ⟨A, C, B, D, hA, hC, hB, hD, e⟩ := pick_parts sh j (T.mk 31 n s [a, b]) (zze j m)
     rw [kid0] at hC
     rw [kid1] at hD
     have h1 := con_many sh 200 a (A.lay (ix 21 0 0 (T.mk 31 n s [a, b]).n)) ha
     have h2 := con_many sh 200 b B.fresh hb
     rw [← hC, zzm, hA, jw_fin, zzm, zzm, zqi] at h1
     rw [← hD, jw_fresh, hB, zqb, zqb, jw_fin] at h2
     rw [e, jw_setW, jw_fin]
     simp only [zzi] at hz
     omega
 · rw [wait_if rfl, kid0, jw_again]
   have hjo := jw_obs sh 200 o (zze j m) []
   rw [zqi] at hjo
   generalize obs sh 200 o (zze j m) [] = O at *
   obtain ⟨A, B, C, D, hA, hB, hC, hD, e⟩ := zqp (con sh 200) O.1 (T.mk 28 n s [o, a, b]) O.2.1
   rw [kid1] at hB
   rw [kid2] at hD
   have h1 := con_many sh 200 a A ha
   have h2 := con_many sh 200 b C hb
   rw [← hB, hA, zzm, hjo] at h1
   rw [← hD, hC, zqb, zzm, jw_back] at h2
   rw [e, zqb, jw_back]
   simp only [zzi] at hz
   omega
 · rw [wait_when rfl, kid0, kid1, jw_again, zqb]
   have hjo := jw_obs sh 200 o (((zze j m).setW j fun w => { w with day := (T.mk 30 n s [o, a]).n + 1 }).lay (ix 21 0 0 (T.mk 30 n s [o, a]).n)) []
   rw [zzm, jw_setW, zqi] at hjo
   generalize obs sh 200 o _ [] = O at *
   have := con_many sh 200 a (O.2.1.lay (ix 19 0 O.1 0)) ha
   rw [zzm, hjo] at this
   simp only [zzi] at hz
   omega
end Gf
end
section
open Go.RowKit
namespace Gf
open Co Gen Dn
theorem wait_in {sh : Bool} {j : Nat} {t : T} {m m' : Mk} (e : zze j m = zze j m') : wait sh j t m = wait sh j t m' := by
 by_cases h29 : t.op = 29
 · rw [wait_at h29, wait_at h29, e]
 by_cases h30 : t.op = 30
 · rw [wait_when h30, wait_when h30, e]
 by_cases h26 : t.op = 26
 · rw [wait_scale h26, wait_scale h26, e]
 by_cases h28 : t.op = 28
 · rw [wait_if h28, wait_if h28, e]
 by_cases h31 : t.op = 31
 · rw [wait_pick h31, wait_pick h31, e]
 · rw [wait_none h29 h30 h26 h28 h31, wait_none h29 h30 h26 h28 h31, e]
structure St (k : Nat) (m : Mk) : Prop where
 jobs : JobsOk (jw m)
 len : m.ins.length + m.ws.length + pend m.jobs ≤ k
 rg : 0 ≤ m.regs ∧ m.regs ≤ m.ins.length
 pt : m.puts ≤ m.ins.length
 nx : 0 ≤ m.next ∧ m.next ≤ m.ins.length
def zqa (m : Mk) (r : List (Nat × T)) : Mk := { m with jobs := r }
section
variable {k : Nat} {m : Mk} {j : Nat} {t : T} {r : List (Nat × T)}
theorem St.job (h : St k m) (e : m.jobs = (j, t) :: r) : j < m.ws.length ∧ t.letter = 99 ∧ zzq t = true ∧ t.depth ≤ 200 := h.jobs (j, t) (by show _ ∈ m.jobs; rw [e]; exact List.mem_cons_self ..)
theorem St.fit (h : St k m) (e : m.jobs = (j, t) :: r) : Fit (m.ins.length + m.ws.length + pend r) (zqa m r).fresh ∧ m.ins.length + m.ws.length + pend r + (8 * t.size - 2) ≤ k := by
 have h1 := h.len
 rw [e, pend] at h1
 have h2 := h.rg
 have h3 := h.pt
 refine ⟨⟨Nat.le_refl _, ?_, ?_, ?_, fun v x hx => by cases hx⟩, by simp only at h1; omega⟩
 · show (0 : Int) ≤ 0 ∧ (0 : Int) ≤ _; omega
 · show 0 ≤ m.regs ∧ m.regs ≤ _; omega
 · show m.puts ≤ _; omega
theorem wait_fresh (sh : Bool) : wait sh j t (zqa m r) = wait sh j t (zqa m r).fresh := wait_in rfl
theorem St.next (h : St k m) (e : m.jobs = (j, t) :: r) (sh : Bool) : St k (wait sh j t (zqa m r)) := by
 obtain ⟨hj, hx, hw, hd⟩ := h.job e
 obtain ⟨hf, hk⟩ := h.fit e
 have hf2 := wait_fit sh j t hf hx hw
 rw [← wait_fresh] at hf2
 have hg := wait_gr sh j t (zqa m r)
 have hl : (zze j (zqa m r)).ins.length = m.ins.length := rfl
 have hn : (zze j (zqa m r)).next = 0 := rfl
 have hr : (zze j (zqa m r)).regs = m.regs := rfl
 have hp : (zze j (zqa m r)).puts = m.puts := rfl
 have g1 := hg.ln
 have g2 := hg.rg
 have g3 := hg.pt
 have g4 := hg.nx
 have g5 := hg.sl
 rw [hl] at g1 g2 g3 g4 g5
 rw [hn] at g2 g4
 rw [hr] at g2
 rw [hp] at g3
 have h2 := h.rg
 have h3 := h.pt
 have h4 := hf2.rg
 have h6 := hf2.nx
 refine ⟨jobs_wait sh j t (zqa m r) hx hw hd ?_, by have := hf2.len; omega, by omega, by omega, by omega⟩
 intro x hxm
 exact h.jobs x (by show x ∈ m.jobs; rw [e]; exact List.mem_cons_of_mem _ hxm)
theorem St.tot (h : St k m) (e : m.jobs = (j, t) :: r) (sh : Bool) : Gf.tot (wait sh j t (zqa m r)).jobs + 1 ≤ Gf.tot m.jobs := by
 obtain ⟨hj, hx, hw, hd⟩ := h.job e
 have := wait_tot sh j t (zqa m r) hx hw
 rw [e, Gf.tot]
 have h1 : (jw (zqa m r)).1 = r := rfl
 rw [h1] at this
 show Gf.tot (jw (wait sh j t (zqa m r))).1 + 1 ≤ t.size + Gf.tot r
 omega
end
theorem run_cons {sh : Bool} {n : Nat} {m : Mk} {j : Nat} {t : T} {r : List (Nat × T)} (e : m.jobs = (j, t) :: r) : run sh (n + 1) m = run sh n (wait sh j t (zqa m r)) := by
 rw [run]
 split
 · rename_i h; rw [e] at h; cases h
 · rename_i j' t' r' h
   rw [e] at h
   cases h
   rfl
theorem run_nil {sh : Bool} {n : Nat} {m : Mk} (e : m.jobs = []) : run sh n m = m := by
 cases n with
 | zero => rfl
 | succ n =>
   rw [run]
   split
   · rfl
   · rename_i h; rw [e] at h; cases h
theorem run_ind {P : Mk → Prop} (sh : Bool) {k : Nat} (hP : ∀ m j t r, St k m → P m → m.jobs = (j, t) :: r → P (wait sh j t (zqa m r))) : ∀ (n : Nat) (m : Mk), St k m → P m → Gf.tot m.jobs ≤ n → P (run sh n m) ∧ St k (run sh n m) ∧ (run sh n m).jobs = [] := by
 intro n
 induction n with
 | zero =>
   intro m h hp hn
   have e : m.jobs = [] := by
     cases hj : m.jobs with
     | nil => rfl
     | cons x r => rw [hj, Gf.tot] at hn; have := size_pos x.2; omega
   rw [run_nil e]
   exact ⟨hp, h, e⟩
 | succ n ih =>
   intro m h hp hn
   cases hj : m.jobs with
   | nil => rw [run_nil hj]; exact ⟨hp, h, hj⟩
   | cons x r =>
     obtain ⟨j, t⟩ := x
     rw [run_cons hj]
     have := h.tot hj sh
     exact ih _ (h.next hj sh) (hP m j t r h hp hj) (by omega)
theorem st_first (sh : Bool) (t : T) (hx : t.letter = 99) (hd : t.depth ≤ 200) : St (8 * t.size + 1) (con sh 200 t mk0).fin ∧ Gf.tot (con sh 200 t mk0).fin.jobs ≤ t.size := by
 have h0 : Fit 0 mk0 := ⟨Nat.le_refl _, by decide, by decide, Nat.le_refl _, fun v r e => by cases e⟩
 have hf := (zzx sh 200 t mk0 0 hx h0).fin
 have hg := (con_gr sh 200 t mk0).fin
 have ht := con_tot sh 200 t mk0 hx
 have hj := jobs_con sh 200 t mk0 hx hd (fun x hx => by cases hx)
 have g1 := hg.ln
 have g2 := hg.rg
 have g3 := hg.pt
 have g4 := hg.nx
 have e1 : mk0.ins.length = 0 := rfl
 have e2 : mk0.regs = 0 := rfl
 have e3 : mk0.next = 0 := rfl
 have e4 : mk0.puts = 0 := rfl
 rw [e1] at g1 g2 g3 g4
 rw [e2, e3] at g2
 rw [e3] at g4
 rw [e4] at g3
 have h4 := hf.rg
 have h6 := hf.nx
 have h5 := hf.len
 have e5 : (jw mk0).1 = [] := rfl
 rw [e5, Gf.tot] at ht
 refine ⟨⟨hj, by omega, by omega, by omega, by omega⟩, ?_⟩
 show Gf.tot (jw (con sh 200 t mk0)).1 ≤ _
 omega
end Gf
end
end Go.Proofs.YtanlmbbalamgkaaGreatDoor

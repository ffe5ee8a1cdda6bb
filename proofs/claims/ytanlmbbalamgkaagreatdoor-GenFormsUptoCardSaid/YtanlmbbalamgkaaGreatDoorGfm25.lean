/- Proved: lemmas and contracts of the functions that the law reaches, part 25 of 31: GfRt, GfRt2, GfRight, GfRight2. Conditions: as each states. -/
import Derived.Test.YtanlmbbalamgkaaGreatDoorGfm23
namespace Go.Proofs.YtanlmbbalamgkaaGreatDoor
set_option linter.unusedVariables false
set_option linter.unusedSimpArgs false
section
open Go.RowKit
namespace Gf
open Co Gen Dn
def numF (W : Nat) (x : Ix) : Bool :=
 if x.op = 1 then within x.n (-1000000000000000) 1000000000000000
 else if x.op = 2 ∨ x.op = 3 then within x.n 0 3660
 else if x.op = 21 ∨ x.op = 22 then within x.n 0 73048
 else if x.op = 28 ∨ x.op = 29 then within x.n 0 (W - 1)
 else decide (x.n = 0)
def ixF (R : Int) (W : Nat) (x : Ix) : Bool := decide (1 ≤ x.op) && (decide (x.op ≤ 30) && (fld (useA x.op) x.a R && (fld (useB x.op) x.b R && (fld (useC x.op) x.c R && (numF W x && textOk x)))))
theorem fld_mono {u : Bool} {r R R' : Int} (h : fld u r R = true) (hR : R ≤ R') : fld u r R' = true := by
 unfold fld at *
 cases u
 · exact h
 · simp only [if_true, Bool.and_eq_true, decide_eq_true_eq] at *; omega
theorem numF_mono {W W' : Nat} {x : Ix} (h : numF W x = true) (hW : W ≤ W') : numF W' x = true := by
 unfold numF within at *
 repeat' split at h
 all_goals first
   | (rename_i h1; rw [if_pos h1]; exact h)
   | skip
 · rename_i h1 h2; rw [if_neg h1, if_pos h2]; exact h
 · rename_i h1 h2 h3; rw [if_neg h1, if_neg h2, if_pos h3]; exact h
 · rename_i h1 h2 h3 h4; rw [if_neg h1, if_neg h2, if_neg h3, if_pos h4]; simp only [Bool.and_eq_true, decide_eq_true_eq] at *; omega
 · rename_i h1 h2 h3 h4; rw [if_neg h1, if_neg h2, if_neg h3, if_neg h4]; exact h
theorem ixF_mono {R R' : Int} {W W' : Nat} {x : Ix} (h : ixF R W x = true) (hR : R ≤ R') (hW : W ≤ W') : ixF R' W' x = true := by
 unfold ixF at *
 simp only [Bool.and_eq_true, decide_eq_true_eq] at *
 obtain ⟨h1, h2, h3, h4, h5, h6, h7⟩ := h
 exact ⟨h1, h2, fld_mono h3 hR, fld_mono h4 hR, fld_mono h5 hR, numF_mono h6 hW, h7⟩
def toF (L p : Nat) (o : Prop) (x : Ix) : Prop := if useT x.op = true then o ∨ ((p : Int) < x.to ∧ x.to ≤ L) else x.to = 0
theorem toF_mono {L L' p : Nat} {o o' : Prop} {x : Ix} (h : toF L p o x) (hL : L ≤ L') (ho : o → o') : toF L' p o' x := by
 unfold toF at *
 split at h
 · rename_i e; rw [if_pos e]; exact h.imp ho (fun h => by omega)
 · rename_i e; rw [if_neg e]; exact h
def wt0 : Wt := ⟨0, 0, txt0, 0, 0⟩
structure WOk (L : Nat) (w : Wt) : Prop where
 e : 0 ≤ w.entry ∧ w.entry < L
 d : 0 ≤ w.day ∧ w.day ≤ 73048
 l : (w.label = txt0 ∧ w.first = 0 ∧ w.second = 0) ∨ (Led.isName w.label = true ∧ (0 ≤ w.first ∧ w.first < L) ∧ 0 ≤ w.second ∧ w.second < L)
theorem WOk.mono {L L' : Nat} {w : Wt} (h : WOk L w) (hL : L ≤ L') : WOk L' w := ⟨by have := h.e; omega, h.d, h.l.imp id fun h => ⟨h.1, by have := h.2.1; omega, by have := h.2.2; omega⟩⟩
def Pending (m : Mk) (j : Nat) : Prop := ∃ x ∈ m.jobs, x.1 = j
structure Rt (O Fl : Nat → Prop) (m : Mk) : Prop where
 ins : ∀ (p : Nat) x, m.ins[p]? = some x → ixF m.regs m.ws.length x = true ∧ toF m.ins.length p (O p) x
 calls : ∀ (p : Nat) x, m.ins[p]? = some x → x.op = 29 → ∃ j : Nat, x.n = j ∧ (Pending m j ∨ ∃ w, m.ws[j]? = some w ∧ (p : Int) < w.entry)
 waits : ∀ (j : Nat) w, m.ws[j]? = some w → Pending m j ∨ Fl j ∨ WOk m.ins.length w
 jobs : ∀ x ∈ m.jobs, m.ws[x.1]? = some wt0
 nd : (m.jobs.map Prod.fst).Nodup
section
variable {O O' Fl Fl' : Nat → Prop} {m m' : Mk}
theorem Rt.weak (h : Rt O Fl m) (ho : ∀ q, O q → O' q) : Rt O' Fl m := ⟨fun p x hx => ⟨(h.ins p x hx).1, toF_mono (h.ins p x hx).2 (Nat.le_refl _) (ho p)⟩, h.calls, h.waits, h.jobs, h.nd⟩
theorem Rt.same (h : Rt O Fl m) (h1 : m'.ins = m.ins) (h2 : m'.ws = m.ws) (h3 : m'.jobs = m.jobs) (h4 : m.regs ≤ m'.regs) : Rt O Fl m' := by
 have hp : ∀ j, Pending m j → Pending m' j := fun j ⟨x, hx, e⟩ => ⟨x, by rw [h3]; exact hx, e⟩
 refine ⟨fun p x hx => ?_, fun p x hx ho => ?_, fun j w hw => ?_, fun x hx => ?_, by rw [h3]; exact h.nd⟩
 · rw [h1] at hx
   have := h.ins p x hx
   rw [h1, h2]
   exact ⟨ixF_mono this.1 h4 (Nat.le_refl _), this.2⟩
 · rw [h1] at hx
   obtain ⟨j, e, h5⟩ := h.calls p x hx ho
   exact ⟨j, e, h5.imp (hp j) (by rw [h2]; exact id)⟩
 · rw [h2] at hw
   rw [h1]
   exact (h.waits j w hw).imp (hp j) id
 · rw [h3] at hx
   rw [h2]
   exact h.jobs x hx
theorem Rt.lay (h : Rt O Fl m) {x : Ix} (hx : ixF m.regs m.ws.length x = true) (ht : toF (m.ins.length + 1) m.ins.length (O m.ins.length) x) (ho : x.op ≠ 29) : Rt O Fl (m.lay x) := by
 have hl := zzf m x
 have hat : ∀ (p : Nat) y, (m.lay x).ins[p]? = some y → m.ins[p]? = some y ∨ (p = m.ins.length ∧ y = x) := by
   intro p y hy
   have hy' : (m.ins ++ [x])[p]? = some y := hy
   by_cases hp : p < m.ins.length
   · rw [List.getElem?_append_left hp] at hy'
     exact .inl hy'
   · have hlt := (List.getElem?_eq_some_iff.1 hy').1
     simp at hlt
     obtain rfl : p = m.ins.length := by omega
     simp at hy'
     exact .inr ⟨rfl, hy'.symm⟩
 refine ⟨fun p y hy => ?_, fun p y hy hop => ?_, fun j w hw => ?_, h.jobs, h.nd⟩
 · rcases hat p y hy with h1 | ⟨rfl, rfl⟩
   · have := h.ins p y h1
     exact ⟨this.1, toF_mono this.2 (by omega) id⟩
   · exact ⟨hx, by rw [hl]; exact ht⟩
 · rcases hat p y hy with h1 | ⟨rfl, rfl⟩
   · exact h.calls p y h1 hop
   · exact absurd hop ho
 · exact (h.waits j w hw).imp id fun h => h.imp id fun h => h.mono (by omega)
theorem Rt.jump (h : Rt O Fl m) {x : Ix} (hx : ixF m.regs m.ws.length x = true) (ht : useT x.op = true) (ho : x.op ≠ 29) : Rt (fun q => O q ∨ q = m.ins.length) Fl (m.lay x) :=
 (h.weak fun q hq => .inl hq).lay hx (by unfold toF; rw [if_pos ht]; exact .inl (.inr rfl)) ho
theorem Rt.plain (h : Rt O Fl m) {x : Ix} (hx : ixF m.regs m.ws.length x = true) (ht : useT x.op = false) (h0 : x.to = 0) (ho : x.op ≠ 29) : Rt O Fl (m.lay x) :=
 h.lay hx (by unfold toF; rw [if_neg (by rw [ht]; decide)]; exact h0) ho
def OpenAt (m : Mk) (p : Nat) : Prop := ∃ x, m.ins[p]? = some x ∧ useT x.op = true
theorem OpenAt.ext {p : Nat} (h : OpenAt m p) (e : Ext m m') : OpenAt m' p := by
 obtain ⟨x, h1, h2⟩ := h
 obtain ⟨t, h3⟩ := e.ins p x h1
 exact ⟨_, h3, h2⟩
theorem OpenAt.lay (m : Mk) {x : Ix} (h : useT x.op = true) : OpenAt (m.lay x) m.ins.length := ⟨x, by show (m.ins ++ [x])[m.ins.length]? = _; simp, h⟩
theorem OpenAt.lt {p : Nat} (h : OpenAt m p) : p < m.ins.length := by
 obtain ⟨x, h1, -⟩ := h
 exact (List.getElem?_eq_some_iff.1 h1).1
theorem Rt.here (h : Rt O Fl m) {p : Nat} (hp : OpenAt m p) : Rt (fun q => O q ∧ q ≠ p) Fl (m.here p) := by
 have hl := zzh m p
 have hlt := hp.lt
 refine ⟨fun q y hy => ?_, fun q y hy hop => ?_, fun j w hw => ?_, h.jobs, h.nd⟩
 · rw [here_at] at hy
   rw [hl]
   split at hy
   · rename_i e
     subst e
     obtain ⟨x, h1, h2⟩ := hp
     rw [h1] at hy
     simp only [Option.map_some, Option.some.injEq] at hy
     subst hy
     refine ⟨(h.ins p x h1).1, ?_⟩
     unfold toF
     rw [if_pos (by exact h2)]
     refine .inr ⟨?_, ?_⟩
     · show (p : Int) < (m.ins.length : Int); omega
     · show (m.ins.length : Int) ≤ _; omega
   · rename_i e
     exact ⟨(h.ins q y hy).1, toF_mono (h.ins q y hy).2 (Nat.le_refl _) fun h => ⟨h, fun e2 => e e2.symm⟩⟩
 · rw [here_at] at hy
   split at hy
   · rename_i e
     subst e
     obtain ⟨x, h1, h2⟩ := hp
     rw [h1] at hy
     simp only [Option.map_some, Option.some.injEq] at hy
     subst hy
     exact h.calls p x h1 hop
   · exact h.calls q y hy hop
 · rw [hl]
   exact h.waits j w hw
theorem Rt.call (h : Rt O Fl m) (t : T) : Rt O Fl (m.call t) := by
 have hlen : (m.call t).ins.length = m.ins.length + 1 := by simp [Mk.call]
 have hws : (m.call t).ws.length = m.ws.length + 1 := by simp [Mk.call]
 have hp : ∀ j, Pending m j → Pending (m.call t) j := fun j ⟨x, hx, e⟩ => ⟨x, List.mem_append_left _ hx, e⟩
 have hold : ∀ (j : Nat) w, m.ws[j]? = some w → (m.call t).ws[j]? = some w := fun j w hw => by
   show (m.ws ++ [wt0])[j]? = _
   rw [List.getElem?_append_left (List.getElem?_eq_some_iff.1 hw).1]
   exact hw
 have hnew : Pending (m.call t) m.ws.length := ⟨(m.ws.length, t), List.mem_append_right _ (by simp), rfl⟩
 have hat : ∀ (p : Nat) y, (m.call t).ins[p]? = some y → m.ins[p]? = some y ∨ (p = m.ins.length ∧ y = ix 29 0 0 m.ws.length) := by
   intro p y hy
   have hy' : (m.ins ++ [ix 29 0 0 m.ws.length])[p]? = some y := hy
   by_cases hp : p < m.ins.length
   · rw [List.getElem?_append_left hp] at hy'
     exact .inl hy'
   · have hlt := (List.getElem?_eq_some_iff.1 hy').1
     simp at hlt
     obtain rfl : p = m.ins.length := by omega
     simp at hy'
     exact .inr ⟨rfl, hy'.symm⟩
 refine ⟨fun p y hy => ?_, fun p y hy hop => ?_, fun j w hw => ?_, fun x hx => ?_, ?_⟩
 · rw [hlen, hws]
   rcases hat p y hy with h1 | ⟨rfl, rfl⟩
   · exact ⟨ixF_mono (h.ins p y h1).1 (Int.le_refl _) (by omega), toF_mono (h.ins p y h1).2 (by omega) id⟩
   · refine ⟨?_, ?_⟩
     · simp [ixF, ix, fld, useA, useB, useC, numF, textOk, txt0, within]
     · unfold toF
       rw [if_neg (by simp [ix, useT])]
       rfl
 · rcases hat p y hy with h1 | ⟨rfl, rfl⟩
   · obtain ⟨j, e, h2⟩ := h.calls p y h1 hop
     exact ⟨j, e, h2.imp (hp j) fun ⟨w, h3, h4⟩ => ⟨w, hold j w h3, h4⟩⟩
   · exact ⟨m.ws.length, rfl, .inl hnew⟩
 · have hw' : (m.ws ++ [wt0])[j]? = some w := hw
   by_cases hj : j < m.ws.length
   · rw [List.getElem?_append_left hj] at hw'
     rw [hlen]
     exact (h.waits j w hw').imp (hp j) fun h => h.imp id fun h => h.mono (by omega)
   · have hlt := (List.getElem?_eq_some_iff.1 hw').1
     simp at hlt
     obtain rfl : j = m.ws.length := by omega
     exact .inl hnew
 · rcases List.mem_append.1 hx with h1 | h1
   · exact hold _ _ (h.jobs x h1)
   · rw [List.mem_singleton] at h1
     subst h1
     show (m.ws ++ [wt0])[m.ws.length]? = _
     simp
 · show ((m.jobs ++ [(m.ws.length, t)]).map Prod.fst).Nodup
   rw [List.map_append, List.nodup_append]
   refine ⟨h.nd, by simp, fun a ha b hb => ?_⟩
   simp at hb
   subst hb
   obtain ⟨x, hx, rfl⟩ := List.mem_map.1 ha
   have := (List.getElem?_eq_some_iff.1 (h.jobs x hx)).1
   omega
end
/-! What instructions are. -/
section
variable {R : Int} {W : Nat} {a b n : Int}
theorem f18 (ha : 0 ≤ a ∧ a < R) (hb : 0 ≤ b ∧ b < R) : ixF R W (ix 18 a b 0) = true := by
 simp [ixF, ix, fld, useA, useB, useC, numF, textOk, txt0]
 repeat' apply And.intro
 all_goals first | omega | exact decide_eq_true (by omega)
theorem f19 (hb : 0 ≤ b ∧ b < R) : ixF R W (ix 19 0 b 0) = true := by
 simp [ixF, ix, fld, useA, useB, useC, numF, textOk, txt0]
 repeat' apply And.intro
 all_goals first | omega | exact decide_eq_true (by omega)
theorem f20 : ixF R W (ix 20 0 0 0) = true := by
 simp [ixF, ix, fld, useA, useB, useC, numF, textOk, txt0]
theorem f21 (hn : 0 ≤ n ∧ n ≤ 73048) : ixF R W (ix 21 0 0 n) = true := by
 simp [ixF, ix, fld, useA, useB, useC, numF, textOk, txt0, within]
 repeat' apply And.intro
 all_goals first | omega | exact decide_eq_true (by omega)
theorem f22 (hn : 0 ≤ n ∧ n ≤ 73048) : ixF R W (ix 22 0 0 n) = true := by
 simp [ixF, ix, fld, useA, useB, useC, numF, textOk, txt0, within]
 repeat' apply And.intro
 all_goals first | omega | exact decide_eq_true (by omega)
theorem f23 (hb : 0 ≤ b ∧ b < R) : ixF R W (ix 23 0 b 0) = true := by
 simp [ixF, ix, fld, useA, useB, useC, numF, textOk, txt0]
 repeat' apply And.intro
 all_goals first | omega | exact decide_eq_true (by omega)
theorem f24 : ixF R W (ix 24 0 0 0) = true := by
 simp [ixF, ix, fld, useA, useB, useC, numF, textOk, txt0]
theorem f25 (ha : 0 ≤ a ∧ a < R) : ixF R W (ix 25 a 0 0) = true := by
 simp [ixF, ix, fld, useA, useB, useC, numF, textOk, txt0]
 repeat' apply And.intro
 all_goals first | omega | exact decide_eq_true (by omega)
theorem f26 (hb : 0 ≤ b ∧ b < R) : ixF R W (ix 26 0 b 0) = true := by
 simp [ixF, ix, fld, useA, useB, useC, numF, textOk, txt0]
 repeat' apply And.intro
 all_goals first | omega | exact decide_eq_true (by omega)
theorem f27 {s : ByteArray} (hs : Led.isCur s = true) : ixF R W ⟨27, 0, 0, 0, 0, s, 0⟩ = true := by
 simp [ixF, ix, fld, useA, useB, useC, numF, textOk, txt0, hs]
theorem f28 {j : Nat} (hj : j < W) : ixF R W (ix 28 0 0 j) = true := by
 simp [ixF, ix, fld, useA, useB, useC, numF, textOk, txt0, within]
 repeat' apply And.intro
 all_goals first | omega | exact decide_eq_true (by omega)
theorem f30 : ixF R W (ix 30 0 0 0) = true := by
 simp [ixF, ix, fld, useA, useB, useC, numF, textOk, txt0]
theorem f1 (ha : 0 ≤ a ∧ a < R) (hn : -1000000000000000 ≤ n ∧ n ≤ 1000000000000000) : ixF R W ⟨1, a, 0, 0, n, txt0, 0⟩ = true := by
 simp [ixF, ix, fld, useA, useB, useC, numF, textOk, txt0, within]
 repeat' apply And.intro
 all_goals first | omega | exact decide_eq_true (by omega)
theorem f2 {s : ByteArray} (ha : 0 ≤ a ∧ a < R) (hn : 0 ≤ n ∧ n ≤ 3660) (hs : Led.isName s = true) : ixF R W ⟨2, a, 0, 0, n, s, 0⟩ = true := by
 simp [ixF, ix, fld, useA, useB, useC, numF, textOk, txt0, within, hs]
 repeat' apply And.intro
 all_goals first | omega | exact decide_eq_true (by omega)
theorem f3 (ha : 0 ≤ a ∧ a < R) (hn : 0 ≤ n ∧ n ≤ 3660) : ixF R W ⟨3, a, 0, 0, n, txt0, 0⟩ = true := by
 simp [ixF, ix, fld, useA, useB, useC, numF, textOk, txt0, within]
 repeat' apply And.intro
 all_goals first | omega | exact decide_eq_true (by omega)
theorem fone {op : Int} (ho : op = 4 ∨ op = 12) (ha : 0 ≤ a ∧ a < R) : ixF R W ⟨op, a, a, 0, 0, txt0, 0⟩ = true := by
 rcases ho with rfl | rfl <;> (simp [ixF, ix, fld, useA, useB, useC, numF, textOk, txt0]; repeat' apply And.intro) <;> first | omega | exact decide_eq_true (by omega)
theorem ftwo {op : Int} (ho : op = 5 ∨ op = 6 ∨ op = 7 ∨ op = 8 ∨ op = 9 ∨ op = 10 ∨ op = 11 ∨ op = 13 ∨ op = 14 ∨ op = 15 ∨ op = 16 ∨ op = 17) (ha : 0 ≤ a ∧ a < R) (hb : 0 ≤ b ∧ b < R) : ixF R W ⟨op, a, a, b, 0, txt0, 0⟩ = true := by
 rcases ho with rfl | rfl | rfl | rfl | rfl | rfl | rfl | rfl | rfl | rfl | rfl | rfl <;> (simp [ixF, ix, fld, useA, useB, useC, numF, textOk, txt0]; repeat' apply And.intro) <;> first | omega | exact decide_eq_true (by omega)
end
end Gf
end
section
open Go.RowKit
namespace Gf
open Co Gen Dn
theorem ahead_kids {op n : Int} {s : ByteArray} {ks : List T} (h : (T.mk op n s ks).ahead = false) : (op = 4 ∨ op = 5 → 0 ≤ n) ∧ ∀ k ∈ ks, k.ahead = false := by
 unfold T.ahead at h ⊢
 rw [T.nodes, List.any_cons, Bool.or_eq_false_iff] at h
 refine ⟨fun ho => ?_, fun k hk => ?_⟩
 · have h1 := h.1
   rw [Bool.and_eq_false_iff] at h1
   rcases h1 with h1 | h1
   · rcases ho with rfl | rfl <;> simp at h1
   · have := of_decide_eq_false h1; omega
 · cases hb : k.nodes.any fun x => (x.1 == 4 || x.1 == 5) && decide (x.2 < 0) with
   | false => rfl
   | true =>
     obtain ⟨x, hx, e⟩ := List.any_eq_true.1 hb
     have := List.any_eq_false.1 h.2 x (mem_nodess.2 ⟨k, hk, hx⟩)
     exact absurd e this
theorem obs_fields {op n : Int} {s : ByteArray} {ks : List T} (h : Obs (.mk op n s ks)) (h22 : op ≠ 22) : fields op n s = true := (letter_inv rfl h.1 h22).2
theorem feed_name {n : Int} {s : ByteArray} (h : fields 4 n s = true) : Led.isName s = true ∧ -3660 ≤ n ∧ n ≤ 3660 := by
 simp [fields, Gen.within] at h
 exact ⟨h.1, by omega⟩
theorem Rt.reg {O Fl : Nat → Prop} {m : Mk} (h : Rt O Fl m) : Rt O Fl m.reg := h.same rfl rfl rfl (by show m.regs ≤ max m.regs (m.next + 1); omega)
theorem Rt.free {O Fl : Nat → Prop} {m : Mk} (h : Rt O Fl m) (sh : Bool) (r : Int) : Rt O Fl (m.free sh r) := by
 unfold Mk.free
 split
 · exact h
 · exact h.same rfl rfl rfl (Int.le_refl _)
theorem Rt.back {O Fl : Nat → Prop} {m : Mk} (h : Rt O Fl m) (k : Val → Option Int) : Rt O Fl (m.back k) := h.same rfl rfl rfl (Int.le_refl _)
theorem free_regs (m : Mk) (sh : Bool) (r : Int) : (m.free sh r).regs = m.regs := by unfold Mk.free; cases sh <;> rfl
structure ObRt (O Fl : Nat → Prop) (D : Nat) (t : T) (m : Mk) (u : List Nat) (o : Ob) : Prop where
 r : o.1 = m.next
 nx : o.2.1.next = m.next + 1
 lo : m.next + 1 ≤ o.2.1.regs
 mo : m.regs ≤ o.2.1.regs
 hi : o.2.1.regs ≤ max m.regs (m.next + D)
 rt : Rt (fun q => O q ∨ q ∈ o.2.2) Fl o.2.1
 op : ∀ p ∈ o.2.2, p ∈ u ∨ OpenAt o.2.1 p
 un : zzy t = false → o.2.2 = u
theorem reckon_rt {O Fl : Nat → Prop} {D : Nat} {t : T} {m : Mk} {u : List Nat} (v : Val) (hD : 1 ≤ D) (h0 : 0 ≤ m.next) (h : Rt (fun q => O q ∨ q ∈ u) Fl m) (hx : ∀ R W, m.next < R → ixF R W (v.ix m.next) = true) (ho : v.op = 1 ∨ v.op = 2 ∨ v.op = 3) (hf : v.op = 2 → zzy t = true) :
   ObRt O Fl D t m u (zzz false v m u) := by
 have e : zzz false v m u = (m.next, (m.reg.lay (v.ix m.next)).put v m.next, if v.op = 2 then u ++ [m.ins.length] else u) := rfl
 rw [e]
 have hr : m.next < m.reg.regs := by show m.next < max m.regs (m.next + 1); omega
 have h1 := h.reg
 have hn : (v.ix m.next).op ≠ 29 := by show v.op ≠ 29; omega
 refine ⟨rfl, rfl, ?_, ?_, ?_, ?_, ?_, ?_⟩
 · show m.next + 1 ≤ max m.regs (m.next + 1); omega
 · show m.regs ≤ max m.regs (m.next + 1); omega
 · show max m.regs (m.next + 1) ≤ _; omega
 · by_cases h2 : v.op = 2
   · rw [if_pos h2]
     have := h1.jump (hx m.reg.regs m.reg.ws.length hr) (by show useT v.op = true; rw [h2]; decide) hn
     refine (this.same (m' := (m.reg.lay (v.ix m.next)).put v m.next) rfl rfl rfl (Int.le_refl _)).weak fun q hq => ?_
     rcases hq with (h3 | h3) | h3
     · exact .inl h3
     · exact .inr (List.mem_append_left _ h3)
     · exact .inr (List.mem_append_right _ (by rw [List.mem_singleton]; exact h3))
   · rw [if_neg h2]
     exact (h1.plain (hx m.reg.regs m.reg.ws.length hr) (by show useT v.op = false; rcases ho with e | e | e <;> rw [e] <;> first | decide | exact absurd e h2) rfl hn).same rfl rfl rfl (Int.le_refl _)
 · intro p hp
   by_cases h2 : v.op = 2
   · rw [if_pos h2] at hp
     rcases List.mem_append.1 hp with h3 | h3
     · exact .inl h3
     · rw [List.mem_singleton] at h3
       subst h3
       exact .inr (OpenAt.lay m.reg (x := v.ix m.next) (by show useT v.op = true; rw [h2]; decide))
   · rw [if_neg h2] at hp
     exact .inl hp
 · intro hff
   show (if v.op = 2 then u ++ [m.ins.length] else u) = u
   rw [if_neg fun e => by rw [hf e] at hff; cases hff]
structure InRt (O Fl : Nat → Prop) (out : Int) (k : T) (m : Mk) (u : List Nat) (A : Mk × List Nat) : Prop where
 nx : A.1.next = out + 1
 mo : m.regs ≤ A.1.regs
 hi : A.1.regs ≤ max m.regs (out + 1 + k.depth)
 rt : Rt (fun q => O q ∨ q ∈ A.2) Fl A.1
 op : ∀ p ∈ A.2, p ∈ u ∨ OpenAt A.1 p
 un : zzy k = false → A.2 = u
 ex : Ext m A.1
theorem into_rt {O Fl : Nat → Prop} {d : Nat} {k : T} {m : Mk} {u : List Nat} {out : Int} (h : ObRt O Fl k.depth k m u (obs false d k m u)) (h0 : 0 ≤ out) (hn : m.next = out + 1) (hr : out < m.regs) : InRt O Fl out k m u (into false out (obs false d k m u)) := by
 have he := obs_ext false d k m u
 generalize obs false d k m u = o at *
 have h1 := h.r
 have h2 := h.lo
 have h3 := h.mo
 have h4 := h.hi
 have hex : Ext m (into false out o).1 := into_ext false out he
 have heo : Ext o.2.1 (into false out o).1 := into_ext false out (Ext.refl _)
 refine ⟨rfl, h3, ?_, ?_, fun p hp => (h.op p hp).imp id fun h => h.ext heo, h.un, hex⟩
 · show o.2.1.regs ≤ _
   rw [hn] at h4
   exact h4
 · exact (h.rt.plain (x := ix 18 out o.1 0) (f18 ⟨h0, by omega⟩ ⟨by omega, by omega⟩) rfl rfl (by show (18 : Int) ≠ 29; decide)).free false _
theorem plain_op {op : Int} (h : twoOp op) : zzk op = 5 ∨ zzk op = 6 ∨ zzk op = 7 ∨ zzk op = 8 ∨ zzk op = 9 ∨ zzk op = 10 ∨ zzk op = 11 ∨ zzk op = 13 ∨ zzk op = 14 ∨ zzk op = 15 ∨ zzk op = 16 ∨ zzk op = 17 := by
 unfold twoOp at h
 unfold zzk
 split <;> omega
theorem depth_kids {op n : Int} {s : ByteArray} {ks : List T} : (T.mk op n s ks).depth = 1 + depths ks := by rw [T.depth]
theorem or_a {a b c : Prop} (h : (a ∨ b) ∨ c) : (a ∨ c) ∨ b := h.elim (fun h => h.elim (fun h => .inl (.inl h)) .inr) (fun h => .inl (.inr h))
theorem or_b {a b c d : Prop} (h : (((a ∨ b) ∨ c) ∨ d) ∧ ¬ c) : (a ∨ d) ∨ b := h.1.elim (fun g => g.elim (fun g => g.elim (fun g => .inl (.inl g)) .inr) (fun g => absurd g h.2)) (fun g => .inl (.inr g))
theorem or_c {a b c d : Prop} (h : (((a ∨ c) ∨ b) ∨ d) ∧ ¬ c) : (a ∨ d) ∨ b := h.1.elim (fun g => g.elim (fun g => g.elim (fun g => .inl (.inl g)) (fun g => absurd g h.2)) .inr) (fun g => .inl (.inr g))
theorem obs_rt (d : Nat) : ∀ (t : T) (m : Mk) (u : List Nat) (O Fl : Nat → Prop), Obs t → t.depth ≤ d → t.ahead = false → 0 ≤ m.next → Rt (fun q => O q ∨ q ∈ u) Fl m → ObRt O Fl t.depth t m u (obs false d t m u) := by
 induction d with
 | zero => intro t m u O Fl _ hd; have := depth_pos t; omega
 | succ d ih =>
   intro t m u O Fl ht hd hah h0 hR
   obtain ⟨op, n, s, ks⟩ := t
   obtain ⟨hn0, hka⟩ := ahead_kids hah
   have hD := depth_pos (T.mk op n s ks)
   have hkd : ∀ k ∈ ks, k.depth ≤ d ∧ k.depth + 1 ≤ (T.mk op n s ks).depth := fun k hk => by
     have h1 := depths_mem hk
     rw [depth_kids] at hd ⊢
     omega
   have hfk : zzy (T.mk op n s ks) = false → op ≠ 4 ∧ ∀ k ∈ ks, zzy k = false := fun e => by
     rw [zql, Bool.or_eq_false_iff] at e
     refine ⟨by simpa using e.1, fun k hk => ?_⟩
     have := List.any_eq_false.1 e.2 k hk
     simpa using this
   have hin : ∀ (O : Nat → Prop) (k : T) (m' : Mk) (u : List Nat), Obs k → k ∈ ks → m'.next = m.next + 1 → m.next < m'.regs → Rt (fun q => O q ∨ q ∈ u) Fl m' → InRt O Fl m.next k m' u (into false m.next (obs false d k m' u)) :=
     fun O k m' u hk hm e hr h => into_rt (ih k m' u O Fl hk (hkd k hm).1 (hka k hm) (by omega) h) h0 e hr
   rcases observable_of ht with h1 | ⟨rfl, h2⟩ | ⟨rfl, h2⟩ | ⟨h1, a, rfl, ha, -⟩ | ⟨h1, a, b, rfl, ha, hb⟩ | ⟨rfl, a, b, c, rfl, ha, hb, hc⟩ | ⟨h1, a, b, rfl, ha, hb⟩
   · rw [obs_lit (t := .mk op n s ks) h1]
     have hf := fields_range (obs_fields ht (by omega))
     exact reckon_rt _ hD h0 hR (fun R W hr => f1 ⟨h0, hr⟩ hf) (.inl rfl) (fun e => absurd (show (1 : Int) = 2 from e) (by decide))
   · rw [obs_feed rfl]
     have hf := feed_name (obs_fields ht (by decide))
     exact reckon_rt _ hD h0 hR (fun R W hr => f2 ⟨h0, hr⟩ ⟨hn0 (.inl rfl), h2.2⟩ hf.1) (.inr (.inl rfl)) (fun _ => by rw [zql]; rfl)
   · rw [obs_now rfl]
     exact reckon_rt _ hD h0 hR (fun R W hr => f3 ⟨h0, hr⟩ ⟨hn0 (.inr rfl), h2.2⟩) (.inr (.inr rfl)) (fun e => absurd (show (3 : Int) = 2 from e) (by decide))
   · rw [obs_pl (by show 6 ≤ op ∧ op ≤ 21 ∧ op ≠ 15 ∧ op ≠ 16; omega), obsPl_one (a := a) (by simp [T.ks]) kid0 rfl]
     have hd1 := hkd a (by simp)
     have g := ih a m u O Fl ha hd1.1 (hka a (by simp)) h0 hR
     generalize obs false d a m u = o at *
     have g1 := g.r
     have g2 := g.lo
     have g3 := g.mo
     have g4 := g.hi
     have hpo : zzk op = 4 ∨ zzk op = 12 := by unfold zzk; split <;> omega
     rw [if_neg (by decide)]
     refine ⟨g1, rfl, g2, g3, ?_, ?_, fun p hp => (g.op p hp).imp id fun h => h.ext (show Ext o.2.1 ((o.2.1.lay _).free false (m.next + 1)) from ((Ext.refl _).lay _).free _ _), fun e => g.un ((hfk e).2 a (by simp))⟩
     · show o.2.1.regs ≤ _
       omega
     · exact (g.rt.plain (fone hpo ⟨by omega, by omega⟩) (by show useT (zzk op) = false; rcases hpo with e | e <;> rw [e] <;> decide) rfl (by show zzk op ≠ 29; omega)).free false _
   · have hra : m.next < m.reg.regs := by show m.next < max m.regs (m.next + 1); omega
     have gA := hin O a m.reg u (obs_b ha) (by simp) rfl hra hR.reg
     have hda := hkd a (by simp)
     have hdb := hkd b (by simp)
     have hreg : m.reg.regs = max m.regs (m.next + 1) := rfl
     rcases h1 with rfl | rfl
     · rw [obs_and rfl]
       unfold chosen choAnd
       simp only [kid0, kid1]
       generalize into false m.next (obs false d a m.reg u) = A at *
       have a1 := gA.nx
       have a2 := gA.mo
       have a3 := gA.hi
       have gj := gA.rt.jump (x := ix 19 0 m.next 0) (f19 ⟨h0, by omega⟩) rfl (by show (19 : Int) ≠ 29; decide)
       have oj : OpenAt (A.1.lay (ix 19 0 m.next 0)) A.1.ins.length := OpenAt.lay A.1 rfl
       have gB := hin (fun q => O q ∨ q = A.1.ins.length) b (A.1.lay (ix 19 0 m.next 0)) A.2 hb (by simp) a1 (by show m.next < A.1.regs; omega) (gj.weak fun q hq => or_a hq)
       have eB := gB.ex
       generalize into false m.next (obs false d b (A.1.lay (ix 19 0 m.next 0)) A.2) = B at *
       have b2 := gB.mo
       have b3 := gB.hi
       have e1 : (A.1.lay (ix 19 0 m.next 0)).regs = A.1.regs := rfl
       have hx : Ext B.1 (((B.1.back (A.1.lay (ix 19 0 m.next 0)).known).here A.1.ins.length).free false (m.next + 1)) := ((((Ext.refl _).back _).here _).free _ _)
       refine ⟨rfl, rfl, ?_, ?_, ?_, ?_, fun p hp => ?_, fun e => (gB.un ((hfk e).2 b (by simp))).trans (gA.un ((hfk e).2 a (by simp)))⟩
       · show m.next + 1 ≤ B.1.regs; omega
       · show m.regs ≤ B.1.regs; omega
       · show B.1.regs ≤ _; omega
       · refine (((gB.rt.back (A.1.lay (ix 19 0 m.next 0)).known).here (oj.ext (eB.back _))).weak fun q hq => ?_).free false _
         rcases hq with ⟨(h | h) | h, hne⟩
         · exact .inl h
         · exact absurd h hne
         · exact .inr h
       · rcases gB.op p hp with h | h
         · exact (gA.op p h).imp id fun h => h.ext (((Ext.refl _).lay _).trans (eB.trans hx))
         · exact .inr (h.ext hx)
     · rw [obs_or rfl]
       unfold chosen choOr
       simp only [kid0, kid1]
       generalize into false m.next (obs false d a m.reg u) = A at *
       have a1 := gA.nx
       have a2 := gA.mo
       have a3 := gA.hi
       have gj := gA.rt.jump (x := ix 19 0 m.next 0) (f19 ⟨h0, by omega⟩) rfl (by show (19 : Int) ≠ 29; decide)
       have oj : OpenAt (A.1.lay (ix 19 0 m.next 0)) A.1.ins.length := OpenAt.lay A.1 rfl
       have gj2 := (gj.jump (x := ix 20 0 0 0) f20 rfl (by show (20 : Int) ≠ 29; decide))
       have oj2 : OpenAt ((A.1.lay (ix 19 0 m.next 0)).lay (ix 20 0 0 0)) (A.1.ins.length + 1) := by have := OpenAt.lay (A.1.lay (ix 19 0 m.next 0)) (x := ix 20 0 0 0) rfl; rwa [zzf] at this
       rw [zzf] at gj2
       have gj3 := gj2.here (oj.ext ((Ext.refl _).lay _))
       have oj3 := oj2.ext ((Ext.refl _).here A.1.ins.length)
       have gB := hin (fun q => O q ∨ q = A.1.ins.length + 1) b (((A.1.lay (ix 19 0 m.next 0)).lay (ix 20 0 0 0)).here A.1.ins.length) A.2 hb (by simp) a1 (by show m.next < A.1.regs; omega) (gj3.weak fun q hq => or_b hq)
       have eB := gB.ex
       generalize into false m.next (obs false d b (((A.1.lay (ix 19 0 m.next 0)).lay (ix 20 0 0 0)).here A.1.ins.length) A.2) = B at *
       have b2 := gB.mo
       have b3 := gB.hi
       have e1 : (((A.1.lay (ix 19 0 m.next 0)).lay (ix 20 0 0 0)).here A.1.ins.length).regs = A.1.regs := rfl
       have hx : Ext B.1 (((B.1.back (((A.1.lay (ix 19 0 m.next 0)).lay (ix 20 0 0 0)).here A.1.ins.length).known).here (A.1.ins.length + 1)).free false (m.next + 1)) := ((((Ext.refl _).back _).here _).free _ _)
       refine ⟨rfl, rfl, ?_, ?_, ?_, ?_, fun p hp => ?_, fun e => (gB.un ((hfk e).2 b (by simp))).trans (gA.un ((hfk e).2 a (by simp)))⟩
       · show m.next + 1 ≤ B.1.regs; omega
       · show m.regs ≤ B.1.regs; omega
       · show B.1.regs ≤ _; omega
       · refine (((gB.rt.back (((A.1.lay (ix 19 0 m.next 0)).lay (ix 20 0 0 0)).here A.1.ins.length).known).here (oj3.ext (eB.back _))).weak fun q hq => ?_).free false _
         rcases hq with ⟨(h | h) | h, hne⟩
         · exact .inl h
         · exact absurd h hne
         · exact .inr h
       · rcases gB.op p hp with h | h
         · exact (gA.op p h).imp id fun h => h.ext (((((Ext.refl _).lay _).lay _).here _).trans (eB.trans hx))
         · exact .inr (h.ext hx)
   · have hra : m.next < m.reg.regs := by show m.next < max m.regs (m.next + 1); omega
     have gA := hin O a m.reg u (obs_b ha) (by simp) rfl hra hR.reg
     have hda := hkd a (by simp)
     have hdb := hkd b (by simp)
     have hdc := hkd c (by simp)
     have hreg : m.reg.regs = max m.regs (m.next + 1) := rfl
     rw [obs_if rfl]
     unfold chosen choIf
     simp only [kid0, kid1, kid2]
     generalize into false m.next (obs false d a m.reg u) = A at *
     have a1 := gA.nx
     have a2 := gA.mo
     have a3 := gA.hi
     have gj := gA.rt.jump (x := ix 19 0 m.next 0) (f19 ⟨h0, by omega⟩) rfl (by show (19 : Int) ≠ 29; decide)
     have oj : OpenAt (A.1.lay (ix 19 0 m.next 0)) A.1.ins.length := OpenAt.lay A.1 rfl
     have gB := hin (fun q => O q ∨ q = A.1.ins.length) b (A.1.lay (ix 19 0 m.next 0)) A.2 hb (by simp) a1 (by show m.next < A.1.regs; omega) (gj.weak fun q hq => or_a hq)
     have eB := gB.ex
     generalize into false m.next (obs false d b (A.1.lay (ix 19 0 m.next 0)) A.2) = B at *
     have b1 := gB.nx
     have b2 := gB.mo
     have b3 := gB.hi
     have e1 : (A.1.lay (ix 19 0 m.next 0)).regs = A.1.regs := rfl
     have gk := (gB.rt.back (A.1.lay (ix 19 0 m.next 0)).known).jump (x := ix 20 0 0 0) f20 rfl (by show (20 : Int) ≠ 29; decide)
     rw [zzj] at gk
     have ok : OpenAt ((B.1.back (A.1.lay (ix 19 0 m.next 0)).known).lay (ix 20 0 0 0)) B.1.ins.length := OpenAt.lay (B.1.back _) rfl
     have gk2 := gk.here ((oj.ext eB).ext (((Ext.refl _).back _).lay _))
     have ok2 := ok.ext ((Ext.refl _).here A.1.ins.length)
     have gC := hin (fun q => O q ∨ q = B.1.ins.length) c (((B.1.back (A.1.lay (ix 19 0 m.next 0)).known).lay (ix 20 0 0 0)).here A.1.ins.length) B.2 hc (by simp) b1 (by show m.next < B.1.regs; omega) (gk2.weak fun q hq => or_c hq)
     have eC := gC.ex
     generalize into false m.next (obs false d c (((B.1.back (A.1.lay (ix 19 0 m.next 0)).known).lay (ix 20 0 0 0)).here A.1.ins.length) B.2) = C at *
     have c2 := gC.mo
     have c3 := gC.hi
     have e2 : (((B.1.back (A.1.lay (ix 19 0 m.next 0)).known).lay (ix 20 0 0 0)).here A.1.ins.length).regs = B.1.regs := rfl
     have hx : Ext C.1 (((C.1.back (((B.1.back (A.1.lay (ix 19 0 m.next 0)).known).lay (ix 20 0 0 0)).here A.1.ins.length).known).here B.1.ins.length).free false (m.next + 1)) := ((((Ext.refl _).back _).here _).free _ _)
     have hy : Ext B.1 (((B.1.back (A.1.lay (ix 19 0 m.next 0)).known).lay (ix 20 0 0 0)).here A.1.ins.length) := (((Ext.refl _).back _).lay _).here _
     refine ⟨rfl, rfl, ?_, ?_, ?_, ?_, fun p hp => ?_, fun e => (gC.un ((hfk e).2 c (by simp))).trans ((gB.un ((hfk e).2 b (by simp))).trans (gA.un ((hfk e).2 a (by simp))))⟩
     · show m.next + 1 ≤ C.1.regs; omega
     · show m.regs ≤ C.1.regs; omega
     · show C.1.regs ≤ _; omega
     · refine (((gC.rt.back (((B.1.back (A.1.lay (ix 19 0 m.next 0)).known).lay (ix 20 0 0 0)).here A.1.ins.length).known).here (ok2.ext (eC.back _))).weak fun q hq => ?_).free false _
       rcases hq with ⟨(h | h) | h, hne⟩
       · exact .inl h
       · exact absurd h hne
       · exact .inr h
     · rcases gC.op p hp with h | h
       · rcases gB.op p h with h | h
         · exact (gA.op p h).imp id fun h => h.ext (((Ext.refl _).lay _).trans (eB.trans (hy.trans (eC.trans hx))))
         · exact .inr (h.ext (hy.trans (eC.trans hx)))
       · exact .inr (h.ext hx)
   · rw [obs_pl (by unfold twoOp at h1; show 6 ≤ op ∧ op ≤ 21 ∧ op ≠ 15 ∧ op ≠ 16; omega), obsPl_two (a := a) (b := b) (by simp [T.ks]) kid0 rfl kid1 rfl]
     have hd1 := hkd a (by simp)
     have hd2 := hkd b (by simp)
     have g := ih a m u O Fl ha hd1.1 (hka a (by simp)) h0 hR
     generalize obs false d a m u = o at *
     have g0 := g.nx
     have g1 := g.r
     have g2 := g.lo
     have g3 := g.mo
     have g4 := g.hi
     have k := ih b o.2.1 o.2.2 O Fl hb hd2.1 (hka b (by simp)) (by omega) g.rt
     have ek := obs_ext false d b o.2.1 o.2.2
     generalize obs false d b o.2.1 o.2.2 = p at *
     have k1 := k.r
     have k2 := k.lo
     have k3 := k.mo
     have k4 := k.hi
     have hpo := plain_op h1
     rw [if_neg (by decide)]
     have hx : Ext p.2.1 ((p.2.1.lay ⟨zzk op, o.1, o.1, p.1, 0, txt0, 0⟩).free false (m.next + 1)) := ((Ext.refl _).lay _).free _ _
     refine ⟨g1, rfl, ?_, ?_, ?_, ?_, fun q hq => ?_, fun e => (k.un ((hfk e).2 b (by simp))).trans (g.un ((hfk e).2 a (by simp)))⟩
     · show m.next + 1 ≤ p.2.1.regs; omega
     · show m.regs ≤ p.2.1.regs; omega
     · show p.2.1.regs ≤ _
       omega
     · exact (k.rt.plain (ftwo hpo ⟨by omega, by omega⟩ ⟨by omega, by omega⟩) (by show useT (zzk op) = false; rcases hpo with e | e | e | e | e | e | e | e | e | e | e | e <;> rw [e] <;> decide) rfl (by show zzk op ≠ 29; omega)).free false _
     · rcases k.op q hq with h | h
       · exact (g.op q h).imp id fun h => h.ext (ek.trans hx)
       · exact .inr (h.ext hx)
end Gf
end
section
open Go.RowKit
namespace Gf
open Co Gen Dn
structure CoRt (O Fl : Nat → Prop) (D : Nat) (m m' : Mk) : Prop where
 rt : Rt O Fl m'
 nx : m'.next = m.next
 mo : m.regs ≤ m'.regs
 hi : m'.regs ≤ max m.regs (m.next + D)
 ja : ∀ x ∈ m'.jobs, x ∈ m.jobs ∨ x.2.ahead = false
theorem jobs_eq {m m' : Mk} (h : jw m' = jw m) : m'.jobs = m.jobs := congrArg Prod.fst h
theorem free_jobs (m : Mk) (sh : Bool) (r : Int) : (m.free sh r).jobs = m.jobs := jobs_eq (zqg m sh r)
theorem pay_cur {n : Int} {s : ByteArray} (h : fields 24 n s = true) : Led.isCur s = true := by
 simp [fields] at h
 exact h.1
theorem Rt.nil {O Fl : Nat → Prop} {m : Mk} (h : Rt (fun q => O q ∨ q ∈ ([] : List Nat)) Fl m) : Rt O Fl m := h.weak fun q hq => hq.elim id (fun h => by cases h)
theorem Rt.ornil {O Fl : Nat → Prop} {m : Mk} (h : Rt O Fl m) : Rt (fun q => O q ∨ q ∈ ([] : List Nat)) Fl m := h.weak fun q hq => .inl hq
theorem either_rt {O Fl : Nat → Prop} {con : T → Mk → Mk} {t : T} {m : Mk} {r : Int} {Da Db : Nat} (h : Rt O Fl m) (hr : 0 ≤ r ∧ r < m.regs)
   (ha : ∀ O m, Rt O Fl m → Ext m (con (t.kid 1) m) ∧ (0 ≤ m.next → CoRt O Fl Da m (con (t.kid 1) m))) (hb : ∀ O m, Rt O Fl m → Ext m (con (t.kid 2) m) ∧ (0 ≤ m.next → CoRt O Fl Db m (con (t.kid 2) m))) (h0 : 0 ≤ m.next) :
   CoRt O Fl (max Da Db) m (zqf con r t m) := by
 obtain ⟨A, B, C, D, hA, hB, hC, hD, e⟩ := zqp con r t m
 have gA : Rt (fun q => O q ∨ q = m.ins.length) Fl A := by rw [hA]; exact h.jump (f19 hr) rfl (by show (19 : Int) ≠ 29; decide)
 have oA : OpenAt A m.ins.length := by rw [hA]; exact OpenAt.lay m rfl
 have nA : A.next = m.next ∧ A.regs = m.regs ∧ A.jobs = m.jobs := by rw [hA]; exact ⟨rfl, rfl, rfl⟩
 obtain ⟨eB, cB⟩ := ha _ _ gA
 have cB := cB (by omega)
 rw [← hB] at eB cB
 have b1 := cB.nx
 have b2 := cB.mo
 have b3 := cB.hi
 have gK := (cB.rt.back A.known).jump (x := ix 20 0 0 0) f20 rfl (by show (20 : Int) ≠ 29; decide)
 rw [zzj] at gK
 have oK : OpenAt ((B.back A.known).lay (ix 20 0 0 0)) B.ins.length := OpenAt.lay (B.back A.known) rfl
 have gC : Rt (fun q => O q ∨ q = B.ins.length) Fl C := by
   rw [hC]
   exact (gK.here (oA.ext ((eB.back _).lay _))).weak fun q hq => by
     obtain ⟨h1, h2⟩ := hq
     rcases h1 with (h1 | h1) | h1
     · exact .inl h1
     · exact absurd h1 h2
     · exact .inr h1
 have oC : OpenAt C B.ins.length := by rw [hC]; exact oK.ext ((Ext.refl _).here _)
 have nC : C.next = B.next ∧ C.regs = B.regs ∧ C.jobs = B.jobs := by rw [hC]; exact ⟨rfl, rfl, rfl⟩
 obtain ⟨eD, cD⟩ := hb _ _ gC
 have cD := cD (by omega)
 rw [← hD] at eD cD
 have d1 := cD.nx
 have d2 := cD.mo
 have d3 := cD.hi
 rw [e]
 have hbl : (B.back A.known).ins.length = B.ins.length := rfl
 rw [hbl]
 refine ⟨?_, ?_, ?_, ?_, ?_⟩
 · exact ((cD.rt.back C.known).here (oC.ext (eD.back _))).weak fun q hq => hq.1.elim id fun h => absurd h hq.2
 · show D.next = _; omega
 · show _ ≤ D.regs; omega
 · show D.regs ≤ _; omega
 · intro x hx
   have hx' : x ∈ D.jobs := hx
   rcases cD.ja x hx' with h1 | h1
   · rw [nC.2.2] at h1
     rcases cB.ja x h1 with h2 | h2
     · rw [nA.2.2] at h2; exact .inl h2
     · exact .inr h2
   · exact .inr h1
theorem con_rt (d : Nat) : ∀ (t : T) (m : Mk) (O Fl : Nat → Prop), t.letter = 99 → t.depth ≤ d → t.ahead = false → 0 ≤ m.next → Rt O Fl m → CoRt O Fl t.depth m (con false d t m) := by
 induction d with
 | zero => intro t m O Fl _ hd; have := depth_pos t; omega
 | succ d ih =>
   intro t m O Fl hx hd hah h0 h
   cases hw : zzq t with
   | true =>
     rw [con_call hw]
     refine ⟨h.call t, rfl, Int.le_refl _, ?_, fun x hx => ?_⟩
     · show m.regs ≤ _; omega
     · rcases List.mem_append.1 (show x ∈ m.jobs ++ [(m.ws.length, t)] from hx) with h1 | h1
       · exact .inl h1
       · rw [List.mem_singleton] at h1; subst h1; exact .inr hah
   | false =>
     obtain ⟨op, n, s, ks⟩ := t
     obtain ⟨-, hka⟩ := ahead_kids hah
     have hkd : ∀ k ∈ ks, k.depth ≤ d ∧ k.depth + 1 ≤ (T.mk op n s ks).depth := fun k hk => by
       have h1 := depths_mem hk
       rw [depth_kids] at hd ⊢
       omega
     have hD := depth_pos (T.mk op n s ks)
     obtain ⟨w1, w2, w3, w4⟩ := waits_op hw
     rcases zzw hx with (⟨rfl, rfl⟩ | ⟨rfl, rfl⟩) | ⟨h1, a, rfl, ha⟩ | ⟨rfl, o, a, rfl, ho, ha⟩ | ⟨h1, a, b, rfl, ha, hb⟩ | ⟨rfl, o, a, b, rfl, ho, ha, hb⟩ | ⟨rfl, o, a, rfl, ho, ha⟩
     · rw [con_zero hw rfl]
       exact ⟨h.free false _, rfl, Int.le_refl _, by show m.regs ≤ _; omega, fun x hx => .inl (by rw [free_jobs] at hx; exact hx)⟩
     · rw [con_pay hw rfl]
       have hs := pay_cur (letter_inv hx (by decide) (by decide)).2
       exact ⟨(h.plain (x := ⟨27, 0, 0, 0, 0, s, 0⟩) (f27 hs) rfl rfl (by show (27 : Int) ≠ 29; decide)).free false _, rfl, Int.le_refl _, by show m.regs ≤ _; omega, fun x hx => .inl (by rw [free_jobs] at hx; exact hx)⟩
     · rcases h1 with rfl | rfl
       · rw [con_give hw rfl, kid0]
         have hda := hkd a (by simp)
         have g := ih a (m.lay (ix 24 0 0 0)) O Fl ha hda.1 (hka a (by simp)) h0 (h.plain f24 rfl rfl (by show (24 : Int) ≠ 29; decide))
         have g2 := g.mo
         have g3 := g.hi
         have e1 : (m.lay (ix 24 0 0 0)).regs = m.regs ∧ (m.lay (ix 24 0 0 0)).next = m.next := ⟨rfl, rfl⟩
         exact ⟨g.rt.free false _, rfl, by rw [free_regs]; omega, by rw [free_regs]; omega, fun x hx => g.ja x (by rw [free_jobs] at hx; exact hx)⟩
       · exact absurd rfl w1
     · rw [con_scale hw rfl, kid0, kid1]
       have hda := hkd a (by simp)
       have hdo := hkd o (by simp)
       have go := obs_rt d o m [] O Fl (obs_n ho) hdo.1 (hka o (by simp)) h0 h.ornil
       have hun := go.un (w4 (.inl rfl))
       have gj := jobs_eq (jw_obs false d o m [])
       generalize obs false d o m [] = A at *
       have a1 := go.r
       have a2 := go.nx
       have a3 := go.lo
       have a4 := go.mo
       have a5 := go.hi
       have gr := go.rt
       rw [hun] at gr
       have g := ih a (A.2.1.lay (ix 23 0 A.1 0)) O Fl ha hda.1 (hka a (by simp)) (by show 0 ≤ A.2.1.next; omega) (gr.nil.plain (f23 ⟨by omega, by omega⟩) rfl rfl (by show (23 : Int) ≠ 29; decide))
       have g2 := g.mo
       have g3 := g.hi
       have e1 : (A.2.1.lay (ix 23 0 A.1 0)).regs = A.2.1.regs ∧ (A.2.1.lay (ix 23 0 A.1 0)).next = A.2.1.next ∧ (A.2.1.lay (ix 23 0 A.1 0)).jobs = A.2.1.jobs := ⟨rfl, rfl, rfl⟩
       exact ⟨g.rt.free false _, rfl, by rw [free_regs]; omega, by rw [free_regs]; omega, fun x hx => by
         rw [free_jobs] at hx
         rcases g.ja x hx with h1 | h1
         · rw [e1.2.2, gj] at h1; exact .inl h1
         · exact .inr h1⟩
     · rcases h1 with rfl | rfl
       · rw [con_both hw rfl, kid0, kid1]
         have hda := hkd a (by simp)
         have hdb := hkd b (by simp)
         have hr : m.next < m.reg.regs := by show m.next < max m.regs (m.next + 1); omega
         have hre : m.reg.regs = max m.regs (m.next + 1) := rfl
         have g := ih a (m.reg.lay (ix 25 m.next 0 0)) O Fl ha hda.1 (hka a (by simp)) (by show 0 ≤ m.next + 1; omega) (h.reg.plain (f25 ⟨h0, hr⟩) rfl rfl (by show (25 : Int) ≠ 29; decide))
         have e1 : (m.reg.lay (ix 25 m.next 0 0)).regs = m.reg.regs ∧ (m.reg.lay (ix 25 m.next 0 0)).next = m.next + 1 ∧ (m.reg.lay (ix 25 m.next 0 0)).jobs = m.jobs := ⟨rfl, rfl, rfl⟩
         generalize con false d a (m.reg.lay (ix 25 m.next 0 0)) = A at *
         have a1 := g.nx
         have a2 := g.mo
         have a3 := g.hi
         have k := ih b (A.lay (ix 26 0 m.next 0)) O Fl hb hdb.1 (hka b (by simp)) (by show 0 ≤ A.next; omega) (g.rt.plain (f26 ⟨h0, by omega⟩) rfl rfl (by show (26 : Int) ≠ 29; decide))
         have k2 := k.mo
         have k3 := k.hi
         have e2 : (A.lay (ix 26 0 m.next 0)).regs = A.regs ∧ (A.lay (ix 26 0 m.next 0)).next = A.next ∧ (A.lay (ix 26 0 m.next 0)).jobs = A.jobs := ⟨rfl, rfl, rfl⟩
         exact ⟨k.rt.free false _, rfl, by rw [free_regs]; omega, by rw [free_regs]; omega, fun x hx => by
           rw [free_jobs] at hx
           rcases k.ja x hx with h1 | h1
           · rw [e2.2.2] at h1
             rcases g.ja x h1 with h2 | h2
             · rw [e1.2.2] at h2; exact .inl h2
             · exact .inr h2
           · exact .inr h1⟩
       · exact absurd rfl w3
     · rw [con_if hw rfl, kid0]
       have hda := hkd a (by simp)
       have hdb := hkd b (by simp)
       have hdo := hkd o (by simp)
       have go := obs_rt d o m [] O Fl (obs_b ho) hdo.1 (hka o (by simp)) h0 h.ornil
       have hun := go.un (w4 (.inr rfl))
       have gj := jobs_eq (jw_obs false d o m [])
       generalize obs false d o m [] = A at *
       have a1 := go.r
       have a2 := go.nx
       have a3 := go.lo
       have a4 := go.mo
       have a5 := go.hi
       have gr := go.rt
       rw [hun] at gr
       have g := either_rt (con := con false d) (t := T.mk 28 n s [o, a, b]) (r := A.1) (Da := a.depth) (Db := b.depth) gr.nil ⟨by omega, by omega⟩
         (fun O m h => ⟨con_ext false d _ m, fun h0 => by rw [kid1]; exact ih a m O Fl ha hda.1 (hka a (by simp)) h0 h⟩) (fun O m h => ⟨con_ext false d _ m, fun h0 => by rw [kid2]; exact ih b m O Fl hb hdb.1 (hka b (by simp)) h0 h⟩) (by omega)
       have g2 := g.mo
       have g3 := g.hi
       exact ⟨g.rt.free false _, rfl, by rw [free_regs]; omega, by rw [free_regs]; omega, fun x hx => by
         rw [free_jobs] at hx
         rcases g.ja x hx with h1 | h1
         · rw [gj] at h1; exact .inl h1
         · exact .inr h1⟩
     · exact absurd rfl w2
end Gf
end
section
open Go.RowKit
namespace Gf
open Co Gen Dn
def NoW : Nat → Prop := fun _ => False
structure Bd (m : Mk) : Prop where
 rt : Rt NoW NoW m
 st : ∀ (p : Nat) x, m.ins[p]? = some x → useT x.op = true → x.to < m.ins.length
 rg : m.regs ≤ 256
 ls : lastOp m.ins = 30
 ja : ∀ x ∈ m.jobs, x.2.ahead = false
theorem fin_last (m : Mk) : lastOp m.fin.ins = 30 := by
 show lastOp (m.ins ++ [ix 30 0 0 0]) = 30
 unfold lastOp
 rw [List.getLast?_append]
 rfl
theorem Rt.setW {O Fl : Nat → Prop} {m : Mk} (h : Rt O Fl m) {j : Nat} (f : Wt → Wt) (hj : Fl j) (hn : ¬ Pending m j) (hf : ∀ w, m.ws[j]? = some w → (f w).entry = w.entry) : Rt O Fl (m.setW j f) := by
 have hlen : (m.setW j f).ws.length = m.ws.length := by simp [Mk.setW]
 have hat : ∀ i, (m.setW j f).ws[i]? = if j = i then (m.ws[i]?).map f else m.ws[i]? := fun i => by
   show (m.ws.modify j f)[i]? = _
   rw [List.getElem?_modify]
   split <;> simp
 refine ⟨fun p x hx => by rw [hlen]; exact h.ins p x hx, fun p x hx ho => ?_, fun i w hw => ?_, fun x hx => ?_, h.nd⟩
 · obtain ⟨i, e, h1⟩ := h.calls p x hx ho
   refine ⟨i, e, h1.imp id fun ⟨w, h2, h3⟩ => ?_⟩
   rw [hat]
   split
   · rename_i e2
     subst e2
     exact ⟨f w, by rw [h2]; rfl, by rw [hf w h2]; exact h3⟩
   · exact ⟨w, h2, h3⟩
 · rw [hat] at hw
   split at hw
   · rename_i e2
     subst e2
     exact .inr (.inl hj)
   · exact h.waits i w hw
 · rw [hat, if_neg fun e => hn ⟨x, hx, e.symm⟩]
   exact h.jobs x hx
theorem Rt.begin {m : Mk} {j : Nat} {t : T} {r : List (Nat × T)} (h : Rt NoW NoW m) (e : m.jobs = (j, t) :: r) (h0 : 0 < m.ins.length) : Rt NoW (fun i => i = j) (zze j (zqa m r)) ∧ (zze j (zqa m r)).ws[j]? = some ⟨m.ins.length, 0, txt0, 0, 0⟩ := by
 have hlen : (zze j (zqa m r)).ws.length = m.ws.length := by simp [zze, Mk.setW, Mk.fresh, zqa]
 have hat : ∀ i, (zze j (zqa m r)).ws[i]? = if j = i then (m.ws[i]?).map (fun w => { w with entry := m.ins.length }) else m.ws[i]? := fun i => by
   show (m.ws.modify j _)[i]? = _
   rw [List.getElem?_modify]
   split <;> simp <;> rfl
 have hws : m.ws[j]? = some wt0 := h.jobs (j, t) (by rw [e]; exact List.mem_cons_self ..)
 have hnd := h.nd
 rw [e, List.map_cons, List.nodup_cons] at hnd
 have hpend : ∀ i, Pending m i → i = j ∨ Pending (zze j (zqa m r)) i := fun i ⟨x, hx, e2⟩ => by
   rw [e] at hx
   rcases List.mem_cons.1 hx with rfl | hx
   · exact .inl e2.symm
   · exact .inr ⟨x, hx, e2⟩
 refine ⟨⟨fun p x hx => by rw [hlen]; exact h.ins p x hx, fun p x hx ho => ?_, fun i w hw => ?_, fun x hx => ?_, hnd.2⟩, by rw [hat, if_pos rfl, hws]; rfl⟩
 · obtain ⟨i, e2, h1⟩ := h.calls p x hx ho
   have hp : p < m.ins.length := (List.getElem?_eq_some_iff.1 hx).1
   refine ⟨i, e2, ?_⟩
   rcases h1 with h1 | ⟨w, h2, h3⟩
   · rcases hpend i h1 with rfl | h2
     · refine .inr ⟨_, by rw [hat, if_pos rfl, hws]; rfl, ?_⟩
       show (p : Int) < (m.ins.length : Int)
       omega
     · exact .inl h2
   · by_cases hi : j = i
     · subst hi
       refine .inr ⟨_, by rw [hat, if_pos rfl, hws]; rfl, ?_⟩
       show (p : Int) < (m.ins.length : Int)
       omega
     · exact .inr ⟨w, by rw [hat, if_neg hi]; exact h2, h3⟩
 · by_cases hi : j = i
   · exact .inr (.inl hi.symm)
   · rw [hat, if_neg hi] at hw
     rcases h.waits i w hw with h1 | h1 | h1
     · rcases hpend i h1 with h2 | h2
       · exact absurd h2.symm hi
       · exact .inl h2
     · exact absurd h1 id
     · exact .inr (.inr h1)
 · have hx' : x ∈ r := hx
   rw [hat, if_neg fun e2 => hnd.1 (by have h5 := List.mem_map_of_mem (f := Prod.fst) hx'; rw [← e2] at h5; exact h5)]
   exact h.jobs x (by rw [e]; exact List.mem_cons_of_mem _ hx')
theorem not_pending {O Fl : Nat → Prop} {m : Mk} {j : Nat} {w : Wt} (h : Rt O Fl m) (hw : m.ws[j]? = some w) (he : w.entry ≠ 0) : ¬ Pending m j := by
 rintro ⟨x, hx, e⟩
 have h1 := h.jobs x hx
 rw [e, hw] at h1
 cases h1
 exact he rfl
theorem ws_at {m m' : Mk} {j : Nat} {w : Wt} (h : Ext m m') (hw : m.ws[j]? = some w) : m'.ws[j]? = some w := by
 obtain ⟨l, hl⟩ := h.ws
 rw [← hl, List.getElem?_append_left (List.getElem?_eq_some_iff.1 hw).1]
 exact hw
theorem Rt.close {Fl : Nat → Prop} {m : Mk} (h : Rt NoW Fl m) (hf : ∀ j, Fl j → ∀ w, m.ws[j]? = some w → WOk (m.ins.length + 1) w) (hr : m.regs ≤ 256) (hj : ∀ x ∈ m.jobs, x.2.ahead = false) : Bd m.fin := by
 have hl : m.fin.ins.length = m.ins.length + 1 := zzf _ _
 have g := h.plain (x := ix 30 0 0 0) f30 rfl rfl (by show (30 : Int) ≠ 29; decide)
 refine ⟨⟨g.ins, g.calls, fun j w hw => ?_, g.jobs, g.nd⟩, fun p x hx hu => ?_, hr, fin_last m, hj⟩
 · rcases g.waits j w hw with h1 | h1 | h1
   · exact .inl h1
   · exact .inr (.inr (by rw [hl]; exact hf j h1 w hw))
   · exact .inr (.inr h1)
 · have hx' : (m.ins ++ [ix 30 0 0 0])[p]? = some x := hx
   by_cases hp : p < m.ins.length
   · rw [List.getElem?_append_left hp] at hx'
     have h1 := (h.ins p x hx').2
     unfold toF at h1
     rw [if_pos hu] at h1
     rcases h1 with h1 | h1
     · exact absurd h1 id
     · omega
   · have hlt := (List.getElem?_eq_some_iff.1 hx').1
     simp at hlt
     obtain rfl : p = m.ins.length := by omega
     simp at hx'
     subst hx'
     cases hu
theorem hereAll_rt {Fl : Nat → Prop} : ∀ (l : List Nat) (m : Mk), Rt (fun q => q ∈ l) Fl m → (∀ p ∈ l, OpenAt m p) → Rt NoW Fl (hereAll m l)
 | [], m, h, _ => h.weak fun q hq => by cases hq
 | p :: r, m, h, ho => by
   refine hereAll_rt r (m.here p) ((h.here (ho p (List.mem_cons_self ..))).weak fun q hq => ?_) fun q hq => (ho q (List.mem_cons_of_mem _ hq)).ext ((Ext.refl m).here p)
   obtain ⟨h1, h2⟩ := hq
   rcases List.mem_cons.1 h1 with h1 | h1
   · exact absurd h1 h2
   · exact h1
theorem hereAll_ws : ∀ (l : List Nat) (m : Mk), (hereAll m l).ws = m.ws ∧ (hereAll m l).jobs = m.jobs ∧ (hereAll m l).regs = m.regs ∧ (hereAll m l).ins.length = m.ins.length
 | [], m => ⟨rfl, rfl, rfl, rfl⟩
 | p :: r, m => by
   obtain ⟨h1, h2, h3, h4⟩ := hereAll_ws r (m.here p)
   exact ⟨h1, h2, h3, h4.trans (zzh m p)⟩
theorem again_rt {m : Mk} {j : Nat} {U : List Nat} {e d : Int} (h : Rt (fun q => q ∈ U) (fun i => i = j) m) (ho : ∀ p ∈ U, OpenAt m p) (hw : m.ws[j]? = some ⟨e, d, txt0, 0, 0⟩) (he : 0 < e ∧ e ≤ m.ins.length) (hd : 0 ≤ d) (hr : m.regs ≤ 256) (hj : ∀ x ∈ m.jobs, x.2.ahead = false) : Bd (again j m U) := by
 have hnp := not_pending h hw (by show e ≠ 0; omega)
 have g1 := h.setW (fun w => { w with day := dayIn w.day }) rfl hnp (fun w _ => rfl)
 have hw1 : (m.setW j fun w => { w with day := dayIn w.day }).ws[j]? = some ⟨e, dayIn d, txt0, 0, 0⟩ := by
   show (m.ws.modify j _)[j]? = _
   rw [List.getElem?_modify, hw]
   simp
 have g2 := g1.plain (x := ix 30 0 0 0) f30 rfl rfl (by show (30 : Int) ≠ 29; decide)
 have g3 := hereAll_rt U (m.setW j fun w => { w with day := dayIn w.day }).fin g2 (fun p hp => (show OpenAt (m.setW j fun w => { w with day := dayIn w.day }) p from ho p hp).ext ((Ext.refl _).fin))
 obtain ⟨k1, k2, k3, k4⟩ := hereAll_ws U (m.setW j fun w => { w with day := dayIn w.day }).fin
 have hjl : j < (m.setW j fun w => { w with day := dayIn w.day }).ws.length := (List.getElem?_eq_some_iff.1 hw1).1
 have g4 := g3.plain (x := ix 28 0 0 j) (f28 (by rw [k1]; exact hjl)) rfl rfl (by show (28 : Int) ≠ 29; decide)
 have hfl : (m.setW j fun w => { w with day := dayIn w.day }).fin.ins.length = m.ins.length + 1 := zzf _ _
 unfold again
 refine g4.close (fun i hi w hwi => ?_) (by show (hereAll _ U).regs ≤ 256; rw [k3]; exact hr) (fun x hx => hj x (by have : x ∈ (hereAll _ U).jobs := hx; rw [k2] at this; exact this))
 subst hi
 have hwi' : (hereAll _ U).ws[i]? = some w := hwi
 rw [k1] at hwi'
 have hwi2 : (m.setW i fun w => { w with day := dayIn w.day }).ws[i]? = some w := hwi'
 rw [hw1] at hwi2
 cases hwi2
 have hday : 0 ≤ dayIn d ∧ dayIn d ≤ 73048 := by unfold dayIn; split <;> omega
 refine ⟨⟨by show 0 ≤ e; omega, ?_⟩, hday, .inl ⟨rfl, rfl, rfl⟩⟩
 show e < _
 rw [zzf, k4, hfl]
 omega
theorem day_99' {op n : Int} {s : ByteArray} {ks : List T} (h : (T.mk op n s ks).letter = 99) (ho : op = 29 ∨ op = 30 ∨ op = 31) : 0 ≤ n ∧ n ≤ 73048 := by
 obtain ⟨-, hf⟩ := letter_inv h (by decide) (by omega)
 rcases ho with rfl | rfl | rfl
 · exact day_of (.inr (.inl rfl)) hf
 · exact day_of (.inr (.inr rfl)) hf
 · simp [fields, Gen.within] at hf
   omega
theorem pick_name {n : Int} {s : ByteArray} {ks : List T} (h : (T.mk 31 n s ks).letter = 99) : Led.isName s = true := by
 obtain ⟨-, hf⟩ := letter_inv h (by decide) (by decide)
 simp [fields] at hf
 exact hf.1
theorem either_ext {con : T → Mk → Mk} (r : Int) (t : T) (m : Mk) (hc : ∀ (t : T) (m : Mk), Ext m (con t m)) : Ext m (zqf con r t m) := by
 obtain ⟨A, B, C, D, hA, hB, hC, hD, e⟩ := zqp con r t m
 have h1 : Ext m A := by rw [hA]; exact (Ext.refl m).lay _
 have h2 : Ext m B := by rw [hB]; exact h1.trans (hc _ _)
 have h3 : Ext m C := by rw [hC]; exact ((h2.back _).lay _).here _
 have h4 : Ext m D := by rw [hD]; exact h3.trans (hc _ _)
 rw [e]
 exact (h4.back _).here _
theorem either_len {con : T → Mk → Mk} (r : Int) (t : T) (m : Mk) (hc : ∀ (t : T) (m : Mk), m.ws.length ≤ (con t m).ws.length ∧ m.ins.length ≤ (con t m).ins.length) : m.ins.length ≤ (zqf con r t m).ins.length := by
 obtain ⟨A, B, C, D, hA, hB, hC, hD, e⟩ := zqp con r t m
 have h1 := (hc (t.kid 1) A).2
 have h2 := (hc (t.kid 2) C).2
 rw [← hB] at h1
 rw [← hD] at h2
 rw [e, zzh, zzj]
 have e1 : A.ins.length = m.ins.length + 1 := by rw [hA]; exact zzf _ _
 have e2 : C.ins.length = B.ins.length + 1 := by rw [hC, zzh, zzf, zzj]
 omega
theorem con_rt' {O Fl : Nat → Prop} {t : T} {m : Mk} (hx : t.letter = 99) (hd : t.depth ≤ 200) (hah : t.ahead = false) (h0 : 0 ≤ m.next) (h : Rt O Fl m) : CoRt O Fl t.depth m (con false 200 t m) := con_rt 200 t m O Fl hx hd hah h0 h
set_option maxHeartbeats 1000000 in
theorem wait_rt {k : Nat} {m : Mk} {j : Nat} {t : T} {r : List (Nat × T)} (h : Bd m) (hs : St k m) (e : m.jobs = (j, t) :: r) (h0 : 0 < m.ins.length) : Bd (wait false j t (zqa m r)) := by
 obtain ⟨hj, hx, hw, hd⟩ := hs.job e
 have hah := h.ja (j, t) (by rw [e]; exact List.mem_cons_self ..)
 obtain ⟨hb, hwj⟩ := h.rt.begin e h0
 have hjr : ∀ x ∈ (zze j (zqa m r)).jobs, x.2.ahead = false := fun x hx => h.ja x (by rw [e]; exact List.mem_cons_of_mem _ hx)
 have hrg : (zze j (zqa m r)).regs ≤ 256 := h.rg
 have hnx : (zze j (zqa m r)).next = 0 := rfl
 have hil : (zze j (zqa m r)).ins.length = m.ins.length := rfl
 have hnp := not_pending hb hwj (by show (m.ins.length : Int) ≠ 0; omega)
 generalize hI : zze j (zqa m r) = I at *
 obtain ⟨op, n, s, ks⟩ := t
 obtain ⟨-, hka⟩ := ahead_kids hah
 have hkd : ∀ k ∈ ks, k.depth ≤ 200 := fun k hk => by
   have h1 := depths_mem hk
   rw [depth_kids] at hd
   omega
 rcases zzw hx with (⟨rfl, rfl⟩ | ⟨rfl, rfl⟩) | ⟨h1, a, rfl, ha⟩ | ⟨rfl, o, a, rfl, ho, ha⟩ | ⟨h1, a, b, rfl, ha, hb'⟩ | ⟨rfl, o, a, b, rfl, ho, ha, hb'⟩ | ⟨rfl, o, a, rfl, ho, ha⟩
 · rw [zzn (by omega)] at hw; cases hw
 · rw [zzn (by omega)] at hw; cases hw
 · rcases h1 with rfl | rfl
   · rw [zzn (by omega)] at hw; cases hw
   · have hday := day_99' hx (.inl rfl)
     rw [wait_at rfl, kid0, hI]
     have g1 := (hb.setW (fun w => { w with day := n }) rfl hnp (fun w _ => rfl)).jump (x := ix 22 0 0 n) (f22 hday) rfl (by show (22 : Int) ≠ 29; decide)
     have o1 : OpenAt ((I.setW j fun w => { w with day := n }).lay (ix 22 0 0 n)) I.ins.length := OpenAt.lay (I.setW j fun w => { w with day := n }) rfl
     have hw1 : ((I.setW j fun w => { w with day := n }).lay (ix 22 0 0 n)).ws[j]? = some ⟨m.ins.length, n, txt0, 0, 0⟩ := by
       show (I.ws.modify j _)[j]? = _
       rw [List.getElem?_modify, hwj]
       simp
     have hn1 : ((I.setW j fun w => { w with day := n }).lay (ix 22 0 0 n)).next = 0 := hnx
     have hr1 : ((I.setW j fun w => { w with day := n }).lay (ix 22 0 0 n)).regs ≤ 256 := hrg
     have hj1 : ∀ x ∈ ((I.setW j fun w => { w with day := n }).lay (ix 22 0 0 n)).jobs, x.2.ahead = false := hjr
     have hl1 : ((I.setW j fun w => { w with day := n }).lay (ix 22 0 0 n)).ins.length = m.ins.length + 1 := by rw [zzf]; show I.ins.length + 1 = _; omega
     show Bd (again j (con false 200 a ((I.setW j fun w => { w with day := n }).lay (ix 22 0 0 n))) [I.ins.length])
     have hc := con_rt' ha (hkd a (by simp)) (hka a (by simp)) (by omega) (g1.weak (O' := fun q => q ∈ [I.ins.length]) fun q hq => by rcases hq with h | h; exact absurd h id; rw [List.mem_singleton]; exact h)
     have he := con_ext false 200 a ((I.setW j fun w => { w with day := n }).lay (ix 22 0 0 n))
     have hl := (con_wl false 200 a ((I.setW j fun w => { w with day := n }).lay (ix 22 0 0 n))).2
     generalize con false 200 a ((I.setW j fun w => { w with day := n }).lay (ix 22 0 0 n)) = C at *
     have c2 := hc.hi
     have hda := hkd a (by simp)
     exact again_rt hc.rt (fun p hp => by rw [List.mem_singleton] at hp; subst hp; exact o1.ext he) (ws_at he hw1) ⟨by omega, by omega⟩ hday.1 (by omega) (fun x hx => (hc.ja x hx).elim (hj1 x) id)
 · rw [wait_scale rfl, kid0, kid1, hI]
   have go := obs_rt 200 o I [] NoW (fun i => i = j) (obs_n ho) (hkd o (by simp)) (hka o (by simp)) (by omega) hb.ornil
   have eo := obs_ext false 200 o I []
   have lo := obs_len false 200 o I []
   have jo := jobs_eq (jw_obs false 200 o I [])
   generalize obs false 200 o I [] = A at *
   have a1 := go.r
   have a2 := go.nx
   have a3 := go.lo
   have a4 := go.mo
   have a5 := go.hi
   have hdo := hkd o (by simp)
   have g1 := go.rt.plain (x := ix 23 0 A.1 0) (f23 ⟨by omega, by omega⟩) rfl rfl (by show (23 : Int) ≠ 29; decide)
   have hc := con_rt' ha (hkd a (by simp)) (hka a (by simp)) (by show 0 ≤ A.2.1.next; omega) (g1.weak (O' := fun q => q ∈ A.2.2) fun q hq => hq.elim (fun h => absurd h id) id)
   have he := con_ext false 200 a (A.2.1.lay (ix 23 0 A.1 0))
   have hl := (con_wl false 200 a (A.2.1.lay (ix 23 0 A.1 0))).2
   rw [zzf] at hl
   have e1 : (A.2.1.lay (ix 23 0 A.1 0)).next = A.2.1.next ∧ (A.2.1.lay (ix 23 0 A.1 0)).regs = A.2.1.regs ∧ (A.2.1.lay (ix 23 0 A.1 0)).jobs = A.2.1.jobs := ⟨rfl, rfl, rfl⟩
   generalize con false 200 a (A.2.1.lay (ix 23 0 A.1 0)) = C at *
   have c2 := hc.hi
   have hda := hkd a (by simp)
   exact again_rt hc.rt (fun p hp => by
     rcases go.op p hp with h | h
     · cases h
     · exact h.ext (((Ext.refl _).lay _).trans he)) (ws_at (eo.trans (((Ext.refl _).lay _).trans he)) hwj) ⟨by omega, by omega⟩ (Int.le_refl _) (by omega) (fun x hx => by
       rcases hc.ja x hx with h | h
       · rw [e1.2.2, jo] at h; exact hjr x h
       · exact h)
 · rcases h1 with rfl | rfl
   · rw [zzn (by omega)] at hw; cases hw
   · have hday := day_99' hx (.inr (.inr rfl))
     have hname := pick_name hx
     rw [wait_pick rfl, hI]
     obtain ⟨A, C, B, D, hA, hC, hB, hD, e2⟩ := pick_parts false j (T.mk 31 n s [a, b]) I
     rw [kid0] at hC
     rw [kid1] at hD
     have hda := hkd a (by simp)
     have hdb := hkd b (by simp)
     have gA : Rt (fun q => NoW q ∨ q = I.ins.length) (fun i => i = j) A := by
       rw [hA]
       have hjl : j < I.ws.length := (List.getElem?_eq_some_iff.1 hwj).1
       exact ((hb.jump (x := ix 21 0 0 n) (f21 hday) rfl (by show (21 : Int) ≠ 29; decide)).plain (x := ix 28 0 0 j) (f28 hjl) rfl rfl (by show (28 : Int) ≠ 29; decide)).plain (x := ix 30 0 0 0) f30 rfl rfl (by show (30 : Int) ≠ 29; decide)
     have eA : Ext I A := by rw [hA]; exact (((Ext.refl I).lay _).lay _).fin
     have oA : OpenAt A I.ins.length := by rw [hA]; exact (OpenAt.lay I (x := ix 21 0 0 n) rfl).ext (((Ext.refl _).lay _).fin)
     have lA : A.ins.length = I.ins.length + 3 := by rw [hA]; unfold Mk.fin; rw [zzf, zzf, zzf]
     have nA : A.next = I.next ∧ A.regs = I.regs ∧ A.jobs = I.jobs := by rw [hA]; exact ⟨rfl, rfl, rfl⟩
     have gA2 := gA.jump (x := ix 21 0 0 n) (f21 hday) rfl (by show (21 : Int) ≠ 29; decide)
     have oA2 : OpenAt (A.lay (ix 21 0 0 n)) A.ins.length := OpenAt.lay A rfl
     have hc := con_rt' ha hda (hka a (by simp)) (by show 0 ≤ A.next; omega) gA2
     have he := con_ext false 200 a (A.lay (ix 21 0 0 n))
     have hl := (con_wl false 200 a (A.lay (ix 21 0 0 n))).2
     rw [zzf] at hl
     change C = con false 200 a (A.lay (ix 21 0 0 n)) at hC
     rw [← hC] at hc he hl
     have c2 := hc.hi
     have c3 := hc.mo
     have e3 : (A.lay (ix 21 0 0 n)).next = A.next ∧ (A.lay (ix 21 0 0 n)).regs = A.regs ∧ (A.lay (ix 21 0 0 n)).jobs = A.jobs := ⟨rfl, rfl, rfl⟩
     have eAC : Ext A C := ((Ext.refl A).lay _).trans he
     have gB : Rt NoW (fun i => i = j) B := by
       rw [hB]
       have h2 := (hc.rt.plain (x := ix 30 0 0 0) f30 rfl rfl (by show (30 : Int) ≠ 29; decide)).here (p := I.ins.length) ((oA.ext eAC).ext (Ext.refl C).fin)
       have h3 := h2.here (p := A.ins.length) ((oA2.ext he).ext ((Ext.refl C).fin.here _))
       exact h3.weak fun q hq => by
         obtain ⟨⟨h4, h5⟩, h6⟩ := hq
         rcases h4 with (h4 | h4) | h4
         · exact h4
         · exact absurd h4 h5
         · exact absurd h4 h6
     have lB : B.ins.length = C.ins.length + 1 := by rw [hB, zzh, zzh]; exact zzf _ _
     have nB : B.regs = C.regs ∧ B.jobs = C.jobs := by rw [hB]; exact ⟨rfl, rfl⟩
     have eCB : Ext C B := by rw [hB]; exact ((Ext.refl C).fin.here _).here _
     have gF : Rt NoW (fun i => i = j) B.fresh := gB.same rfl rfl rfl (Int.le_refl _)
     have hc2 := con_rt' hb' hdb (hka b (by simp)) (by show (0 : Int) ≤ 0; omega) gF
     have he2 := con_ext false 200 b B.fresh
     have hl2 := (con_wl false 200 b B.fresh).2
     rw [← hD] at hc2 he2 hl2
     have e4 : B.fresh.next = 0 ∧ B.fresh.regs = B.regs ∧ B.fresh.jobs = B.jobs ∧ B.fresh.ins.length = B.ins.length := ⟨rfl, rfl, rfl, rfl⟩
     have d2 := hc2.hi
     have eD : Ext I D := eA.trans (eAC.trans (eCB.trans (((Ext.refl B).fresh).trans he2)))
     have hwD := ws_at eD hwj
     have hnpD := not_pending hc2.rt hwD (by show (m.ins.length : Int) ≠ 0; omega)
     have hset := hc2.rt.setW (fun _ => ⟨I.ins.length, dayIn (n + 1), s, A.ins.length, B.ins.length⟩) rfl hnpD (fun w hw => by rw [hwD] at hw; cases hw; show (I.ins.length : Int) = _; rw [hil])
     rw [e2]
     show Bd ((D.setW j fun _ => ⟨I.ins.length, dayIn (n + 1), s, A.ins.length, B.ins.length⟩).fin)
     refine hset.close (fun i hi w hw => ?_) (by show D.regs ≤ 256; omega) (fun x hx => ?_)
     · subst hi
       have hw' : (D.ws.modify i _)[i]? = some w := hw
       rw [List.getElem?_modify, hwD] at hw'
       simp only [if_pos rfl, Option.map_some, Option.some.injEq, if_true, Functor.map] at hw'
       subst hw'
       have hday2 : 0 ≤ dayIn (n + 1) ∧ dayIn (n + 1) ≤ 73048 := by unfold dayIn; split <;> omega
       have hDl : (D.setW i fun _ => (⟨I.ins.length, dayIn (n + 1), s, A.ins.length, B.ins.length⟩ : Wt)).ins.length = D.ins.length := rfl
       refine ⟨⟨by show (0 : Int) ≤ (I.ins.length : Int); omega, by show (I.ins.length : Int) < _; rw [hDl]; omega⟩, hday2, .inr ⟨hname, ⟨by show (0 : Int) ≤ (A.ins.length : Int); omega, by show (A.ins.length : Int) < _; rw [hDl]; omega⟩, by show (0 : Int) ≤ (B.ins.length : Int); omega, by show (B.ins.length : Int) < _; rw [hDl]; omega⟩⟩
     · have hx' : x ∈ D.jobs := hx
       rcases hc2.ja x hx' with h | h
       · rw [e4.2.2.1, nB.2] at h
         rcases hc.ja x h with h | h
         · rw [e3.2.2, nA.2.2] at h; exact hjr x h
         · exact h
       · exact h
 · rw [wait_if rfl, kid0, hI]
   have go := obs_rt 200 o I [] NoW (fun i => i = j) (obs_b ho) (hkd o (by simp)) (hka o (by simp)) (by omega) hb.ornil
   have eo := obs_ext false 200 o I []
   have lo := obs_len false 200 o I []
   have jo := jobs_eq (jw_obs false 200 o I [])
   generalize obs false 200 o I [] = A at *
   have a1 := go.r
   have a2 := go.nx
   have a3 := go.lo
   have a4 := go.mo
   have a5 := go.hi
   have hdo := hkd o (by simp)
   have hda := hkd a (by simp)
   have hdb := hkd b (by simp)
   have hc := either_rt (con := con false 200) (t := T.mk 28 n s [o, a, b]) (r := A.1) (Da := a.depth) (Db := b.depth) (go.rt.weak (O' := fun q => q ∈ A.2.2) fun q hq => hq.elim (fun h => absurd h id) id) ⟨by omega, by omega⟩
     (fun O m h => ⟨con_ext false 200 _ m, fun h0 => by rw [kid1]; exact con_rt' ha hda (hka a (by simp)) h0 h⟩) (fun O m h => ⟨con_ext false 200 _ m, fun h0 => by rw [kid2]; exact con_rt' hb' hdb (hka b (by simp)) h0 h⟩) (by omega)
   have he := either_ext A.1 (T.mk 28 n s [o, a, b]) A.2.1 (con_ext false 200)
   have hl := (either_len A.1 (T.mk 28 n s [o, a, b]) A.2.1 (con_wl false 200))
   generalize zqf (con false 200) A.1 (T.mk 28 n s [o, a, b]) A.2.1 = C at *
   have c2 := hc.hi
   exact again_rt hc.rt (fun p hp => by
     rcases go.op p hp with h | h
     · cases h
     · exact h.ext he) (ws_at (eo.trans he) hwj) ⟨by omega, by omega⟩ (Int.le_refl _) (by omega) (fun x hx => by
       rcases hc.ja x hx with h | h
       · rw [jo] at h; exact hjr x h
       · exact h)
 · have hday := day_99' hx (.inr (.inl rfl))
   rw [wait_when rfl, kid0, kid1, hI]
   have g1 := (hb.setW (fun w => { w with day := n + 1 }) rfl hnp (fun w _ => rfl)).jump (x := ix 21 0 0 n) (f21 hday) rfl (by show (21 : Int) ≠ 29; decide)
   have o1 : OpenAt ((I.setW j fun w => { w with day := n + 1 }).lay (ix 21 0 0 n)) I.ins.length := OpenAt.lay (I.setW j fun w => { w with day := n + 1 }) rfl
   have hw1 : ((I.setW j fun w => { w with day := n + 1 }).lay (ix 21 0 0 n)).ws[j]? = some ⟨m.ins.length, n + 1, txt0, 0, 0⟩ := by
     show (I.ws.modify j _)[j]? = _
     rw [List.getElem?_modify, hwj]
     simp
   have hn1 : ((I.setW j fun w => { w with day := n + 1 }).lay (ix 21 0 0 n)).next = 0 := hnx
   have hr1 : ((I.setW j fun w => { w with day := n + 1 }).lay (ix 21 0 0 n)).regs ≤ 256 := hrg
   have hj1 : ∀ x ∈ ((I.setW j fun w => { w with day := n + 1 }).lay (ix 21 0 0 n)).jobs, x.2.ahead = false := hjr
   have hl1 : ((I.setW j fun w => { w with day := n + 1 }).lay (ix 21 0 0 n)).ins.length = m.ins.length + 1 := by rw [zzf]; show I.ins.length + 1 = _; omega
   change Bd (again j ((con false 200 a ((obs false 200 o ((I.setW j fun w => { w with day := n + 1 }).lay (ix 21 0 0 n)) []).2.1.lay (ix 19 0 (obs false 200 o ((I.setW j fun w => { w with day := n + 1 }).lay (ix 21 0 0 n)) []).1 0))).here I.ins.length) ((obs false 200 o ((I.setW j fun w => { w with day := n + 1 }).lay (ix 21 0 0 n)) []).2.2 ++ [(obs false 200 o ((I.setW j fun w => { w with day := n + 1 }).lay (ix 21 0 0 n)) []).2.1.ins.length]))
   generalize (I.setW j fun w => { w with day := n + 1 }).lay (ix 21 0 0 n) = Q at *
   have hdo := hkd o (by simp)
   have hda := hkd a (by simp)
   have go := obs_rt 200 o Q [] (fun q => q = I.ins.length) (fun i => i = j) (obs_b ho) hdo (hka o (by simp)) (by omega) (g1.weak fun q hq => hq.elim (fun h => absurd h id) .inl)
   have eo := obs_ext false 200 o Q []
   have lo := obs_len false 200 o Q []
   have jo := jobs_eq (jw_obs false 200 o Q [])
   generalize obs false 200 o Q [] = A at *
   have a1 := go.r
   have a2 := go.nx
   have a3 := go.lo
   have a4 := go.mo
   have a5 := go.hi
   have g2 := go.rt.jump (x := ix 19 0 A.1 0) (f19 ⟨by omega, by omega⟩) rfl (by show (19 : Int) ≠ 29; decide)
   have o2 : OpenAt (A.2.1.lay (ix 19 0 A.1 0)) A.2.1.ins.length := OpenAt.lay A.2.1 rfl
   have hc := con_rt' ha hda (hka a (by simp)) (by show 0 ≤ A.2.1.next; omega) g2
   have he := con_ext false 200 a (A.2.1.lay (ix 19 0 A.1 0))
   have hl := (con_wl false 200 a (A.2.1.lay (ix 19 0 A.1 0))).2
   rw [zzf] at hl
   have e1 : (A.2.1.lay (ix 19 0 A.1 0)).next = A.2.1.next ∧ (A.2.1.lay (ix 19 0 A.1 0)).regs = A.2.1.regs ∧ (A.2.1.lay (ix 19 0 A.1 0)).jobs = A.2.1.jobs := ⟨rfl, rfl, rfl⟩
   generalize con false 200 a (A.2.1.lay (ix 19 0 A.1 0)) = C at *
   have c2 := hc.hi
   have ex : Ext Q C := eo.trans (((Ext.refl _).lay _).trans he)
   have hh := hc.rt.here (p := I.ins.length) (o1.ext ex)
   have hlh := zzh C I.ins.length
   refine again_rt (hh.weak (O' := fun q => q ∈ A.2.2 ++ [A.2.1.ins.length]) fun q hq => ?_) (fun p hp => ?_) (show (C.here I.ins.length).ws[j]? = some ⟨m.ins.length, n + 1, txt0, 0, 0⟩ by have h5 := ws_at ex hw1; exact h5) ⟨by omega, by omega⟩ (by omega) (by show C.regs ≤ 256; omega) (fun x hx => ?_)
   · obtain ⟨h1, h2⟩ := hq
     rcases h1 with (h1 | h1) | h1
     · exact absurd h1 h2
     · exact List.mem_append_left _ h1
     · exact List.mem_append_right _ (by rw [List.mem_singleton]; exact h1)
   · rcases List.mem_append.1 hp with h1 | h1
     · rcases go.op p h1 with h | h
       · cases h
       · exact h.ext ((((Ext.refl _).lay _).trans he).here _)
     · rw [List.mem_singleton] at h1
       subst h1
       exact o2.ext (he.here _)
   · have hx' : x ∈ C.jobs := hx
     rcases hc.ja x hx' with h | h
     · rw [e1.2.2, jo] at h; exact hj1 x h
     · exact h
theorem first_rt {t : T} (hx : t.letter = 99) (hd : t.depth ≤ 200) (hah : t.ahead = false) : Bd (con false 200 t mk0).fin := by
 have h0 : Rt NoW NoW mk0 := ⟨fun p x hx => by simp [mk0] at hx, fun p x hx => by simp [mk0] at hx, fun j w hw => by simp [mk0] at hw, fun x hx => by simp [mk0] at hx, by simp [mk0]⟩
 have hc := con_rt' hx hd hah (by decide) h0
 have h1 := hc.hi
 have e1 : mk0.regs = 0 ∧ mk0.next = 0 := ⟨rfl, rfl⟩
 exact hc.rt.close (fun j hj => absurd hj id) (by omega) (fun x hx => by
   rcases hc.ja x hx with h | h
   · simp [mk0] at h
   · exact h)
theorem con_many' {t : T} (hx : t.letter = 99) (sh : Bool) : wsum (jw (con sh 200 t mk0).fin) ≤ manyT t := by
 have := con_many sh 200 t mk0 hx
 have e : wsum (jw mk0) = 0 := rfl
 show wsum (jw (con sh 200 t mk0)) ≤ _
 omega
def Mk.code (m : Mk) : Cd := ⟨m.regs, m.ws, m.ins⟩
theorem within_of {n a b : Int} (h : a ≤ n ∧ n ≤ b) : within n a b = true := by
 unfold within
 rw [decide_eq_true h.1, decide_eq_true h.2]
 rfl
theorem bd_right {m : Mk} (h : Bd m) (hj : m.jobs = []) (hr : 0 ≤ m.regs) (hl : 1 ≤ m.ins.length ∧ m.ins.length ≤ 16384) (hw : m.ws.length ≤ 250) : Gen.right m.code = true := by
 have hnp : ∀ j, ¬ Pending m j := fun j ⟨x, hx, _⟩ => by rw [hj] at hx; cases hx
 unfold Gen.right
 simp only [Bool.and_eq_true, decide_eq_true_eq, List.all_eq_true]
 refine ⟨within_of ⟨hr, h.rg⟩, hw, hl.1, hl.2, h.ls, fun w hw => ?_, fun p hp => ?_⟩
 · obtain ⟨i, hi⟩ := List.getElem?_of_mem (show w ∈ m.ws from hw)
   have hk : WOk m.ins.length w := by
     rcases h.rt.waits i w hi with h1 | h1 | h1
     · exact absurd h1 (hnp i)
     · exact absurd h1 id
     · exact h1
   have he := hk.e
   have hp : ∀ n : Int, 0 ≤ n ∧ n < m.ins.length → place m.code n = true := fun n h => by
     unfold place
     rw [decide_eq_true h.1, show decide (n < (m.code.ins.length : Int)) = true from decide_eq_true h.2]
     rfl
   unfold waitOk
   rw [hp _ he, within_of hk.d]
   rcases hk.l with ⟨h1, h2, h3⟩ | ⟨h1, h2, h3⟩
   · rw [if_pos (show w.label = ⟨#[]⟩ from h1), decide_eq_true h2, decide_eq_true h3]
     rfl
   · rw [if_neg (show ¬ w.label = ⟨#[]⟩ from fun e => by rw [e] at h1; exact absurd h1 (by decide +kernel)), h1, hp _ h2, hp _ h3]
     rfl
 · obtain ⟨x, i⟩ := p
   rw [List.mem_iff_getElem?] at hp
   obtain ⟨q, hq⟩ := hp
   rw [List.getElem?_zipIdx] at hq
   obtain ⟨y, hy, e⟩ := Option.map_eq_some_iff.1 hq
   simp only [Prod.mk.injEq] at e
   obtain ⟨rfl, rfl⟩ := e
   have hy' : m.ins[q]? = some y := hy
   obtain ⟨h1, h2⟩ := h.rt.ins q y hy'
   have h3 := h.st q y hy'
   simp only [Nat.zero_add]
   unfold ixF at h1
   simp only [Bool.and_eq_true, decide_eq_true_eq] at h1
   obtain ⟨a1, a2, a3, a4, a5, a6, a7⟩ := h1
   unfold insOk
   have ht : toOk m.code (q : Int) y = true := by
     unfold toOk
     unfold toF at h2
     split at h2
     · rename_i hu
       rw [if_pos hu]
       rcases h2 with h2 | h2
       · exact absurd h2 id
       · rw [decide_eq_true h2.1, show decide (y.to < (m.code.ins.length : Int)) = true from decide_eq_true (h3 hu)]
         rfl
     · rename_i hu
       rw [if_neg hu]
       exact decide_eq_true h2
   have hn : numOk m.code (q : Int) y = true := by
     unfold numF at a6
     unfold numOk
     split at a6
     · rename_i g1; rw [if_pos g1]; exact a6
     rename_i g1
     rw [if_neg g1]
     split at a6
     · rename_i g2; rw [if_pos g2]; exact a6
     rename_i g2
     rw [if_neg g2]
     split at a6
     · rename_i g3; rw [if_pos g3]; exact a6
     rename_i g3
     rw [if_neg g3]
     split at a6
     · rename_i g4
       rcases g4 with g4 | g4
       · rw [if_pos g4]; exact a6
       · rw [if_neg (by omega), if_pos g4]
         have a6' : within y.n 0 (m.code.waits.length - 1) = true := a6
         rw [a6']
         obtain ⟨j, e1, e2⟩ := h.rt.calls q y hy' g4
         rcases e2 with e2 | ⟨w, e2, e3⟩
         · exact absurd e2 (hnp j)
         · have : entryAt m.code y.n = w.entry := by
             unfold entryAt
             rw [e1, Int.toNat_natCast]
             have e2' : m.code.waits[j]? = some w := e2
             rw [e2']
           rw [this]
           simpa using e3
     · rename_i g4
       rw [if_neg (by omega), if_neg (by omega)]
       exact a6
   have b1 : fld (useA y.op) y.a m.code.regs = true := a3
   have b2 : fld (useB y.op) y.b m.code.regs = true := a4
   have b3 : fld (useC y.op) y.c m.code.regs = true := a5
   rw [decide_eq_true a1, decide_eq_true a2, b1, b2, b3, ht, hn, a7]
   rfl
theorem make_right {t : T} (hx : t.letter = 99) (hd : t.depth ≤ 200) (hs : t.size ≤ 2000) (hah : t.ahead = false) (hm : manyT t ≤ 250) : Gen.right (make false t).code = true := by
 obtain ⟨hS, hT⟩ := st_first false t hx hd
 have hB := first_rt hx hd hah
 have hL : 0 < (con false 200 t mk0).fin.ins.length := by unfold Mk.fin; rw [zzf]; omega
 obtain ⟨⟨p1, p2, p3⟩, q, r⟩ := run_ind (P := fun m => Bd m ∧ 0 < m.ins.length ∧ wsum (jw m) ≤ manyT t) false (k := 8 * t.size + 1) (fun m j u r hs hp e => by
   obtain ⟨h1, h2, h3⟩ := hp
   obtain ⟨hj, hx', hw', hd'⟩ := hs.job e
   have hgr := (wait_gr false j u (zqa m r)).ln
   have hll : (zze j (zqa m r)).ins.length = m.ins.length := rfl
   have hwm := wait_many false j u (zqa m r) hx' hw'
   have hwp := waits_many hw'
   have hpp : wsum (jw m) = wsum (jw (zqa m r)) + (manyT u - 1) := by
     show m.ws.length + pendW m.jobs = m.ws.length + pendW r + _
     rw [e, pendW]
     simp only
     omega
   exact ⟨wait_rt h1 hs e h2, by omega, by omega⟩) t.size _ hS ⟨hB, hL, con_many' hx false⟩ hT
 refine bd_right p1 r q.rg.1 ⟨p2, ?_⟩ ?_
 · have := q.len; show (run false t.size (con false 200 t mk0).fin).ins.length ≤ 16384; omega
 · have : (run false t.size (con false 200 t mk0).fin).ws.length ≤ wsum (jw (run false t.size (con false 200 t mk0).fin)) := Nat.le_add_right _ _
   show (run false t.size (con false 200 t mk0).fin).ws.length ≤ 250
   omega
end Gf
end
end Go.Proofs.YtanlmbbalamgkaaGreatDoor

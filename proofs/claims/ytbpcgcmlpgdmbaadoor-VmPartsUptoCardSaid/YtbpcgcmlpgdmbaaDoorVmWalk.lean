/- Proved: the machine's run as a contract. -/
import Derived.Test.YtbpcgcmlpgdmbaaDoorVmFeed2
import Derived.Test.YtbpcgcmlpgdmbaaDoorVmReckon
import Derived.Test.YtbpcgcmlpgdmbaaDoorKeepRegion
import Derived.Deep.DeepCutAuto
import Derived.WalkMore
import Derived.Scope
namespace Go.Proofs.YtbpcgcmlpgdmbaaDoor
open Go.RowKit
open Gen
open Rw
set_option linter.unusedVariables false
set_option linter.unusedSimpArgs false
set_option maxRecDepth 100000
structure LSt (W0 : World) (mb : Nat) (c : Gen.Cd) (day : Int) (vw vi vf : Value) (st : Vm.St) (vh vo : Value) (rg : Nat) (r : List Int) (w W : World) : Prop where
  m : Mach W0 mb c day vw vi vf st vh vo W
  rb : RegBox W rg r
  kp : KpM mb w W
  lt : mb < rg
def RunPost (W0 : World) (mb : Nat) (c : Gen.Cd) (day : Int) (vw vi vf : Value) (st : Vm.St) (w : World) (e : Ending) (w' : World) : Prop :=
  (∃ r, e = .returned r) ∧ (∃ vh vo, Mach W0 mb c day vw vi vf st vh vo w') ∧ KpM mb w w'
structure RunEnv (W0 : World) (mb : Nat) (c : Gen.Cd) (F : List Fd.Feed) (day : Int) (vw vi vf : Value) : Prop where
  cd : CdAt W0 (.agg #[.int .i64 c.regs, vw, vi]) c
  fs : FeedsAt W0 vf F
  rt : Gen.right c = true
  ok : Fd.Ok F
  day : 0 ≤ day ∧ day ≤ 73048
  mb : W0.heap.size ≤ mb
theorem zero_regs : Tryd.zeroCells73 = regCells Vm.zeros := by kernel_rfl
theorem zeros_len : Vm.zeros.length = 256 := by unfold Vm.zeros; rw [List.length_replicate]
theorem LSt.start {W0 : World} {mb : Nat} {c : Gen.Cd} {day : Int} {vw vi vf : Value} {st : Vm.St} {vh vo : Value} {w : World} (h : Mach W0 mb c day vw vi vf st vh vo w) :
    LSt W0 mb c day vw vi vf st vh vo w.heap.size Vm.zeros w (w.alloc (.cells Tryd.zeroCells73 73)) := by
  have B := (Below.refl w.heap.size w).alloc (Nat.le_refl _) (.cells Tryd.zeroCells73 73)
  exact ⟨h.below B, ⟨zeros_len, by rw [zero_regs]; exact heap_alloc_new _ _⟩, KpM.below B (Nat.le_of_lt h.lt), h.lt⟩
theorem LSt.below {W0 : World} {mb : Nat} {c : Gen.Cd} {day : Int} {vw vi vf : Value} {st : Vm.St} {vh vo : Value} {rg : Nat} {r : List Int} {w W W' : World} (h : LSt W0 mb c day vw vi vf st vh vo rg r w W) (b : Below W.heap.size W W') : LSt W0 mb c day vw vi vf st vh vo rg r w W' :=
  ⟨h.m.below b, ⟨h.rb.1, box_below b h.rb.2⟩, h.kp.trans (KpM.below b (Nat.le_of_lt h.m.lt)), h.lt⟩
/-- The instruction's box. -/
def XBox (W : World) (b : Nat) (x : Gen.Ix) : Prop := W.heap[b]? = some (.cells #[.int .i64 x.op, .int .i64 x.a, .int .i64 x.b, .int .i64 x.c, .int .i64 x.n, .string x.s, .int .i64 x.to] 39 (0, 0))
theorem LSt.steps {W0 : World} {mb : Nat} {c : Gen.Cd} {day : Int} {vw vi vf : Value} {st : Vm.St} {vh vo : Value} {rg : Nat} {r : List Int} {w W : World} (h : LSt W0 mb c day vw vi vf st vh vo rg r w W) :
    LSt W0 mb c day vw vi vf ⟨st.holds, st.out, st.steps + 1, st.over⟩ vh vo rg r w (W.setCell ⟨mb, 7, none⟩ (.int .i64 ((st.steps : Int) + 1))) :=
  ⟨h.m.steps, ⟨h.rb.1, (KpM.mset W 7 _).box (by have := h.lt; omega) (by decide) (by decide) h.rb.2⟩, h.kp.trans (KpM.mset W 7 _), h.lt⟩
theorem LSt.setOver {W0 : World} {mb : Nat} {c : Gen.Cd} {day : Int} {vw vi vf : Value} {st : Vm.St} {vh vo : Value} {rg : Nat} {r : List Int} {w W : World} (h : LSt W0 mb c day vw vi vf st vh vo rg r w W) (o : Bool) :
    LSt W0 mb c day vw vi vf ⟨st.holds, st.out, st.steps, o⟩ vh vo rg r w (W.setCell ⟨mb, 8, none⟩ (.bool o)) :=
  ⟨h.m.setOver o, ⟨h.rb.1, (KpM.mset W 8 _).box (by have := h.lt; omega) (by decide) (by decide) h.rb.2⟩, h.kp.trans (KpM.mset W 8 _), h.lt⟩
theorem LSt.setReg {W0 : World} {mb : Nat} {c : Gen.Cd} {day : Int} {vw vi vf : Value} {st : Vm.St} {vh vo : Value} {rg : Nat} {r : List Int} {w W : World} (h : LSt W0 mb c day vw vi vf st vh vo rg r w W) (hw : w.heap.size ≤ rg) (i v : Int) :
    LSt W0 mb c day vw vi vf st vh vo rg (Vm.setReg r i v) w (W.setCell ⟨rg, i.toNat, none⟩ (.int .i64 v)) := by
  refine ⟨h.m.other h.lt h.rb.2 (by decide) (by decide) _ _, h.rb.set i v, ⟨h.kp.bel.setCell (p := ⟨rg, i.toNat, none⟩) (Nat.le_of_lt h.lt) _, fun k cur t hk h1 h2 e => ?_⟩, h.lt⟩
  have := lt_of_block e
  rw [Below.heap_setCell W ⟨rg, i.toNat, none⟩ _ k (by show k ≠ rg; omega)]
  exact h.kp.oth k cur t hk h1 h2 e
theorem LSt.call {W0 : World} {mb : Nat} {c : Gen.Cd} {day : Int} {vw vi vf : Value} {st st' : Vm.St} {vh vo vh' vo' : Value} {rg : Nat} {r : List Int} {w W W' : World} (h : LSt W0 mb c day vw vi vf st vh vo rg r w W) (h' : Mach W0 mb c day vw vi vf st' vh' vo' W') (k : KpM mb W W') :
    LSt W0 mb c day vw vi vf st' vh' vo' rg r w W' :=
  ⟨h', ⟨h.rb.1, k.box (by have := h.lt; omega) (by decide) (by decide) h.rb.2⟩, h.kp.trans k, h.lt⟩
theorem LSt.pushTran {W0 : World} {mb : Nat} {c : Gen.Cd} {day : Int} {vw vi vf : Value} {st : Vm.St} {vh vo v' : Value} {rg : Nat} {r : List Int} {w W W' : World} (h : LSt W0 mb c day vw vi vf st vh vo rg r w W) {y : ByteArray × Int}
    (row : TranRow (mb + 1) W' v' day (st.out ++ [y])) (g : W.grownBy W' vo.ownBlock) : LSt W0 mb c day vw vi vf ⟨st.holds, st.out ++ [y], st.steps, st.over⟩ vh v' rg r w (W'.setCell ⟨mb, 6, none⟩ v') := by
  have K := (KpM.row h.m.ts (.inr rfl) g h.m.lt).trans (KpM.mset W' 6 v')
  exact ⟨h.m.pushTran row g, ⟨h.rb.1, K.box (by have := h.lt; omega) (by decide) (by decide) h.rb.2⟩, h.kp.trans K, h.lt⟩
theorem LSt.pushHold {W0 : World} {mb : Nat} {c : Gen.Cd} {day : Int} {vw vi vf : Value} {st : Vm.St} {vh vo v' : Value} {rg : Nat} {r : List Int} {w W W' : World} (h : LSt W0 mb c day vw vi vf st vh vo rg r w W) {y : Int × Int}
    (row : HoldRow (mb + 1) W' v' (st.holds ++ [y])) (g : W.grownBy W' vh.ownBlock) : LSt W0 mb c day vw vi vf ⟨st.holds ++ [y], st.out, st.steps, st.over⟩ v' vo rg r w (W'.setCell ⟨mb, 5, none⟩ v') := by
  have K := (KpM.row h.m.hs (.inl rfl) g h.m.lt).trans (KpM.mset W' 5 v')
  exact ⟨h.m.pushHold row g, ⟨h.rb.1, K.box (by have := h.lt; omega) (by decide) (by decide) h.rb.2⟩, h.kp.trans K, h.lt⟩
namespace Vm
theorem act2_none {c : Cd} {E : Env} {x : Ix} {a f : Int} {r : List Int} (h : x.op = 2) (hf : E.feed x.s x.n = none) : act c E x a f r = .next x.to f r := by rw [act, if_neg (by omega), if_neg (by omega), if_neg (by omega), if_pos h, hf]
theorem act2_some {c : Cd} {E : Env} {x : Ix} {a f : Int} {r : List Int} {n : Int} (h : x.op = 2) (hf : E.feed x.s x.n = some n) : act c E x a f r = .next (a + 1) f (setReg r x.a n) := by rw [act, if_neg (by omega), if_neg (by omega), if_neg (by omega), if_pos h, hf]
theorem act_jump {c : Cd} {E : Env} {x : Ix} {a f : Int} {r : List Int} (h : x.op = 20 ∨ x.op = 19 ∨ x.op = 21 ∨ x.op = 22) {b : Bool} (hj : jumps E x (reg r x.b) = b) : act c E x a f r = .next (if b = true then x.to else a + 1) f r := by
  rw [act, if_neg (by omega), if_neg (by omega), if_neg (by omega), if_neg (by omega), if_pos h, hj]
theorem act_pay0 {c : Cd} {E : Env} {x : Ix} {a f : Int} {r : List Int} (h : x.op = 27) (hf : f = 0) : act c E x a f r = .next (a + 1) f r := by
  rw [act, if_neg (by omega), if_neg (by omega), if_neg (by omega), if_neg (by omega), if_neg (by omega), if_neg (by omega), if_neg (by omega), if_neg (by omega), if_neg (by omega), if_pos h, if_pos hf]
theorem act_pay {c : Cd} {E : Env} {x : Ix} {a f : Int} {r : List Int} (h : x.op = 27) (hf : ¬ f = 0) : act c E x a f r = .pay := by
  rw [act, if_neg (by omega), if_neg (by omega), if_neg (by omega), if_neg (by omega), if_neg (by omega), if_neg (by omega), if_neg (by omega), if_neg (by omega), if_neg (by omega), if_pos h, if_neg hf]
theorem act_default {c : Cd} {E : Env} {x : Ix} {a f : Int} {r : List Int} (h : ¬ (x.op = 30 ∨ x.op = 1 ∨ x.op = 25 ∨ x.op = 24 ∨ x.op = 26 ∨ x.op = 23 ∨ x.op = 3 ∨ x.op = 2 ∨ x.op = 20 ∨ x.op = 19 ∨ x.op = 21 ∨ x.op = 22 ∨ x.op = 27 ∨ x.op = 28 ∨ x.op = 29)) : act c E x a f r = .next (a + 1) f (setReg r x.a (E.rk x.op (reg r x.b) (reg r x.c))) := by
  rw [act, if_neg (by omega), if_neg (by omega), if_neg (by omega), if_neg (by omega), if_neg (by omega), if_neg (by omega), if_neg (by omega), if_neg (by omega), if_neg (by omega), if_neg (by omega), if_neg (by omega), if_neg (by omega)]
end Vm
set_option maxHeartbeats 40000000 in
theorem run_any (W0 : World) (mb : Nat) (c : Gen.Cd) (F : List Fd.Feed) (day : Int) (vw vi vf : Value) (hE : RunEnv W0 mb c F day vw vi vf) : ∀ (d a : Nat) (f : Int) (st : Vm.St) (vh vo : Value) (w : World), c.ins.length - a ≤ d → a < c.ins.length → Vm.StOk st → Mach W0 mb c day vw vi vf st vh vo w →
    Calls Tryd.prog 16 #[.pointer (some ⟨mb, 0, none⟩), .int .i64 (a : Int), .int .i64 f] w (RunPost W0 mb c day vw vi vf (Vm.run c (Vm.env F day) (a : Int) f Vm.zeros st) w) := by
  intro d
  induction d with
  | zero => intro a f st vh vo w h1 h2; omega
  | succ d ih =>
    intro a f st vh vo w hd ha hst hm
    have IH := hid' ih
    have HE := hid' hE
    have HM := hid' hm
    have HST := hid' hst
    obtain ⟨R, hR⟩ : ∃ R, Hid (Vm.run c (Vm.env F day) (a : Int) f Vm.zeros st = R) := ⟨_, rfl⟩
    rw [hR.out]
    clear ih hE hm hst
    go_enter Tryd.func16, Tryd.ntmps16
    go_step3
    go_upto_region 1 with (fail)
    have HL0 := hid' (LSt.start HM.out)
    have HR0 := hid' (Nat.le_refl w.heap.size)
    clear HM
    generalize w.alloc (.cells Tryd.zeroCells73 73) = w1 at *
    obtain ⟨rg, hrg⟩ : ∃ rg, rg = w.heap.size := ⟨_, rfl⟩
    rw [← hrg] at HL0 ⊢
    have HRG := hid' (show w.heap.size ≤ rg by omega)
    clear hrg HR0
    go_step3
    go_wp2_with fail
    go_loopw [1, 2] (fun av fv wr => ∃ (a' : Nat) (f' : Int) (r : List Int) (st' : Vm.St) (vh' vo' : Value), av = .int .i64 (a' : Int) ∧ fv = .int .i64 f' ∧ (a ≤ a' ∧ a' < c.ins.length) ∧ Hid (Vm.run c (Vm.env F day) (a' : Int) f' r st' = R) ∧ Hid (Vm.StOk st') ∧ Hid (LSt W0 mb c day vw vi vf st' vh' vo' rg r w wr)) (fun av _ _ => c.ins.length - (intOf av).toNat)
    case atStart => exact ⟨a, f, Vm.zeros, st, vh, vo, rfl, rfl, ⟨Nat.le_refl _, ha⟩, hR, HST, HL0⟩
    case round =>
      clear hR HST HL0
      obtain ⟨a', f', r, ⟨H, O, s, o⟩, vh', vo', rfl, rfl, ⟨haa, han⟩, hR, HST, HL⟩ := hrel
      obtain ⟨x, hx⟩ : ∃ x, c.ins[a']? = some x := ⟨_, List.getElem?_eq_getElem han⟩
      obtain ⟨ip, ic, hvi, ⟨hi1, hi2⟩, hic⟩ := (show InsAt W0 vi c.ins from by
        obtain ⟨vw', vi', e, _, h2, _⟩ := HE.out.cd
        simp only [Value.agg.injEq, Array.mk.injEq, List.cons.injEq, and_true, true_and] at e
        obtain ⟨rfl, rfl⟩ := e
        exact h2)
      obtain ⟨ib, io, rfl, hib, ⟨y0, y1, y2, y3, y4, y5, y6⟩, hxf⟩ := hic a' x hx
      subst hvi
      have HF := hid' (Vm.fwd HE.out.rt hx)
      have hmb : W0.heap.size ≤ mb := HE.out.mb
      have HRD := hid' (fun (k : Nat) (v : Value) (hc : W0.cell? ⟨ib, k, none⟩ = some v) => (show wr.cell? ⟨ib, k, none⟩ = some v from (HL.out.m.bel.cell (p := ⟨ib, k, none⟩) (Nat.lt_of_lt_of_le hib hmb)).trans hc))
      replace y0 := HRD.out _ _ y0
      replace y1 := HRD.out _ _ y1
      replace y2 := HRD.out _ _ y2
      replace y3 := HRD.out _ _ y3
      replace y4 := HRD.out _ _ y4
      replace y5 := HRD.out _ _ y5
      replace y6 := HRD.out _ _ y6
      have q2 := bcells HL.out.m.box 2 _ rfl
      have j1 : (0 : Int) ≤ (a' : Int) := by omega
      have j2 : (a' : Int) < (c.ins.length : Int) := by omega
      have HXF := hid' hxf
      have HX := hid' hx
      have HA := hid' (And.intro haa han)
      clear hx hxf hic hi1 hi2 haa han hmb
      go_upto_region 2 with (fail)
      have BX := (Below.refl wr.heap.size wr).alloc (Nat.le_refl _) (.cells #[.int .i64 x.op, .int .i64 x.a, .int .i64 x.b, .int .i64 x.c, .int .i64 x.n, .string x.s, .int .i64 x.to] 39)
      have HL2 := hid' (HL.out.below BX)
      have HXB := hid' (show XBox _ wr.heap.size x from heap_alloc_new wr _)
      have HMX := hid' (show mb < wr.heap.size from HL.out.m.lt)
      have HRX := hid' (show rg < wr.heap.size from lt_of_block HL.out.rb.2)
      clear y0 y1 y2 y3 y4 y5 y6 q2 BX HL HRD
      generalize wr.alloc (.cells #[.int .i64 x.op, .int .i64 x.a, .int .i64 x.b, .int .i64 x.c, .int .i64 x.n, .string x.s, .int .i64 x.to] 39) = w2 at *
      generalize wr.heap.size = xb at *
      have q7 := bcells HL2.out.m.box 7 _ rfl
      have f7 := frozen_of (o := 7) HL2.out.m.box
      have v7 : IntKind.i64.wrap ((s : Int) + 1) = (s : Int) + 1 := IntWalk.i64_in _ (by have := HST.out.most; simp only at this; omega)
      go_upto_region 3 with (fail)
      have HL3 := hid' (LSt.steps HL2.out)
      have HXB3 := hid' (show XBox (w2.setCell ⟨mb, 7, none⟩ (.int .i64 ((s : Int) + 1))) xb x from (KpM.mset w2 7 _).box (by have := HMX.out; omega) (by decide) (by decide) HXB.out)
      clear q7 f7 v7 HL2 HXB
      simp only at HL3
      generalize w2.setCell ⟨mb, 7, none⟩ (.int .i64 ((s : Int) + 1)) = w3 at *
      obtain ⟨t, ht⟩ : ∃ t, t = s + 1 := ⟨_, rfl⟩
      rw [← ht] at HL3
      have HT := hid' ht
      clear ht
      have q7 := bcells HL3.out.m.box 7 _ rfl
      have q8 := bcells HL3.out.m.box 8 _ rfl
      by_cases hover : 65536 < t ∨ o = true
      · have hq := hid' (hR.out.symm.trans (Vm.run_out c (Vm.env F day) (a' : Int) f' r (st := ⟨H, O, s, o⟩) (by rw [← HT.out]; exact hover)))
        rw [← HT.out] at hq
        have f8 := frozen_of (o := 8) HL3.out.m.box
        have HLO := hid' (LSt.setOver HL3.out true)
        simp only at HLO
        by_cases h1 : 65536 < t
        · have g1 : decide ((65536 : Int) < (t : Int)) = true := decide_eq_true (by omega)
          have g1n : decide (65536 < t) = true := decide_eq_true h1
          clear hover h1
          go_wp2_with fail
          refine bodyPost_end (results_none rfl _ _ _) rfl ⟨⟨_, rfl⟩, ⟨vh', vo', ?_⟩, HLO.out.kp⟩
          rw [hq.out]
          exact HLO.out.m
        · obtain rfl : o = true := hover.resolve_left h1
          have g1 : decide ((65536 : Int) < (t : Int)) = false := decide_eq_false (by omega)
          have g1n : decide (65536 < t) = false := decide_eq_false h1
          clear hover h1
          go_wp2_with fail
          refine bodyPost_end (results_none rfl _ _ _) rfl ⟨⟨_, rfl⟩, ⟨vh', vo', ?_⟩, HLO.out.kp⟩
          rw [hq.out]
          exact HLO.out.m
      · obtain rfl : o = false := by
          cases o with
          | false => rfl
          | true => exact absurd (.inr rfl) hover
        have ht65 : t ≤ 65536 := by rcases Nat.lt_or_ge 65536 t with h | h; exact absurd (.inl h) hover; exact h
        have g1 : decide ((65536 : Int) < (t : Int)) = false := decide_eq_false (by omega)
        have g1n : decide (65536 < t) = false := decide_eq_false (by omega)
        have HACT := hid' (hR.out.symm.trans (Vm.run_in c (Vm.env F day) HX.out f' r (H := H) (O := O) (s := s) (by rw [← HT.out]; exact ht65)))
        rw [← HT.out] at HACT
        have HLEN : Hid (H.length < t ∧ O.length < t ∧ t ≤ 65536 ∧ H.length ≤ 250) := hid' (by
          have h1 := HST.out.holds
          have h2 := HST.out.out
          have h3 := (HST.out.fine rfl).2
          have h4 := HT.out
          simp only at h1 h2 h3
          omega)
        have HA2 := HA.out
        have va : IntKind.i64.wrap ((a' : Int) + 1) = (a' : Int) + 1 := IntWalk.i64_in _ (by have := (right_parts HE.out.rt).2.2.2.1; omega)
        have HN : Hid (Vm.StOk ⟨H, O, t, false⟩) := hid' ⟨by have := HLEN.out; simp only; omega, by have := HLEN.out; simp only; omega, by have := HLEN.out; simp only; omega, fun _ => by have := HLEN.out; simp only; omega⟩
        clear hover ht65 hR HST HA2
        go_upto_region 6 with (fail)
        clear q7 q8 g1 g1n va j1 j2
        obtain ⟨xo, xa, xb2, xc, xn, xs, xt⟩ := x
        have hfwd := HF.out
        have z0 := bcells HXB3.out 0 _ rfl
        have z1 := bcells HXB3.out 1 _ rfl
        have z2 := bcells HXB3.out 2 _ rfl
        have z4 := bcells HXB3.out 4 _ rfl
        have z5 := bcells HXB3.out 5 _ rfl
        have z6 := bcells HXB3.out 6 _ rfl
        simp only at z0 z1 z2 z4 z5 z6
        have ra := hfwd.ra
        have rb := hfwd.rb
        have rc := hfwd.rc
        simp only at ra rb rc
        obtain ⟨ra0, ra1⟩ := ra
        obtain ⟨rb0, rb1⟩ := rb
        have cb := HL3.out.rb.cell rb0 rb1
        have ca := HL3.out.rb.cell ra0 ra1
        have fa := frozen_of (o := xa.toNat) HL3.out.rb.2
        have wa : IntKind.i64.wrap ((a' : Int) + 1) = (a' : Int) + 1 := IntWalk.i64_in _ (by have := (right_parts HE.out.rt).2.2.2.1; have := HA.out; omega)
        have hmore := hid' hfwd.more
        have hgo := hid' hfwd.go
        have hcall := hid' hfwd.call
        have hwait := hid' hfwd.wait
        have hnow := hid' hfwd.now
        have hlo := hfwd.lo
        have hhi := hfwd.hi
        simp only at hmore hgo hcall hwait hnow hlo hhi
        clear hfwd
        by_cases h30 : xo = 30
        · subst h30
          as_aux_lemma =>
            have hq := hid' (show R = ⟨H, O, t, false⟩ from HACT.out)
            go_wp2_with fail
            refine bodyPost_end (results_none rfl _ _ _) rfl ⟨⟨_, rfl⟩, ⟨vh', vo', ?_⟩, HL3.out.kp⟩
            rw [hq.out]
            exact HL3.out.m
        by_cases h1 : xo = 1
        · subst h1
          as_aux_lemma =>
            have hq := hid' (show R = Vm.run c (Vm.env F day) ((a' + 1 : Nat) : Int) (f') (Vm.setReg r xa xn) ⟨H, O, t, false⟩ from HACT.out)
            have HL4 := hid' (HL3.out.setReg HRG.out xa xn)
            clear hlo hhi
            go_wp2_with fail
            go_roundw
            case rel => exact ⟨a' + 1, f', Vm.setReg r xa xn, ⟨H, O, t, false⟩, vh', vo', by first | rfl | go_num, rfl, ⟨by have := HA.out; omega, by have := hmore.out (by decide); omega⟩, hid' hq.out.symm, HN, HL4⟩
            case measure => have := hmore.out (by decide); simp [intOf]; omega
        by_cases h25 : xo = 25
        · subst h25
          as_aux_lemma =>
            have hq := hid' (show R = Vm.run c (Vm.env F day) ((a' + 1 : Nat) : Int) (f') (Vm.setReg r xa f') ⟨H, O, t, false⟩ from HACT.out)
            have HL4 := hid' (HL3.out.setReg HRG.out xa f')
            clear hlo hhi
            go_wp2_with fail
            go_roundw
            case rel => exact ⟨a' + 1, f', Vm.setReg r xa f', ⟨H, O, t, false⟩, vh', vo', by first | rfl | go_num, rfl, ⟨by have := HA.out; omega, by have := hmore.out (by decide); omega⟩, hid' hq.out.symm, HN, HL4⟩
            case measure => have := hmore.out (by decide); simp [intOf]; omega
        by_cases h24 : xo = 24
        · subst h24
          as_aux_lemma =>
            have hq := hid' (show R = Vm.run c (Vm.env F day) ((a' + 1 : Nat) : Int) (Num.neg f') (r) ⟨H, O, t, false⟩ from HACT.out)
            have HC := hid' (fun W => neg_any f' W)
            clear hlo hhi
            go_wp2_with (first | (go_at_call 28; refine (HC.out _).mono ?_; rintro e w4 ⟨rfl, rfl⟩))
            go_roundw
            case rel => exact ⟨a' + 1, Num.neg f', r, ⟨H, O, t, false⟩, vh', vo', by first | rfl | go_num, rfl, ⟨by have := HA.out; omega, by have := hmore.out (by decide); omega⟩, hid' hq.out.symm, HN, HL3⟩
            case measure => have := hmore.out (by decide); simp [intOf]; omega
        by_cases h26 : xo = 26
        · subst h26
          as_aux_lemma =>
            have hq := hid' (show R = Vm.run c (Vm.env F day) ((a' + 1 : Nat) : Int) (Num.clamp (Vm.reg r xb2)) (r) ⟨H, O, t, false⟩ from HACT.out)
            have HC := hid' (fun W => clamp_any (Vm.reg r xb2) W)
            clear hlo hhi
            go_wp2_with (first | (go_at_call 15; refine (HC.out _).mono ?_; rintro e w4 ⟨rfl, rfl⟩))
            go_roundw
            case rel => exact ⟨a' + 1, Num.clamp (Vm.reg r xb2), r, ⟨H, O, t, false⟩, vh', vo', by first | rfl | go_num, rfl, ⟨by have := HA.out; omega, by have := hmore.out (by decide); omega⟩, hid' hq.out.symm, HN, HL3⟩
            case measure => have := hmore.out (by decide); simp [intOf]; omega
        by_cases h23 : xo = 23
        · subst h23
          as_aux_lemma =>
            have hq := hid' (show R = Vm.run c (Vm.env F day) ((a' + 1 : Nat) : Int) (Num.mul f' (Vm.reg r xb2)) (r) ⟨H, O, t, false⟩ from HACT.out)
            have HC := hid' (fun W => mul_any f' (Vm.reg r xb2) W)
            clear hlo hhi
            go_wp2_with (first | (go_at_call 27; refine (HC.out _).mono ?_; rintro e w4 ⟨rfl, nd, rfl⟩))
            go_roundw
            case rel => exact ⟨a' + 1, Num.mul f' (Vm.reg r xb2), r, ⟨H, O, t, false⟩, vh', vo', by first | rfl | go_num, rfl, ⟨by have := HA.out; omega, by have := hmore.out (by decide); omega⟩, hid' hq.out.symm, HN, hid' (HL3.out.below (Below.drewn (Below.refl _ _) nd))⟩
            case measure => have := hmore.out (by decide); simp [intOf]; omega
        by_cases h3 : xo = 3
        · subst h3
          as_aux_lemma =>
            have hq := hid' (show R = Vm.run c (Vm.env F day) ((a' + 1 : Nat) : Int) f' (Vm.setReg r xa (Dt.plus day (-xn))) ⟨H, O, t, false⟩ from HACT.out)
            have hn := hnow.out (.inr rfl)
            have vn : IntKind.i64.wrap (-xn) = -xn := IntWalk.i64_in _ (by omega)
            have HC := hid' (fun W => dplus_any day (-xn) W)
            have HK := hid' (fun (W : World) (b : Below w3.heap.size w3 W) => And.intro (bcells (box_below b HXB3.out) 1 _ rfl) (And.intro (bcells (HL3.out.below b).m.box 3 _ rfl) (And.intro (bcells (box_below b HXB3.out) 4 _ rfl) (trivial))))
            clear hlo hhi hn
            go_upto_region 12 with (fail)
            have hbx := (Below.refl w3.heap.size w3).drew
            refine wp_region_keep_tail (fun w' => Below w3.heap.size w3 w') 11 (by kernel_rfl) (by kernel_rfl) hbx ?_
            simp only [List.take_succ_cons, List.take_zero, List.drop_succ_cons, List.drop_zero]
            repeat (first
              | (refine wpKeep_skip ?_ ?_
                 · rfl
                 simp only [Act.put, List.setIfInBounds_toArray, List.set_cons_zero, List.set_cons_succ])
              | (apply wpKeep_call 24 #[.int .i64 day, .int .i64 (-xn)]
                 · rfl
                 · (intro w hSw; obtain ⟨c1, cd, c4, -⟩ := HK.out w hSw; go_simp; done)
                 · (intro w hSw; exact (HC.out w).mono fun e w'' h => ⟨h.1, by rw [h.2]; exact hSw⟩)
                 simp only [Act.put, List.setIfInBounds_toArray, List.set_cons_zero, List.set_cons_succ])
              | (apply wpKeep_val
                 · rfl
                 · (intro w hSw; obtain ⟨c1, cd, c4, -⟩ := HK.out w hSw; first | (go_simp; done) | (go_simp; with_reducible rfl))
                 simp only [Act.put, List.setIfInBounds_toArray, List.set_cons_zero, List.set_cons_succ]))
            refine wpKeep_nil ?_
            intro w4 hS'
            have HL4 := hid' ((HL3.out.below hS').setReg HRG.out xa (Dt.plus day (-xn)))
            have ca4 := (HL3.out.below hS').rb.cell ra0 ra1
            have fa4 := frozen_of (o := xa.toNat) (HL3.out.below hS').rb.2
            clear z0 z1 z2 z4 z5 z6 cb ca fa vn
            go_wp2_with fail
            go_roundw
            case rel => exact ⟨a' + 1, f', Vm.setReg r xa (Dt.plus day (-xn)), ⟨H, O, t, false⟩, vh', vo', by first | rfl | go_num, rfl, ⟨by have := HA.out; omega, by have := hmore.out (by decide); omega⟩, hid' hq.out.symm, HN, HL4⟩
            case measure => have := hmore.out (by decide); simp [intOf]; omega
        by_cases h2 : xo = 2
        · subst h2
          as_aux_lemma =>
            have hn := hnow.out (.inl rfl)
            have hg := hgo.out rfl
            have HC := hid' (feed_any mb F HE.out.ok day xn xs HE.out.day hn vf w3 (bcells HL3.out.m.box 3 _ rfl) (bcells HL3.out.m.box 4 _ rfl) (HE.out.fs.below (HL3.out.m.bel.mono HE.out.mb)))
            have HG := hid' hg
            clear hlo hhi hn hg
            cases hf : Fd.tells F day xs xn with
            | none =>
              have hq := hid' (show R = Vm.run c (Vm.env F day) xt f' r ⟨H, O, t, false⟩ by
                have h := HACT.out
                rw [Vm.act2_none rfl (show (Vm.env F day).feed xs xn = none from hf)] at h
                exact h)
              rw [hf, feedOut_none] at HC
              clear hf
              go_wp2_with (first | (go_at_call 25; refine HC.out.mono ?_; rintro e w4 ⟨rfl, b4⟩; have HL4 := hid' (HL3.out.below b4); replace z6 := keep_all b4 _ _ z6))
              obtain ⟨u, hu⟩ : ∃ u : Nat, (u : Int) = xt := ⟨xt.toNat, by have := HG.out; omega⟩
              subst hu
              go_roundw
              case rel => exact ⟨u, f', r, ⟨H, O, t, false⟩, vh', vo', rfl, rfl, ⟨by have := HA.out; have := HG.out; omega, by have := HG.out; omega⟩, hid' hq.out.symm, HN, HL4⟩
              case measure => have := HG.out; simp [intOf]; omega
            | some n =>
              have hq := hid' (show R = Vm.run c (Vm.env F day) ((a' + 1 : Nat) : Int) f' (Vm.setReg r xa n) ⟨H, O, t, false⟩ by
                have h := HACT.out
                rw [Vm.act2_some rfl (show (Vm.env F day).feed xs xn = some n from hf)] at h
                exact h)
              rw [hf, feedOut_some] at HC
              clear hf
              go_wp2_with (first | (go_at_call 25; refine HC.out.mono ?_; rintro e w4 ⟨rfl, b4⟩; have HL4 := hid' ((HL3.out.below b4).setReg HRG.out xa n); replace z1 := keep_all b4 _ _ z1; replace ca := (HL3.out.below b4).rb.cell ra0 ra1; replace fa := frozen_of (o := xa.toNat) (HL3.out.below b4).rb.2))
              go_roundw
              case rel => exact ⟨a' + 1, f', Vm.setReg r xa n, ⟨H, O, t, false⟩, vh', vo', by first | rfl | go_num, rfl, ⟨by have := HA.out; omega, by have := hmore.out (by decide); omega⟩, hid' hq.out.symm, HN, HL4⟩
              case measure => have := hmore.out (by decide); simp [intOf]; omega
        by_cases h20 : xo = 20
        · subst h20
          as_aux_lemma =>
            have hg := hgo.out rfl
            obtain ⟨jb, hj⟩ : ∃ jb, Vm.jumps (Vm.env F day) ⟨20, xa, xb2, xc, xn, xs, xt⟩ (Vm.reg r xb2) = jb := ⟨_, rfl⟩
            have hq := hid' (show R = Vm.run c (Vm.env F day) (if jb = true then xt else ((a' + 1 : Nat) : Int)) f' r ⟨H, O, t, false⟩ by
              have h := HACT.out
              rw [Vm.act_jump (by simp) hj] at h
              exact h)
            have HC := hid' (fun (W : World) (b : Below w3.heap.size w3 W) => jumps_any mb ⟨20, xa, xb2, xc, xn, xs, xt⟩ F day (Vm.reg r xb2) W (bcells (HL3.out.below b).m.box 3 _ rfl) (by simp))
            rw [hj] at HC
            have HG := hid' hg
            have HK := hid' (fun (W : World) (b : Below w3.heap.size w3 W) => And.intro (bcells (box_below b HXB3.out) 0 _ rfl) (And.intro (bcells (box_below b HXB3.out) 1 _ rfl) (And.intro (bcells (box_below b HXB3.out) 2 _ rfl) (And.intro (bcells (box_below b HXB3.out) 3 _ rfl) (And.intro (bcells (box_below b HXB3.out) 4 _ rfl) (And.intro (bcells (box_below b HXB3.out) 5 _ rfl) (And.intro (bcells (box_below b HXB3.out) 6 _ rfl) (And.intro ((HL3.out.below b).rb.cell rb0 rb1) (trivial)))))))))
            clear hlo hhi hg hj
            go_upto_region 22 with (fail)
            have hbx := (Below.refl w3.heap.size w3).drew
            refine wp_region_keep (fun w' => Below w3.heap.size w3 w') (by kernel_rfl) (by kernel_rfl) hbx ?_
            repeat (first
              | (refine wpKeep_skip ?_ ?_
                 · rfl
                 simp only [Act.put, List.setIfInBounds_toArray, List.set_cons_zero, List.set_cons_succ])
              | (apply wpKeep_call 26 #[.pointer (some ⟨mb, 0, none⟩), .agg #[.int .i64 20, .int .i64 xa, .int .i64 xb2, .int .i64 xc, .int .i64 xn, .string xs, .int .i64 xt], .int .i64 (Vm.reg r xb2)]
                 · rfl
                 · (intro w hSw; obtain ⟨c0, c1, c2, c3, c4, c5, c6, cb, -⟩ := HK.out w hSw; go_simp; done)
                 · (intro w hSw; exact (HC.out w hSw).mono fun e w'' h => ⟨h.1, Below.more hSw h.2⟩)
                 simp only [Act.put, List.setIfInBounds_toArray, List.set_cons_zero, List.set_cons_succ])
              | (apply wpKeep_val
                 · rfl
                 · (intro w hSw; obtain ⟨c0, c1, c2, c3, c4, c5, c6, cb, -⟩ := HK.out w hSw; first | (go_simp; done) | (go_simp; with_reducible rfl))
                 simp only [Act.put, List.setIfInBounds_toArray, List.set_cons_zero, List.set_cons_succ]))
            refine wpKeep_nil ?_
            intro w4 hS'
            have HL4 := hid' (HL3.out.below hS')
            have z6' := bcells (box_below hS' HXB3.out) 6 _ rfl
            clear z0 z1 z2 z4 z5 z6 cb ca fa
            cases jb with
            | true =>
              go_wp2_with fail
              obtain ⟨u, hu⟩ : ∃ u : Nat, (u : Int) = xt := ⟨xt.toNat, by have := HG.out; omega⟩
              subst hu
              go_roundw
              case rel => exact ⟨u, f', r, ⟨H, O, t, false⟩, vh', vo', rfl, rfl, ⟨by have := HA.out; have := HG.out; omega, by have := HG.out; omega⟩, hid' hq.out.symm, HN, HL4⟩
              case measure => have := HG.out; simp [intOf]; omega
            | false =>
              go_wp2_with fail
              go_roundw
              case rel => exact ⟨a' + 1, f', r, ⟨H, O, t, false⟩, vh', vo', by first | rfl | go_num, rfl, ⟨by have := HA.out; omega, by have := hmore.out (by decide); omega⟩, hid' hq.out.symm, HN, HL4⟩
              case measure => have := hmore.out (by decide); simp [intOf]; omega
        by_cases h19 : xo = 19
        · subst h19
          as_aux_lemma =>
            have hg := hgo.out rfl
            obtain ⟨jb, hj⟩ : ∃ jb, Vm.jumps (Vm.env F day) ⟨19, xa, xb2, xc, xn, xs, xt⟩ (Vm.reg r xb2) = jb := ⟨_, rfl⟩
            have hq := hid' (show R = Vm.run c (Vm.env F day) (if jb = true then xt else ((a' + 1 : Nat) : Int)) f' r ⟨H, O, t, false⟩ by
              have h := HACT.out
              rw [Vm.act_jump (by simp) hj] at h
              exact h)
            have HC := hid' (fun (W : World) (b : Below w3.heap.size w3 W) => jumps_any mb ⟨19, xa, xb2, xc, xn, xs, xt⟩ F day (Vm.reg r xb2) W (bcells (HL3.out.below b).m.box 3 _ rfl) (by simp))
            rw [hj] at HC
            have HG := hid' hg
            have HK := hid' (fun (W : World) (b : Below w3.heap.size w3 W) => And.intro (bcells (box_below b HXB3.out) 0 _ rfl) (And.intro (bcells (box_below b HXB3.out) 1 _ rfl) (And.intro (bcells (box_below b HXB3.out) 2 _ rfl) (And.intro (bcells (box_below b HXB3.out) 3 _ rfl) (And.intro (bcells (box_below b HXB3.out) 4 _ rfl) (And.intro (bcells (box_below b HXB3.out) 5 _ rfl) (And.intro (bcells (box_below b HXB3.out) 6 _ rfl) (And.intro ((HL3.out.below b).rb.cell rb0 rb1) (trivial)))))))))
            clear hlo hhi hg hj
            go_upto_region 22 with (fail)
            have hbx := (Below.refl w3.heap.size w3).drew
            refine wp_region_keep (fun w' => Below w3.heap.size w3 w') (by kernel_rfl) (by kernel_rfl) hbx ?_
            repeat (first
              | (refine wpKeep_skip ?_ ?_
                 · rfl
                 simp only [Act.put, List.setIfInBounds_toArray, List.set_cons_zero, List.set_cons_succ])
              | (apply wpKeep_call 26 #[.pointer (some ⟨mb, 0, none⟩), .agg #[.int .i64 19, .int .i64 xa, .int .i64 xb2, .int .i64 xc, .int .i64 xn, .string xs, .int .i64 xt], .int .i64 (Vm.reg r xb2)]
                 · rfl
                 · (intro w hSw; obtain ⟨c0, c1, c2, c3, c4, c5, c6, cb, -⟩ := HK.out w hSw; go_simp; done)
                 · (intro w hSw; exact (HC.out w hSw).mono fun e w'' h => ⟨h.1, Below.more hSw h.2⟩)
                 simp only [Act.put, List.setIfInBounds_toArray, List.set_cons_zero, List.set_cons_succ])
              | (apply wpKeep_val
                 · rfl
                 · (intro w hSw; obtain ⟨c0, c1, c2, c3, c4, c5, c6, cb, -⟩ := HK.out w hSw; first | (go_simp; done) | (go_simp; with_reducible rfl))
                 simp only [Act.put, List.setIfInBounds_toArray, List.set_cons_zero, List.set_cons_succ]))
            refine wpKeep_nil ?_
            intro w4 hS'
            have HL4 := hid' (HL3.out.below hS')
            have z6' := bcells (box_below hS' HXB3.out) 6 _ rfl
            clear z0 z1 z2 z4 z5 z6 cb ca fa
            cases jb with
            | true =>
              go_wp2_with fail
              obtain ⟨u, hu⟩ : ∃ u : Nat, (u : Int) = xt := ⟨xt.toNat, by have := HG.out; omega⟩
              subst hu
              go_roundw
              case rel => exact ⟨u, f', r, ⟨H, O, t, false⟩, vh', vo', rfl, rfl, ⟨by have := HA.out; have := HG.out; omega, by have := HG.out; omega⟩, hid' hq.out.symm, HN, HL4⟩
              case measure => have := HG.out; simp [intOf]; omega
            | false =>
              go_wp2_with fail
              go_roundw
              case rel => exact ⟨a' + 1, f', r, ⟨H, O, t, false⟩, vh', vo', by first | rfl | go_num, rfl, ⟨by have := HA.out; omega, by have := hmore.out (by decide); omega⟩, hid' hq.out.symm, HN, HL4⟩
              case measure => have := hmore.out (by decide); simp [intOf]; omega
        by_cases h21 : xo = 21
        · subst h21
          as_aux_lemma =>
            have hg := hgo.out rfl
            obtain ⟨jb, hj⟩ : ∃ jb, Vm.jumps (Vm.env F day) ⟨21, xa, xb2, xc, xn, xs, xt⟩ (Vm.reg r xb2) = jb := ⟨_, rfl⟩
            have hq := hid' (show R = Vm.run c (Vm.env F day) (if jb = true then xt else ((a' + 1 : Nat) : Int)) f' r ⟨H, O, t, false⟩ by
              have h := HACT.out
              rw [Vm.act_jump (by simp) hj] at h
              exact h)
            have HC := hid' (fun (W : World) (b : Below w3.heap.size w3 W) => jumps_any mb ⟨21, xa, xb2, xc, xn, xs, xt⟩ F day (Vm.reg r xb2) W (bcells (HL3.out.below b).m.box 3 _ rfl) (by simp))
            rw [hj] at HC
            have HG := hid' hg
            have HK := hid' (fun (W : World) (b : Below w3.heap.size w3 W) => And.intro (bcells (box_below b HXB3.out) 0 _ rfl) (And.intro (bcells (box_below b HXB3.out) 1 _ rfl) (And.intro (bcells (box_below b HXB3.out) 2 _ rfl) (And.intro (bcells (box_below b HXB3.out) 3 _ rfl) (And.intro (bcells (box_below b HXB3.out) 4 _ rfl) (And.intro (bcells (box_below b HXB3.out) 5 _ rfl) (And.intro (bcells (box_below b HXB3.out) 6 _ rfl) (And.intro ((HL3.out.below b).rb.cell rb0 rb1) (trivial)))))))))
            clear hlo hhi hg hj
            go_upto_region 22 with (fail)
            have hbx := (Below.refl w3.heap.size w3).drew
            refine wp_region_keep (fun w' => Below w3.heap.size w3 w') (by kernel_rfl) (by kernel_rfl) hbx ?_
            repeat (first
              | (refine wpKeep_skip ?_ ?_
                 · rfl
                 simp only [Act.put, List.setIfInBounds_toArray, List.set_cons_zero, List.set_cons_succ])
              | (apply wpKeep_call 26 #[.pointer (some ⟨mb, 0, none⟩), .agg #[.int .i64 21, .int .i64 xa, .int .i64 xb2, .int .i64 xc, .int .i64 xn, .string xs, .int .i64 xt], .int .i64 (Vm.reg r xb2)]
                 · rfl
                 · (intro w hSw; obtain ⟨c0, c1, c2, c3, c4, c5, c6, cb, -⟩ := HK.out w hSw; go_simp; done)
                 · (intro w hSw; exact (HC.out w hSw).mono fun e w'' h => ⟨h.1, Below.more hSw h.2⟩)
                 simp only [Act.put, List.setIfInBounds_toArray, List.set_cons_zero, List.set_cons_succ])
              | (apply wpKeep_val
                 · rfl
                 · (intro w hSw; obtain ⟨c0, c1, c2, c3, c4, c5, c6, cb, -⟩ := HK.out w hSw; first | (go_simp; done) | (go_simp; with_reducible rfl))
                 simp only [Act.put, List.setIfInBounds_toArray, List.set_cons_zero, List.set_cons_succ]))
            refine wpKeep_nil ?_
            intro w4 hS'
            have HL4 := hid' (HL3.out.below hS')
            have z6' := bcells (box_below hS' HXB3.out) 6 _ rfl
            clear z0 z1 z2 z4 z5 z6 cb ca fa
            cases jb with
            | true =>
              go_wp2_with fail
              obtain ⟨u, hu⟩ : ∃ u : Nat, (u : Int) = xt := ⟨xt.toNat, by have := HG.out; omega⟩
              subst hu
              go_roundw
              case rel => exact ⟨u, f', r, ⟨H, O, t, false⟩, vh', vo', rfl, rfl, ⟨by have := HA.out; have := HG.out; omega, by have := HG.out; omega⟩, hid' hq.out.symm, HN, HL4⟩
              case measure => have := HG.out; simp [intOf]; omega
            | false =>
              go_wp2_with fail
              go_roundw
              case rel => exact ⟨a' + 1, f', r, ⟨H, O, t, false⟩, vh', vo', by first | rfl | go_num, rfl, ⟨by have := HA.out; omega, by have := hmore.out (by decide); omega⟩, hid' hq.out.symm, HN, HL4⟩
              case measure => have := hmore.out (by decide); simp [intOf]; omega
        by_cases h22 : xo = 22
        · subst h22
          as_aux_lemma =>
            have hg := hgo.out rfl
            obtain ⟨jb, hj⟩ : ∃ jb, Vm.jumps (Vm.env F day) ⟨22, xa, xb2, xc, xn, xs, xt⟩ (Vm.reg r xb2) = jb := ⟨_, rfl⟩
            have hq := hid' (show R = Vm.run c (Vm.env F day) (if jb = true then xt else ((a' + 1 : Nat) : Int)) f' r ⟨H, O, t, false⟩ by
              have h := HACT.out
              rw [Vm.act_jump (by simp) hj] at h
              exact h)
            have HC := hid' (fun (W : World) (b : Below w3.heap.size w3 W) => jumps_any mb ⟨22, xa, xb2, xc, xn, xs, xt⟩ F day (Vm.reg r xb2) W (bcells (HL3.out.below b).m.box 3 _ rfl) (by simp))
            rw [hj] at HC
            have HG := hid' hg
            have HK := hid' (fun (W : World) (b : Below w3.heap.size w3 W) => And.intro (bcells (box_below b HXB3.out) 0 _ rfl) (And.intro (bcells (box_below b HXB3.out) 1 _ rfl) (And.intro (bcells (box_below b HXB3.out) 2 _ rfl) (And.intro (bcells (box_below b HXB3.out) 3 _ rfl) (And.intro (bcells (box_below b HXB3.out) 4 _ rfl) (And.intro (bcells (box_below b HXB3.out) 5 _ rfl) (And.intro (bcells (box_below b HXB3.out) 6 _ rfl) (And.intro ((HL3.out.below b).rb.cell rb0 rb1) (trivial)))))))))
            clear hlo hhi hg hj
            go_upto_region 22 with (fail)
            have hbx := (Below.refl w3.heap.size w3).drew
            refine wp_region_keep (fun w' => Below w3.heap.size w3 w') (by kernel_rfl) (by kernel_rfl) hbx ?_
            repeat (first
              | (refine wpKeep_skip ?_ ?_
                 · rfl
                 simp only [Act.put, List.setIfInBounds_toArray, List.set_cons_zero, List.set_cons_succ])
              | (apply wpKeep_call 26 #[.pointer (some ⟨mb, 0, none⟩), .agg #[.int .i64 22, .int .i64 xa, .int .i64 xb2, .int .i64 xc, .int .i64 xn, .string xs, .int .i64 xt], .int .i64 (Vm.reg r xb2)]
                 · rfl
                 · (intro w hSw; obtain ⟨c0, c1, c2, c3, c4, c5, c6, cb, -⟩ := HK.out w hSw; go_simp; done)
                 · (intro w hSw; exact (HC.out w hSw).mono fun e w'' h => ⟨h.1, Below.more hSw h.2⟩)
                 simp only [Act.put, List.setIfInBounds_toArray, List.set_cons_zero, List.set_cons_succ])
              | (apply wpKeep_val
                 · rfl
                 · (intro w hSw; obtain ⟨c0, c1, c2, c3, c4, c5, c6, cb, -⟩ := HK.out w hSw; first | (go_simp; done) | (go_simp; with_reducible rfl))
                 simp only [Act.put, List.setIfInBounds_toArray, List.set_cons_zero, List.set_cons_succ]))
            refine wpKeep_nil ?_
            intro w4 hS'
            have HL4 := hid' (HL3.out.below hS')
            have z6' := bcells (box_below hS' HXB3.out) 6 _ rfl
            clear z0 z1 z2 z4 z5 z6 cb ca fa
            cases jb with
            | true =>
              go_wp2_with fail
              obtain ⟨u, hu⟩ : ∃ u : Nat, (u : Int) = xt := ⟨xt.toNat, by have := HG.out; omega⟩
              subst hu
              go_roundw
              case rel => exact ⟨u, f', r, ⟨H, O, t, false⟩, vh', vo', rfl, rfl, ⟨by have := HA.out; have := HG.out; omega, by have := HG.out; omega⟩, hid' hq.out.symm, HN, HL4⟩
              case measure => have := HG.out; simp [intOf]; omega
            | false =>
              go_wp2_with fail
              go_roundw
              case rel => exact ⟨a' + 1, f', r, ⟨H, O, t, false⟩, vh', vo', by first | rfl | go_num, rfl, ⟨by have := HA.out; omega, by have := hmore.out (by decide); omega⟩, hid' hq.out.symm, HN, HL4⟩
              case measure => have := hmore.out (by decide); simp [intOf]; omega
        by_cases h27 : xo = 27
        · subst h27
          clear hlo hhi
          by_cases hf : f' = 0
          · have hq := hid' (show R = Vm.run c (Vm.env F day) ((a' + 1 : Nat) : Int) f' r ⟨H, O, t, false⟩ by
              have h := HACT.out
              rw [Vm.act_pay0 rfl hf] at h
              exact h)
            have g0 : (f' != 0) = false := by rw [hf]; rfl
            have g0' : (f' == 0) = true := by rw [hf]; rfl
            clear hf
            go_wp2_with fail
            go_roundw
            case rel => exact ⟨a' + 1, f', r, ⟨H, O, t, false⟩, vh', vo', by first | rfl | go_num, rfl, ⟨by have := HA.out; omega, by have := hmore.out (by decide); omega⟩, hid' hq.out.symm, HN, HL3⟩
            case measure => have := hmore.out (by decide); simp [intOf]; omega
          · have hq := hid' (show R = Vm.run c (Vm.env F day) ((a' + 1 : Nat) : Int) f' r ⟨H, O ++ [(xs, f')], t, false⟩ by
              have h := HACT.out
              rw [Vm.act_pay rfl hf] at h
              exact h)
            have g0 : (f' != 0) = true := by rw [bne_iff_ne]; exact hf
            have g0' : (f' == 0) = false := by rw [beq_eq_false_iff_ne]; exact hf
            have HN2 : Hid (Vm.StOk ⟨H, O ++ [(xs, f')], t, false⟩) := hid' ⟨by have := HLEN.out; simp only; omega, by have := HLEN.out; simp only [List.length_append, List.length_cons, List.length_nil]; omega, by have := HLEN.out; simp only; omega, fun _ => by have := HLEN.out; simp only; omega⟩
            clear hf
            go_upto_region 34 with (fail)
            have r3 := bcells HL3.out.m.box 3 _ rfl
            have r6 := bcells HL3.out.m.box 6 _ rfl
            have r3' := alloc_cell r3 (.cells #[.int .i64 day, .string xs, .int .i64 f'] 42)
            have r6' := alloc_cell r6 (.cells #[.int .i64 day, .string xs, .int .i64 f'] 42)
            have z5' := alloc_cell z5 (.cells #[.int .i64 day, .string xs, .int .i64 f'] 42)
            have HTS : Hid (TranRow (mb + 1) w3.drew vo' day O) := hid' (World.ownsRow.drew HL3.out.m.ts)
            have HLD := hid' (HL3.out.below (Below.refl w3.heap.size w3).drew)
            have HLO := hid' (show O.length + 1 ≤ 1000000 by have := HLEN.out; omega)
            have HMB := hid' (show mb + 1 ≤ w3.drew.heap.size from HLD.out.m.lt)
            go_region_law (first | (refine step_tran rfl _ _ (by rfl) (mb + 1) vo' day O (by rfl) HTS.out (xs, f') (by rfl) HLO.out HMB.out ?_; intro v' w5 h5 h6; have hk5 := (h6.block mb HLD.out.m.lt (fun e => own_lt HTS.out (Nat.lt_succ_self _) e.symm)).trans HLD.out.m.box; have hkc := bcells hk5 6 _ rfl; have hkf := frozen_of (o := 6) hk5; obtain ⟨hp, hc', rfl⟩ := row_form h5))
            all_goals have HL5 := hid' (LSt.pushTran HLD.out (y := (xs, f')) h5 h6)
            all_goals simp only [List.length_append, List.length_cons, List.length_nil, Nat.zero_add] at HL5
            all_goals clear h5 h6 r3 r6 r3' r6' z5' hk5 z0 z1 z2 z4 z5 z6 cb ca fa
            all_goals go_wp2_with fail
            all_goals
              go_roundw
              case rel => exact ⟨a' + 1, f', r, ⟨H, O ++ [(xs, f')], t, false⟩, vh', _, by first | rfl | go_num, rfl, ⟨by have := HA.out; omega, by have := hmore.out (by decide); omega⟩, hid' hq.out.symm, HN2, HL5⟩
              case measure => have := hmore.out (by decide); simp [intOf]; omega
        by_cases h28 : xo = 28
        · subst h28
          clear hlo hhi
          obtain ⟨ob, hob⟩ : ∃ ob, decide (250 < H.length + 1) = ob := ⟨_, rfl⟩
          have hq := hid' (show R = Vm.run c (Vm.env F day) ((a' + 1 : Nat) : Int) f' r ⟨H ++ [(xn, f')], O, t, ob⟩ by rw [← hob]; exact HACT.out)
          have HN2 : Hid (Vm.StOk ⟨H ++ [(xn, f')], O, t, ob⟩) := hid' ⟨by have := HLEN.out; simp only [List.length_append, List.length_cons, List.length_nil]; omega, by have := HLEN.out; simp only; omega, by have := HLEN.out; simp only; omega, fun ho => by
              have := HLEN.out
              simp only at ho
              rw [ho] at hob
              have := of_decide_eq_false hob
              simp only [List.length_append, List.length_cons, List.length_nil]; omega⟩
          have hobI : decide ((250 : Int) < ((H.length + 1 : Nat) : Int)) = ob := by rw [← hob]; by_cases h : 250 < H.length + 1; rw [decide_eq_true h, decide_eq_true (by omega)]; rw [decide_eq_false h, decide_eq_false (by omega)]
          have hobJ : decide ((250 : Int) < (H.length : Int) + 1) = ob := by rw [← hobI]; congr 1
          go_upto_region 36 with (fail)
          have r5 := bcells HL3.out.m.box 5 _ rfl
          have r5' := alloc_cell r5 (.cells #[.int .i64 xn, .int .i64 f'] 49)
          have z4' := alloc_cell z4 (.cells #[.int .i64 xn, .int .i64 f'] 49)
          have HTS : Hid (HoldRow (mb + 1) w3.drew vh' H) := hid' (World.ownsRow.drew HL3.out.m.hs)
          have HLD := hid' (HL3.out.below (Below.refl w3.heap.size w3).drew)
          have HLO := hid' (show H.length + 1 ≤ 1000000 by have := HLEN.out; omega)
          have HMB := hid' (show mb + 1 ≤ w3.drew.heap.size from HLD.out.m.lt)
          go_region_law (first | (refine step_hold rfl _ _ (by rfl) (mb + 1) vh' H (by rfl) HTS.out (xn, f') (by rfl) HLO.out HMB.out ?_; intro v' w5 h5 h6; have hk5 := (h6.block mb HLD.out.m.lt (fun e => own_lt HTS.out (Nat.lt_succ_self _) e.symm)).trans HLD.out.m.box; have hkc := bcells hk5 5 _ rfl; have hkf := frozen_of (o := 5) hk5; obtain ⟨hp, hc', rfl⟩ := row_form h5))
          all_goals have HL5 := hid' (LSt.pushHold HLD.out (y := (xn, f')) h5 h6)
          all_goals simp only [List.length_append, List.length_cons, List.length_nil, Nat.zero_add] at HL5
          all_goals
            clear h5 h6 r5 r5' z4' hk5 z0 z1 z2 z4 z5 z6 cb ca fa hkc hkf
            generalize w5.setCell _ _ = w6 at *
            have q8 := bcells HL5.out.m.box 8 _ rfl
            have q5 := bcells HL5.out.m.box 5 _ rfl
            have f8 := frozen_of (o := 8) HL5.out.m.box
            have HL6 := hid' (LSt.setOver HL5.out ob)
            simp only at HL6
            go_wp2_with fail
            go_roundw
            case rel => exact ⟨a' + 1, f', r, ⟨H ++ [(xn, f')], O, t, ob⟩, _, vo', by first | rfl | go_num, rfl, ⟨by have := HA.out; omega, by have := hmore.out (by decide); omega⟩, hid' hq.out.symm, HN2, HL6⟩
            case measure => have := hmore.out (by decide); simp [intOf]; omega
        by_cases h29 : xo = 29
        · subst h29
          as_aux_lemma =>
            obtain ⟨hn0, hn1, he0, he1⟩ := hcall.out rfl
            obtain ⟨wt, hwt⟩ : ∃ wt, c.waits[xn.toNat]? = some wt := ⟨_, List.getElem?_eq_getElem (by omega)⟩
            have hent : entryAt c xn = wt.entry := by unfold entryAt; rw [hwt]
            obtain ⟨wp, wcp, hvw, -, hwc⟩ := (show WaitsAt W0 vw c.waits from by
              obtain ⟨vw', vi', e, h1, _, _⟩ := HE.out.cd
              simp only [Value.agg.injEq, Array.mk.injEq, List.cons.injEq, and_true, true_and] at e
              obtain ⟨rfl, rfl⟩ := e
              exact h1)
            obtain ⟨wb, wo, rfl, hwb, ⟨e0, -, -, -, -⟩, -⟩ := hwc _ wt hwt
            subst hvw
            have ce0 := (HL3.out.m.bel.cell (p := ⟨wb, wo + xn.toNat * 5, none⟩) (Nat.lt_of_lt_of_le hwb HE.out.mb)).trans e0
            rw [hent] at he0 he1
            obtain ⟨en, hen⟩ : ∃ en : Nat, (en : Int) = wt.entry := ⟨wt.entry.toNat, by omega⟩
            rw [← hen] at he0 he1 ce0
            have hq0 := hid' (show R = Vm.run c (Vm.env F day) ((a' + 1 : Nat) : Int) f' r (Vm.run c (Vm.env F day) (en : Int) f' Vm.zeros ⟨H, O, t, false⟩) by rw [hen, ← hent]; exact HACT.out)
            have hst2 := (Vm.run_ok c (Vm.env F day) HE.out.rt _ en f' Vm.zeros ⟨H, O, t, false⟩ (Nat.le_refl _) (by omega) HN.out rfl).1
            obtain ⟨st2, hs2⟩ : ∃ st2, Vm.run c (Vm.env F day) (en : Int) f' Vm.zeros ⟨H, O, t, false⟩ = st2 := ⟨_, rfl⟩
            rw [hs2] at hq0 hst2
            have HST2 := hid' hst2
            have HC := hid' (fun (W : World) (b : Below w3.heap.size w3 W) => IH.out en f' ⟨H, O, t, false⟩ vh' vo' W (by have := HA.out; omega) (by omega) HN.out (HL3.out.below b).m)
            rw [hs2] at HC
            have HK := hid' (fun (W : World) (b : Below w3.heap.size w3 W) => And.intro (bcells (HL3.out.below b).m.box 1 _ rfl) (And.intro (bcells (box_below b HXB3.out) 4 _ rfl) (And.intro (keep_all b _ _ ce0) (trivial))))
            clear hlo hhi he0 he1 hent hwt hwc e0 hwb hs2 hst2 hen ce0
            go_upto_region 39 with (fail)
            have hbx := (Below.refl w3.heap.size w3).drew
            refine wp_region_keep_tail (fun w' => Below w3.heap.size w3 w') 12 (by kernel_rfl) (by kernel_rfl) hbx ?_
            simp only [List.take_succ_cons, List.take_zero, List.drop_succ_cons, List.drop_zero]
            repeat (first
              | (refine wpKeep_skip ?_ ?_
                 · rfl
                 simp only [Act.put, List.setIfInBounds_toArray, List.set_cons_zero, List.set_cons_succ])
              | (apply wpKeep_val
                 · rfl
                 · (intro w hSw; obtain ⟨cw, c4, ce, -⟩ := HK.out w hSw; first | (go_simp; done) | (go_simp; with_reducible rfl))
                 simp only [Act.put, List.setIfInBounds_toArray, List.set_cons_zero, List.set_cons_succ]))
            refine wpKeep_nil ?_
            intro w4 hS'
            clear z0 z1 z2 z4 z5 z6 cb ca fa
            go_wp2_with (first | (go_at_call 16; refine (HC.out _ hS').mono ?_; rintro e w5 ⟨⟨re, rfl⟩, ⟨vh2, vo2, hm2⟩, hkp2⟩; have HL5 := hid' (LSt.call (HL3.out.below hS') hm2 hkp2); clear hm2 hkp2))
            go_roundw
            case rel => exact ⟨a' + 1, f', r, st2, vh2, vo2, by first | rfl | go_num, rfl, ⟨by have := HA.out; omega, by have := hmore.out (by decide); omega⟩, hid' hq0.out.symm, HST2, HL5⟩
            case measure => have := hmore.out (by decide); simp [intOf]; omega
        as_aux_lemma =>
          have hdf := Vm.act_default (c := c) (E := Vm.env F day) (x := ⟨xo, xa, xb2, xc, xn, xs, xt⟩) (a := (a' : Int)) (f := f') (r := r) (by simp only; omega)
          have hq := hid' (show R = Vm.run c (Vm.env F day) ((a' + 1 : Nat) : Int) f' (Vm.setReg r xa (Vm.rk xo (Vm.reg r xb2) (Vm.reg r xc))) ⟨H, O, t, false⟩ by
            have h := HACT.out
            rw [hdf] at h
            exact h)
          have HC := hid' (fun W => reckon_any xo (Vm.reg r xb2) (Vm.reg r xc) W)
          generalize Vm.rk xo (Vm.reg r xb2) (Vm.reg r xc) = rv at *
          have e30 : (xo == 30) = false := by rw [beq_eq_false_iff_ne]; exact h30
          have e1 : (xo == 1) = false := by rw [beq_eq_false_iff_ne]; exact h1
          have e25 : (xo == 25) = false := by rw [beq_eq_false_iff_ne]; exact h25
          have e24 : (xo == 24) = false := by rw [beq_eq_false_iff_ne]; exact h24
          have e26 : (xo == 26) = false := by rw [beq_eq_false_iff_ne]; exact h26
          have e23 : (xo == 23) = false := by rw [beq_eq_false_iff_ne]; exact h23
          have e3 : (xo == 3) = false := by rw [beq_eq_false_iff_ne]; exact h3
          have e2 : (xo == 2) = false := by rw [beq_eq_false_iff_ne]; exact h2
          have e20 : (xo == 20) = false := by rw [beq_eq_false_iff_ne]; exact h20
          have e19 : (xo == 19) = false := by rw [beq_eq_false_iff_ne]; exact h19
          have e21 : (xo == 21) = false := by rw [beq_eq_false_iff_ne]; exact h21
          have e22 : (xo == 22) = false := by rw [beq_eq_false_iff_ne]; exact h22
          have e27 : (xo == 27) = false := by rw [beq_eq_false_iff_ne]; exact h27
          have e28 : (xo == 28) = false := by rw [beq_eq_false_iff_ne]; exact h28
          have e29 : (xo == 29) = false := by rw [beq_eq_false_iff_ne]; exact h29
          have HK := hid' (fun (W : World) (b : Below w3.heap.size w3 W) => And.intro (bcells (box_below b HXB3.out) 0 _ rfl) (And.intro (bcells (box_below b HXB3.out) 1 _ rfl) (And.intro (bcells (box_below b HXB3.out) 2 _ rfl) (And.intro (bcells (box_below b HXB3.out) 3 _ rfl) (And.intro ((HL3.out.below b).rb.cell rb0 rb1) (And.intro ((HL3.out.below b).rb.cell rc.1 rc.2) (trivial)))))))
          have hm1 := hid' (hmore.out h30)
          clear hlo hhi hdf h30 h1 h25 h24 h26 h23 h3 h2 h20 h19 h21 h22 h27 h28 h29
          go_upto_region 7 with (fail)
          have hbx := (Below.refl w3.heap.size w3).drew
          refine wp_region_keep_tail (fun w' => Below w3.heap.size w3 w') 14 (by kernel_rfl) (by kernel_rfl) hbx ?_
          simp only [List.take_succ_cons, List.take_zero, List.drop_succ_cons, List.drop_zero]
          repeat (first
            | (refine wpKeep_skip ?_ ?_
               · rfl
               simp only [Act.put, List.setIfInBounds_toArray, List.set_cons_zero, List.set_cons_succ])
            | (apply wpKeep_call 29 #[.int .i64 xo, .int .i64 (Vm.reg r xb2), .int .i64 (Vm.reg r xc)]
               · rfl
               · (intro w hSw; obtain ⟨c0, c1, c2, c3, cb, cc, -⟩ := HK.out w hSw; go_simp; done)
               · (intro w hSw; exact (HC.out w).mono fun e w'' h => ⟨h.1, Below.more hSw h.2⟩)
               simp only [Act.put, List.setIfInBounds_toArray, List.set_cons_zero, List.set_cons_succ])
            | (apply wpKeep_val
               · rfl
               · (intro w hSw; obtain ⟨c0, c1, c2, c3, cb, cc, -⟩ := HK.out w hSw; first | (go_simp; done) | (go_simp; with_reducible rfl))
               simp only [Act.put, List.setIfInBounds_toArray, List.set_cons_zero, List.set_cons_succ]))
          refine wpKeep_nil ?_
          intro w4 hS'
          have HL4 := hid' ((HL3.out.below hS').setReg HRG.out xa rv)
          have ca4 := (HL3.out.below hS').rb.cell ra0 ra1
          have fa4 := frozen_of (o := xa.toNat) (HL3.out.below hS').rb.2
          clear z0 z1 z2 z4 z5 z6 cb ca fa
          go_wp2_with fail
          go_roundw
          case rel => exact ⟨a' + 1, f', Vm.setReg r xa rv, ⟨H, O, t, false⟩, vh', vo', by first | rfl | go_num, rfl, ⟨by have := HA.out; omega, by have := hm1.out; omega⟩, hid' hq.out.symm, HN, HL4⟩
          case measure => have := hm1.out; simp [intOf]; omega
end Go.Proofs.YtbpcgcmlpgdmbaaDoor

/- Proved: what Step asks, its closure, told, IndexFunc at holds. -/
import Derived.Test.YtbpcgcmlpgdmbaaDoorVmRun
import Derived.Test.YtbpcgcmlpgdmbaaDoorOwnRows
import Derived.Test.YtbpcgcmlpgdmbaaDoorVmMach
import Derived.Test.YtbpcgcmlpgdmbaaDoorKeepRegion
import Derived.Deep.DeepCutAuto
import Derived.Test.YtbpcgcmlpgdmbaaDoorVmRightF
namespace Go.Proofs.YtbpcgcmlpgdmbaaDoor
open Go.RowKit
open Gen
open Rw
set_option linter.unusedVariables false
set_option linter.unusedSimpArgs false
set_option maxRecDepth 100000
namespace Vm
open Gen
def picksB (lab : ByteArray) (wh : Int) : Bool := Led.isName lab && (decide (wh = 1) || decide (wh = 2))
def noPick (lab : ByteArray) (wh : Int) : Bool := decide (lab = ⟨#[]⟩) && decide (wh = 0)
def holdBad (c : Cd) (x : Int × Int) : Bool := decide (x.1 < 0) || (decide ((c.waits.length : Int) ≤ x.1) || !(x.2 == Num.clamp x.2))
def wait0 : Wt := ⟨0, 0, ⟨#[]⟩, 0, 0⟩
def waitAt (c : Cd) (n : Int) : Wt := (c.waits[n.toNat]?).getD wait0
def entryOf (c : Cd) (lab : ByteArray) (wh n : Int) : Int :=
  if picksB lab wh = true ∧ (waitAt c n).label = lab then (if wh = 1 then (waitAt c n).first else (waitAt c n).second) else (waitAt c n).entry
noncomputable def stepOk (c : Cd) (L : List (Int × Int)) (day : Int) (F : List Fd.Feed) (lab : ByteArray) (wh : Int) : Bool :=
  (picksB lab wh || noPick lab wh) && (right c && ((decide (0 ≤ day) && decide (day ≤ 73048)) && (Fd.right F && (decide (L.length ≤ 250) && !L.any (holdBad c)))))
noncomputable def step (c : Cd) (L : List (Int × Int)) (day : Int) (F : List Fd.Feed) (lab : ByteArray) (wh : Int) : Option St :=
  if stepOk c L day F lab wh = true ∧ (all c (env F day) (entryOf c lab wh) L st0).over = false then some (all c (env F day) (entryOf c lab wh) L st0) else none
theorem entry_lt {c : Cd} (h : right c = true) {x : Int × Int} (hx : holdBad c x = false) {lab : ByteArray} {wh : Int} : 0 ≤ entryOf c lab wh x.1 ∧ entryOf c lab wh x.1 < c.ins.length := by
  unfold holdBad at hx
  simp only [Bool.or_eq_false_iff, decide_eq_false_iff_not] at hx
  obtain ⟨h1, h2, _⟩ := hx
  have hlt : x.1.toNat < c.waits.length := by omega
  have hw : waitAt c x.1 = c.waits[x.1.toNat] := by unfold waitAt; rw [List.getElem?_eq_getElem hlt]; rfl
  have hmem := List.getElem_mem hlt
  rw [← hw] at hmem
  have hok := (right_parts h).2.2.2.2.2.1 _ hmem
  unfold entryOf
  split
  · rename_i hp
    unfold waitOk at hok
    simp only [Bool.and_eq_true] at hok
    have hne : ¬ (waitAt c x.1).label = ⟨#[]⟩ := by
      rw [hp.2]
      intro e
      have h3 := hp.1
      unfold picksB at h3
      rw [e, show Led.isName (⟨#[]⟩ : ByteArray) = false from rfl] at h3
      cases h3
    have h4 := hok.2.2
    rw [if_neg hne] at h4
    simp only [Bool.and_eq_true] at h4
    split
    · exact place_in h4.2.1
    · exact place_in h4.2.2
  · exact entry_in h hmem
theorem all_take (c : Cd) (E : Env) (entry : Int → Int) (l : List (Int × Int)) (i : Nat) (x : Int × Int) (h : l[i]? = some x) : all c E entry (l.take (i + 1)) st0 = run c E (entry x.1) x.2 zeros (all c E entry (l.take i) st0) := by
  have : l.take (i + 1) = l.take i ++ [x] := by
    rw [List.take_add_one, h]; rfl
  unfold all
  rw [this, List.foldl_append]
  rfl
theorem st0_ok : StOk st0 := ⟨by simp [st0], by simp [st0], by simp [st0], fun _ => by simp [st0]⟩
/-- After some runs. -/
theorem run_ok2 (c : Cd) (E : Env) (hr : right c = true) {a : Nat} (ha : a < c.ins.length) (f : Int) {st : St} {i : Nat} (hs : StOk st) (hb : st.steps ≤ 82000 + i) (hi : i ≤ 250) : StOk (run c E (a : Int) f zeros st) ∧ (run c E (a : Int) f zeros st).steps ≤ 82000 + (i + 1) := by
  have hn : c.ins.length ≤ 16384 := (right_parts hr).2.2.2.1
  cases ho : st.over with
  | true =>
    rw [run_out _ _ _ _ _ (.inr ho)]
    obtain ⟨k1, k2, k3, k4⟩ := hs
    exact ⟨⟨by simp only; omega, by simp only; omega, by simp only; omega, fun h => by cases h⟩, by simp only; omega⟩
  | false =>
    have := run_ok c E hr _ a f zeros st (Nat.le_refl _) ha hs ho
    exact ⟨this.1, by omega⟩
end Vm
def nilOut : Value := .tuple #[.slice none 0 0, .slice none 0 0, .int .i64 0, .int .i64 180]
def toldV (st : Vm.St) (vh vo : Value) : Value := bif st.over then nilOut else .tuple #[vh, vo, .int .i64 (st.steps : Int), .int .i64 0]
theorem told_any (W0 : World) (mb : Nat) (c : Gen.Cd) (day : Int) (vw vi vf : Value) (st : Vm.St) (vh vo : Value) (w : World) (h : Mach W0 mb c day vw vi vf st vh vo w) :
    Calls Tryd.prog 17 #[.pointer (some ⟨mb, 0, none⟩)] w (Gives (toldV st vh vo) w) := by
  have q5 := bcells h.box 5 _ rfl
  have q6 := bcells h.box 6 _ rfl
  have q7 := bcells h.box 7 _ rfl
  have q8 := bcells h.box 8 _ rfl
  obtain ⟨H, O, s, o⟩ := st
  obtain ⟨hp, hc, rfl⟩ := row_form h.hs
  obtain ⟨op, oc, rfl⟩ := row_form h.ts
  simp only at q5 q6 q7 q8
  clear h
  cases o with
  | true =>
    go_enter Tryd.func17, Tryd.ntmps17
    go_wp2_with fail
    exact bodyPost_ret (results_tmp4 rfl _ _ _) rfl ⟨rfl, Below.refl _ _⟩
  | false =>
    go_enter Tryd.func17, Tryd.ntmps17
    go_wp2_with fail
    go_quiet (fail)
    go_wp2_with fail
    exact bodyPost_ret (results_tmp4 rfl _ _ _) rfl ⟨rfl, Below.drewn (Below.refl _ _) _⟩
/-- Step's closure: is a hold wrong? -/
theorem hold1_any (c : Gen.Cd) (b5 : Nat) (wp : Option Addr) (wc : Nat) (x : Int × Int) (W : World) (h5 : W.cell? ⟨b5, 1, none⟩ = some (.slice wp c.waits.length wc)) :
    Calls Tryd.prog 14 (#[.agg #[.int .i64 x.1, .int .i64 x.2]] ++ #[.pointer (some ⟨b5, 0, none⟩)]) W (Gives (.bool (Vm.holdBad c x)) W) := by
  obtain ⟨n, f⟩ := x
  have hb := hid' (show Vm.holdBad c (n, f) = (decide (n < 0) || (decide ((c.waits.length : Int) ≤ n) || !(f == Num.clamp f))) from rfl)
  obtain ⟨bad, hbad⟩ : ∃ bad, Vm.holdBad c (n, f) = bad := ⟨_, rfl⟩
  rw [hbad] at hb ⊢
  clear hbad
  have HC := hid' (fun W => clamp_any f W)
  have B0 := (Below.refl W.heap.size W).alloc (Nat.le_refl _) (.cells #[.int .i64 n, .int .i64 f] 49)
  have HBX := hid' (show (W.alloc (.cells #[.int .i64 n, .int .i64 f] 49)).heap[W.heap.size]? = some (.cells #[.int .i64 n, .int .i64 f] 49 (0, 0)) from heap_alloc_new W _)
  have H5 := hid' (keep_all B0 _ _ h5)
  have HB0 := hid' B0
  obtain ⟨cl, hcl⟩ : ∃ cl, (f == Num.clamp f) = cl := ⟨_, rfl⟩
  rw [hcl] at hb
  have hcl2 : (f != Num.clamp f) = !cl := by rw [← hcl]; rfl
  generalize Num.clamp f = g at *
  clear hcl B0 h5
  go_enter Tryd.func14, Tryd.ntmps14
  go_upto_region 1 with (fail)
  generalize W.alloc (.cells #[.int .i64 n, .int .i64 f] 49) = w1 at *
  obtain ⟨xb, hxb⟩ : ∃ xb, xb = W.heap.size := ⟨_, rfl⟩
  rw [← hxb] at HBX ⊢
  clear hxb
  have hbx := (Below.refl w1.heap.size w1).drew
  have HK := hid' (fun (W' : World) (b : Below w1.heap.size w1 W') => And.intro (bcells (box_below b HBX.out) 0 _ rfl) (And.intro (bcells (box_below b HBX.out) 1 _ rfl) (keep_all b _ _ H5.out)))
  by_cases h1 : n < 0
  · have g1 : decide (n < 0) = true := decide_eq_true h1
    rw [g1] at hb
    have hq := hid' (show bad = true from hb.out)
    clear h1 hb
    refine wp_region_keep (fun w' => Below w1.heap.size w1 w') (by kernel_rfl) (by kernel_rfl) hbx ?_
    repeat (first
      | (refine wpKeep_skip ?_ ?_
         · rfl
         simp only [Act.put, List.setIfInBounds_toArray, List.set_cons_zero, List.set_cons_succ])
      | (apply wpKeep_call 15 #[.int .i64 f]
         · rfl
         · (intro w hSw; obtain ⟨c0, c1, c2⟩ := HK.out w hSw; go_simp; done)
         · (intro w hSw; exact (HC.out w).mono fun e w'' h => ⟨h.1, by rw [h.2]; exact hSw⟩)
         simp only [Act.put, List.setIfInBounds_toArray, List.set_cons_zero, List.set_cons_succ])
      | (apply wpKeep_val
         · rfl
         · (intro w hSw; obtain ⟨c0, c1, c2⟩ := HK.out w hSw; first | (go_simp; done) | (go_simp; with_reducible rfl))
         simp only [Act.put, List.setIfInBounds_toArray, List.set_cons_zero, List.set_cons_succ]))
    refine wpKeep_nil ?_
    intro w' hS'
    go_wp2_with fail
    go_ret
    exact ⟨by rw [hq.out]; rfl, Below.more HB0.out hS'⟩
  · have g1 : decide (n < 0) = false := decide_eq_false h1
    rw [g1] at hb
    by_cases h2 : (c.waits.length : Int) ≤ n
    · have g2 : decide ((c.waits.length : Int) ≤ n) = true := decide_eq_true h2
      rw [g2] at hb
      have hq := hid' (show bad = true from hb.out)
      clear h1 h2 hb
      refine wp_region_keep (fun w' => Below w1.heap.size w1 w') (by kernel_rfl) (by kernel_rfl) hbx ?_
      repeat (first
        | (refine wpKeep_skip ?_ ?_
           · rfl
           simp only [Act.put, List.setIfInBounds_toArray, List.set_cons_zero, List.set_cons_succ])
        | (apply wpKeep_call 15 #[.int .i64 f]
           · rfl
           · (intro w hSw; obtain ⟨c0, c1, c2⟩ := HK.out w hSw; go_simp; done)
           · (intro w hSw; exact (HC.out w).mono fun e w'' h => ⟨h.1, by rw [h.2]; exact hSw⟩)
           simp only [Act.put, List.setIfInBounds_toArray, List.set_cons_zero, List.set_cons_succ])
        | (apply wpKeep_val
           · rfl
           · (intro w hSw; obtain ⟨c0, c1, c2⟩ := HK.out w hSw; first | (go_simp; done) | (go_simp; with_reducible rfl))
           simp only [Act.put, List.setIfInBounds_toArray, List.set_cons_zero, List.set_cons_succ]))
      refine wpKeep_nil ?_
      intro w' hS'
      go_wp2_with fail
      go_ret
      exact ⟨by rw [hq.out]; rfl, Below.more HB0.out hS'⟩
    · have g2 : decide ((c.waits.length : Int) ≤ n) = false := decide_eq_false h2
      rw [g2] at hb
      have hq := hid' (show bad = !cl from hb.out)
      clear h1 h2 hb
      refine wp_region_keep (fun w' => Below w1.heap.size w1 w') (by kernel_rfl) (by kernel_rfl) hbx ?_
      repeat (first
        | (refine wpKeep_skip ?_ ?_
           · rfl
           simp only [Act.put, List.setIfInBounds_toArray, List.set_cons_zero, List.set_cons_succ])
        | (apply wpKeep_call 15 #[.int .i64 f]
           · rfl
           · (intro w hSw; obtain ⟨c0, c1, c2⟩ := HK.out w hSw; go_simp; done)
           · (intro w hSw; exact (HC.out w).mono fun e w'' h => ⟨h.1, by rw [h.2]; exact hSw⟩)
           simp only [Act.put, List.setIfInBounds_toArray, List.set_cons_zero, List.set_cons_succ])
        | (apply wpKeep_val
           · rfl
           · (intro w hSw; obtain ⟨c0, c1, c2⟩ := HK.out w hSw; first | (go_simp; done) | (go_simp; with_reducible rfl))
           simp only [Act.put, List.setIfInBounds_toArray, List.set_cons_zero, List.set_cons_succ]))
      refine wpKeep_nil ?_
      intro w' hS'
      go_wp2_with fail
      go_ret
      exact ⟨by rw [hq.out]; rfl, Below.more HB0.out hS'⟩
def StepPost (o : Option Vm.St) (day : Int) (w : World) (e : Ending) (w' : World) : Prop :=
  Below w.heap.size w w' ∧ match o with
    | none => e = .returned nilOut
    | some st => Vm.StOk st ∧ ∃ vh vo, e = .returned (.tuple #[vh, vo, .int .i64 (st.steps : Int), .int .i64 0]) ∧ HoldRow w.heap.size w' vh st.holds ∧ TranRow w.heap.size w' vo day st.out
set_option maxHeartbeats 4000000 in
/-- IndexFunc at holds: is there a wrong one? -/
theorem indexHold_any (c : Gen.Cd) (b5 : Nat) (wp : Option Addr) (wc : Nat) (vl : Value) (L : List (Int × Int)) (W : World) (h5 : W.cell? ⟨b5, 1, none⟩ = some (.slice wp c.waits.length wc)) (hl : StampsAt W vl L) :
    Calls Tryd.prog 23 #[vl, .func (.func 14) #[] #[.pointer (some ⟨b5, 0, none⟩)]] W fun e w' => (∃ k : Int, e = .returned (.int .i64 k) ∧ decide (0 ≤ k) = L.any (Vm.holdBad c)) ∧ Below W.heap.size W w' := by
  obtain ⟨lp, lc, rfl, ⟨hl1, hl2⟩, hc⟩ := hl
  have HC := hid' hc
  have H5 := hid' h5
  have hbig : (L.length : Int) ≤ 9223372036854775807 := by unfold maxLen at hl2; omega
  have HA0 := hid' (show ∀ j, j < 0 → ∀ x, L[j]? = some x → Vm.holdBad c x = false from fun j hj => by omega)
  clear hc h5 hl1 hl2
  go_enter Tryd.func23, Tryd.ntmps23
  go_wp2_with fail
  go_loopw [8] (fun iv wr => ∃ i : Nat, iv = .int .i64 (i : Int) ∧ i ≤ L.length ∧ Hid (∀ j, j < i → ∀ x, L[j]? = some x → Vm.holdBad c x = false) ∧ Hid (Below W.heap.size W wr)) (fun iv _ => L.length - (intOf iv).toNat)
  case atStart => exact ⟨0, rfl, Nat.zero_le _, HA0, Below.refl _ _⟩
  case round =>
    obtain ⟨i, rfl, hi, HA, HW⟩ := hrel
    by_cases hin : i < L.length
    · obtain ⟨x, hx⟩ : ∃ x, L[i]? = some x := ⟨_, List.getElem?_eq_getElem hin⟩
      obtain ⟨lb, lo, rfl, -, ⟨y0, y1⟩, -, -⟩ := HC.out i x hx
      replace y0 := keep_all HW.out _ _ y0
      replace y1 := keep_all HW.out _ _ y1
      have j1 : (0 : Int) ≤ (i : Int) := by omega
      have j2 : (i : Int) < (L.length : Int) := by omega
      have wi : IntKind.i64.wrap ((i : Int) + 1) = (i : Int) + 1 := IntWalk.i64_in _ (by omega)
      have HF := hid' (hold1_any c b5 wp wc x wr (keep_all HW.out _ _ H5.out))
      have HX := hid' hx
      have HI := hid' hin
      clear hx hin
      cases hb : Vm.holdBad c x with
      | true =>
        rw [hb] at HF
        have hany := hid' (show L.any (Vm.holdBad c) = true from List.any_eq_true.2 ⟨x, List.mem_of_getElem? HX.out, hb⟩)
        clear hb
        go_wp2_with (first | (go_at_call 14; refine HF.out.mono ?_; rintro e w2 ⟨rfl, b2⟩; have HB2 := hid' (Below.more HW.out b2); clear b2))
        go_ret
        exact ⟨⟨_, rfl, by rw [hany.out]; exact decide_eq_true j1⟩, HB2.out⟩
      | false =>
        rw [hb] at HF
        have HN := hid' (show ∀ j, j < i + 1 → ∀ z, L[j]? = some z → Vm.holdBad c z = false from fun j hj z hz => by
          rcases (by omega : j < i ∨ j = i) with h | rfl
          · exact HA.out j h z hz
          · obtain rfl : x = z := by have := HX.out.symm.trans hz; simpa using this
            exact hb)
        clear hb
        go_wp2_with (first | (go_at_call 14; refine HF.out.mono ?_; rintro e w2 ⟨rfl, b2⟩; have HB2 := hid' (Below.more HW.out b2); clear b2))
        go_roundw
        case rel => exact ⟨i + 1, by go_num, by have := HI.out; omega, HN, HB2⟩
        case measure => have := HI.out; simp [intOf]; omega
    · obtain rfl : i = L.length := by omega
      have hany := hid' (show L.any (Vm.holdBad c) = false by
        rw [List.any_eq_false]
        intro x hx
        obtain ⟨j, hj⟩ := List.getElem?_of_mem hx
        rw [HA.out j (List.getElem?_eq_some_iff.1 hj).1 x hj]
        exact Bool.false_ne_true)
      have j3 : decide (L.length < L.length) = false := by simp
      clear hin
      go_wp2_with fail
      go_ret
      exact ⟨⟨-1, rfl, by rw [hany.out]; rfl⟩, HW.out⟩
theorem containsHold_any (c : Gen.Cd) (b5 : Nat) (wp : Option Addr) (wc : Nat) (vl : Value) (L : List (Int × Int)) (W : World) (h5 : W.cell? ⟨b5, 1, none⟩ = some (.slice wp c.waits.length wc)) (hl : StampsAt W vl L) :
    Calls Tryd.prog 13 #[vl, .func (.func 14) #[] #[.pointer (some ⟨b5, 0, none⟩)]] W (Gives (.bool (L.any (Vm.holdBad c))) W) := by
  have HI := hid' (indexHold_any c b5 wp wc vl L W h5 hl)
  clear h5 hl
  generalize L.any (Vm.holdBad c) = r at *
  go_enter Tryd.func13, Tryd.ntmps13
  go_wp2_with (first | (go_at_call 23; refine HI.out.mono ?_; rintro e w2 ⟨⟨k, rfl, hk⟩, b2⟩))
  go_ret
  exact ⟨by rw [← hk]; rfl, b2⟩
end Go.Proofs.YtbpcgcmlpgdmbaaDoor

/- Proved: lemmas and contracts of the functions that the law reaches, part 24 of 28: DnVal, DnAcq, DnRight. Conditions: as each states. -/
import Derived.Deep.DeepCutAuto
import Derived.IntWalk
import Derived.Test.YtcpobnknmegkmaaGreatDoorDne6
import Derived.Test.YtcpobnknmegkmaaGreatDoorDne8
import Derived.Test.YtcpobnknmegkmaaGreatDoorDne9
import Derived.Test.YtcpobnknmegkmaaGreatDoorDne10
import Derived.Test.YtcpobnknmegkmaaGreatDoorDne12
import Derived.Test.YtcpobnknmegkmaaGreatDoorDne21
import Derived.Test.YtcpobnknmegkmaaGreatDoorDne23
namespace Go.Proofs.YtcpobnknmegkmaaGreatDoor
open Go.RowKit
open Rw
set_option linter.unusedVariables false
set_option linter.unusedSimpArgs false
set_option maxRecDepth 100000
theorem optOut_none : optOut none = .tuple #[.int .i64 0, .bool false] := rfl
theorem optOut_some (n : Int) : optOut (some n) = .tuple #[.int .i64 n, .bool true] := rfl
/-- A kid's row stays readable. -/
def RowC (W : World) (b o : Nat) (x y z u : Value) : Prop := W.cell? ⟨b, o, none⟩ = some x ∧ W.cell? ⟨b, o + 1, none⟩ = some y ∧ W.cell? ⟨b, o + 2, none⟩ = some z ∧ W.cell? ⟨b, o + 3, none⟩ = some u
theorem row_cells {ok : Nat → Prop} {W : World} {p : Option Addr} {i : Nat} {v : Value} (h : RowIn ok W p i v) : ∃ b off x y z u, p = some ⟨b, off, none⟩ ∧ v = .agg #[x, y, z, u] ∧ ∀ W', Below W.heap.size W W' → RowC W' b (off + i * 4) x y z u := by
  obtain ⟨b, off, x, y, z, u, e, -, hv, h0, h1, h2, h3⟩ := h
  exact ⟨b, off, x, y, z, u, e, hv, fun W' hb => ⟨keep_all hb _ _ h0, keep_all hb _ _ h1, keep_all hb _ _ h2, keep_all hb _ _ h3⟩⟩
theorem RowC.zero {W : World} {b o : Nat} {x y z u : Value} (h : RowC W b (o + 0 * 4) x y z u) : W.cell? ⟨b, o, none⟩ = some x ∧ W.cell? ⟨b, o + 1, none⟩ = some y ∧ W.cell? ⟨b, o + 2, none⟩ = some z ∧ W.cell? ⟨b, o + 3, none⟩ = some u := by
  rw [Nat.zero_mul, Nat.add_zero] at h; exact h
theorem RowC.one {W : World} {b o : Nat} {x y z u : Value} (h : RowC W b (o + 1 * 4) x y z u) : W.cell? ⟨b, o + 4, none⟩ = some x ∧ W.cell? ⟨b, o + 5, none⟩ = some y ∧ W.cell? ⟨b, o + 6, none⟩ = some z ∧ W.cell? ⟨b, o + 7, none⟩ = some u := by
  unfold RowC at h; simpa only [Nat.one_mul, Nat.add_assoc, Nat.reduceAdd] using h
theorem RowC.two {W : World} {b o : Nat} {x y z u : Value} (h : RowC W b (o + 2 * 4) x y z u) : W.cell? ⟨b, o + 8, none⟩ = some x ∧ W.cell? ⟨b, o + 9, none⟩ = some y ∧ W.cell? ⟨b, o + 10, none⟩ = some z ∧ W.cell? ⟨b, o + 11, none⟩ = some u := by
  unfold RowC at h; simpa only [Nat.reduceMul, Nat.add_assoc, Nat.reduceAdd] using h
set_option maxHeartbeats 8000000 in
theorem dnvalue_any (F : List Fd.Feed) (hok : Fd.Ok F) (day : Int) (hd : 0 ≤ day ∧ day ≤ 73048) (t : Co.T) : ∀ (ok : Nat → Prop) (vf v : Value) (w : World), CoreIn ok w t v → FeedsAt w vf F → Dn.Obs t →
    Calls Tryz.prog 25 #[.agg #[.int .i64 day, vf], v] w (Gives (optOut (Dn.value (Dn.eyes F day) t)) w) := by
  induction t using Co.T.ind with | h op n s ks ih => ?_
  intro ok vf v w hv hF hO
  obtain ⟨p, c, rfl, hc, hop, hn, hs, hk⟩ := hv.open
  simp only [Co.T.op, Co.T.n, Co.T.s, Co.T.ks] at hc hop hn hs hk ⊢
  have HF := hid' hF
  obtain ⟨fp, fc, rfl, -, -⟩ := hF
  have HOK := hid' hok
  have HD := hid' hd
  have HIH := hid' ih
  have HK := hid' hk
  have HEO := hid' (Dn.eyes_ok hok day)
  have z1 : ∀ (W : World) (o : Obj) (k : Nat) (x : Obj), W.heap[k]? = some x → (W.alloc o).heap[k]? = some x := fun W o k x h => (((Below.refl W.heap.size W).alloc (Nat.le_refl _) o).block k (lt_of_block h)).trans h
  have HB := hid' (((Below.refl w.heap.size w).alloc (Nat.le_refl _) (.cells #[.int .i64 day, .slice fp F.length fc] 52)).alloc (by simp) (.cells #[.int .i64 op, .int .i64 n, .string s, .slice p ks.length c] 24))
  have HE := hid' (z1 _ (.cells #[.int .i64 op, .int .i64 n, .string s, .slice p ks.length c] 24) _ _ (heap_alloc_new w (.cells #[.int .i64 day, .slice fp F.length fc] 52)))
  have HC := hid' (show ((w.alloc (.cells #[.int .i64 day, .slice fp F.length fc] 52)).alloc (.cells #[.int .i64 op, .int .i64 n, .string s, .slice p ks.length c] 24)).heap[w.heap.size + 1]? = some (.cells #[.int .i64 op, .int .i64 n, .string s, .slice p ks.length c] 24 (0, 0)) by
    have := heap_alloc_new (w.alloc (.cells #[.int .i64 day, .slice fp F.length fc] 52)) (.cells #[.int .i64 op, .int .i64 n, .string s, .slice p ks.length c] 24)
    simpa only [World.size_alloc] using this)
  obtain ⟨V, hV⟩ : ∃ V, Hid (Dn.value (Dn.eyes F day) (.mk op n s ks) = V) := ⟨_, hid' rfl⟩
  rw [hV.out]
  have hob := Dn.observable_of hO
  clear z1 hv hk hop hn hs hc ih hok hd hO
  go_enter Tryz.func25, Tryz.ntmps25
  go_upto_region 1 with (fail)
  generalize World.alloc _ _ = w1 at *
  obtain ⟨d0, d1, d2, d3⟩ := heap_cells4 HC.out
  have c0 := bcells HE.out 0 _ rfl
  have c1 := bcells HE.out 1 _ rfl
  rcases hob with (rfl | rfl | rfl) | ⟨rfl, hn3⟩ | ⟨rfl, hn3⟩ | hob
  · have e := hid' (show V = some n by rw [← hV.out, Dn.value_eq]; rfl)
    clear hV
    go_wp2_with fail
    go_ret2
    exact ⟨by rw [e.out]; rfl, HB.out⟩
  · have e := hid' (show V = some n by rw [← hV.out, Dn.value_eq]; rfl)
    clear hV
    go_wp2_with fail
    go_ret2
    exact ⟨by rw [e.out]; rfl, HB.out⟩
  · have e := hid' (show V = some n by rw [← hV.out, Dn.value_eq]; rfl)
    clear hV
    go_wp2_with fail
    go_ret2
    exact ⟨by rw [e.out]; rfl, HB.out⟩
  · have e := hid' (show V = Fd.tells F day s n by rw [← hV.out, Dn.value_eq]; rfl)
    have HFD := hid' (dfeed_any F HOK.out day n s HD.out hn3 _ w1 (HF.out.below HB.out))
    clear hV hn3
    generalize Fd.tells F day s n = X at *
    cases X with
    | none =>
      rw [optOut_none] at HFD
      go_wp2_with (first | (go_at_call 37; refine HFD.out.mono ?_; rintro e w2 ⟨rfl, b2⟩; have HB2 := hid' (HB.out.trans (b2.mono HB.out.size)); clear b2))
      go_ret2
      exact ⟨by rw [e.out]; rfl, HB2.out⟩
    | some x =>
      rw [optOut_some] at HFD
      go_wp2_with (first | (go_at_call 37; refine HFD.out.mono ?_; rintro e w2 ⟨rfl, b2⟩; have HB2 := hid' (HB.out.trans (b2.mono HB.out.size)); clear b2))
      go_ret2
      exact ⟨by rw [e.out]; rfl, HB2.out⟩
  · have e := hid' (show V = some (Dt.plus day (-n)) by rw [← hV.out, Dn.value_eq]; rfl)
    have HP := hid' (dplus_any day (-n) w1)
    have hw0 : IntKind.i64.wrap (-n) = -n := IntWalk.i64_in _ (by omega)
    clear hV hn3
    generalize Dt.plus day (-n) = X at *
    go_wp2_with (first | (go_at_call 38; refine HP.out.mono ?_; rintro e w2 ⟨rfl, rfl⟩))
    go_ret2
    exact ⟨by rw [e.out]; rfl, HB.out⟩
  have hop : op ≠ 1 ∧ op ≠ 2 ∧ op ≠ 3 ∧ op ≠ 4 ∧ op ≠ 5 := by
    rcases hob with ⟨h, -⟩ | ⟨h, -⟩ | ⟨h, -⟩ | ⟨h, -⟩
    · omega
    · omega
    · omega
    · unfold Dn.twoOp at h; omega
  have HKID : ∃ k : Co.T, ks[0]? = some k ∧ Dn.Obs k := by
    rcases hob with ⟨-, k, rfl, h, -⟩ | ⟨-, k, j, rfl, h, -⟩ | ⟨-, k, j, i, rfl, h, -⟩ | ⟨-, k, j, rfl, h, -⟩
    · exact ⟨k, rfl, h⟩
    · exact ⟨k, rfl, Dn.obs_b h⟩
    · exact ⟨k, rfl, Dn.obs_b h⟩
    · exact ⟨k, rfl, h⟩
  have HV2 := hid' (show Dn.thenV op ((Dn.values (Dn.eyes F day) ks).getD 0 none) (Dn.values (Dn.eyes F day) ks) = V by rw [← hV.out, Dn.value_op (by omega)])
  have a1 : (op == 1) = false := by rw [beq_eq_false_iff_ne]; exact hop.1
  have a2 : (op == 2) = false := by rw [beq_eq_false_iff_ne]; exact hop.2.1
  have a3 : (op == 3) = false := by rw [beq_eq_false_iff_ne]; exact hop.2.2.1
  have a4 : (op == 4) = false := by rw [beq_eq_false_iff_ne]; exact hop.2.2.2.1
  have a5 : (op == 5) = false := by rw [beq_eq_false_iff_ne]; exact hop.2.2.2.2
  obtain ⟨k, hk0, hkO⟩ := HKID
  obtain ⟨vk, hrow, hvk⟩ := HK.out 0 k hk0
  obtain ⟨b, off, rx, ry, rz, ru, rfl, rfl, hrc⟩ := row_cells hrow
  rw [Dn.values_at hk0] at HV2
  have K0 := hid' (fun W (h : Below w1.heap.size w1 W) => HIH.out k (List.mem_of_getElem? hk0) ok _ _ W (hvk.under (HB.out.trans (h.mono HB.out.size))) (HF.out.below (HB.out.trans (h.mono HB.out.size))) hkO)
  have HLEN := hid' (show 0 < ks.length from (List.getElem?_eq_some_iff.1 hk0).1)
  have j0 : (0 : Int) < (ks.length : Int) := by have := HLEN.out; omega
  have j0n : 0 < ks.length := HLEN.out
  have HFA := hid' (fun W (h : Below w1.heap.size w1 W) => And.intro (And.intro (bcells (box_below h HE.out) 0 _ rfl) (bcells (box_below h HE.out) 1 _ rfl)) (heap_cells4 (box_below h HC.out)))
  have HR := hid' (fun W (h : Below w1.heap.size w1 W) => (hrc W (HB.out.trans (h.mono HB.out.size))).zero)
  have HVT := hid' (fun (x : UInt8) v => Dn.value_ty HEO.out k x v)
  obtain ⟨X, hX⟩ : ∃ X, Hid (Dn.value (Dn.eyes F day) k = X) := ⟨_, hid' rfl⟩
  rw [hX.out] at K0 HV2
  clear hV hop hrow hvk hrc hkO
  go_upto_region 10 with (fail)
  clear d0 d1 d2 d3 c0 c1
  cases X with
  | none =>
    rw [optOut_none] at K0
    have e := hid' (show V = none from HV2.out.symm)
    refine wp_region_keep (Below w1.heap.size w1) (by kernel_rfl) (by kernel_rfl) (Below.refl _ _).drew ?_
    repeat (first
      | (refine wpKeep_skip ?_ ?_
         · rfl
         simp only [Act.put, List.setIfInBounds_toArray, List.set_cons_zero, List.set_cons_succ])
      | (apply wpKeep_call 25 #[.agg #[.int .i64 day, .slice fp F.length fc], .agg #[rx, ry, rz, ru]]
         · rfl
         · (intro w hSw; obtain ⟨⟨c0, c1⟩, d0, d1, d2, d3⟩ := HFA.out w hSw; obtain ⟨r0, r1, r2, r3⟩ := HR.out w hSw; go_simp; done)
         · (intro w hSw; refine (K0.out _ hSw).mono ?_; rintro e w'' ⟨rfl, b⟩; exact ⟨rfl, hSw.trans (b.mono hSw.size)⟩)
         simp only [Act.put, List.setIfInBounds_toArray, List.set_cons_zero, List.set_cons_succ])
      | (apply wpKeep_val
         · rfl
         · (intro w hSw; obtain ⟨⟨c0, c1⟩, d0, d1, d2, d3⟩ := HFA.out w hSw; obtain ⟨r0, r1, r2, r3⟩ := HR.out w hSw; first | (go_simp; done) | (go_simp; with_reducible rfl))
         simp only [Act.put, List.setIfInBounds_toArray, List.set_cons_zero, List.set_cons_succ]))
    refine wpKeep_nil ?_
    intro w2 hS'
    have HB2 := hid' (HB.out.trans (hS'.mono HB.out.size))
    clear hS'
    go_wp2_with fail
    go_ret2
    exact ⟨by rw [e.out]; rfl, HB2.out⟩
  | some a =>
    rw [optOut_some] at K0
    have HV3 := hid' (show Dn.after op a (Dn.values (Dn.eyes F day) ks) = V from HV2.out)
    refine wp_region_keep (Below w1.heap.size w1) (by kernel_rfl) (by kernel_rfl) (Below.refl _ _).drew ?_
    repeat (first
      | (refine wpKeep_skip ?_ ?_
         · rfl
         simp only [Act.put, List.setIfInBounds_toArray, List.set_cons_zero, List.set_cons_succ])
      | (apply wpKeep_call 25 #[.agg #[.int .i64 day, .slice fp F.length fc], .agg #[rx, ry, rz, ru]]
         · rfl
         · (intro w hSw; obtain ⟨⟨c0, c1⟩, d0, d1, d2, d3⟩ := HFA.out w hSw; obtain ⟨r0, r1, r2, r3⟩ := HR.out w hSw; go_simp; done)
         · (intro w hSw; refine (K0.out _ hSw).mono ?_; rintro e w'' ⟨rfl, b⟩; exact ⟨rfl, hSw.trans (b.mono hSw.size)⟩)
         simp only [Act.put, List.setIfInBounds_toArray, List.set_cons_zero, List.set_cons_succ])
      | (apply wpKeep_val
         · rfl
         · (intro w hSw; obtain ⟨⟨c0, c1⟩, d0, d1, d2, d3⟩ := HFA.out w hSw; obtain ⟨r0, r1, r2, r3⟩ := HR.out w hSw; first | (go_simp; done) | (go_simp; with_reducible rfl))
         simp only [Act.put, List.setIfInBounds_toArray, List.set_cons_zero, List.set_cons_succ]))
    refine wpKeep_nil ?_
    intro w2 hS'
    have HS2 := hid' hS'
    have HB2 := hid' (HB.out.trans (hS'.mono HB.out.size))
    clear hS' HV2
    obtain ⟨⟨c0, c1⟩, d0, d1, d2, d3⟩ := HFA.out w2 HS2.out
    rcases hob with ⟨h6 | h14, k', rfl, h, h98⟩ | ⟨hop, k', j, rfl, hkb, hj⟩ | ⟨h22, k', j, i, rfl, hkb, hj, hi⟩ | ⟨htw, k', j, rfl, -, hj⟩
    · subst h6
      have e := hid' (show V = some (Num.neg a) from HV3.out.symm)
      have HN := hid' (neg_any a w2)
      clear h
      generalize Num.neg a = Y at *
      go_wp2_with (first | (go_at_call 24; refine HN.out.mono ?_; rintro e w3 ⟨rfl, rfl⟩))
      go_ret2
      exact ⟨by rw [e.out]; rfl, HB2.out⟩
    · subst h14
      have e := hid' (show V = some (1 - a) from HV3.out.symm)
      obtain rfl : k' = k := by simpa using hk0
      have hr := (HVT.out 98 a (h98 rfl) (by decide) (by decide) hX.out).1 rfl
      have hw0 : IntKind.i64.wrap (1 - a) = 1 - a := IntWalk.i64_in _ (by omega)
      clear h hr h98
      go_wp2_with fail
      go_ret2
      exact ⟨by rw [e.out]; rfl, HB2.out⟩
    · obtain rfl : k' = k := by simpa using hk0
      have hr := (HVT.out 98 a hkb (by decide) (by decide) hX.out).1 rfl
      have hnx : ¬ ((op = 15 ∧ a = 0) ∨ (op = 16 ∧ a = 1)) → V = Dn.value (Dn.eyes F day) j := fun hh => by
        rw [← HV3.out]
        unfold Dn.after
        rw [if_neg (by omega), if_neg (by omega), if_neg hh, if_pos hop]
        rfl
      have HNX := hid' hnx
      obtain ⟨vj, hrj, hvj⟩ := HK.out 1 j rfl
      obtain ⟨b', off', sx, sy, sz, su, e1, rfl, hrc⟩ := row_cells hrj
      cases e1
      have K1 := hid' (fun W (h : Below w1.heap.size w1 W) => HIH.out j (by simp) ok _ _ W (hvj.under (HB.out.trans (h.mono HB.out.size))) (HF.out.below (HB.out.trans (h.mono HB.out.size))) hj)
      have HR1 := hid' (fun W (h : Below w1.heap.size w1 W) => (hrc W (HB.out.trans (h.mono HB.out.size))).one)
      obtain ⟨Y, hY⟩ : ∃ Y, Hid (Dn.value (Dn.eyes F day) j = Y) := ⟨_, hid' rfl⟩
      rw [hY.out] at K1
      clear hrj hvj hrc
      clear hnx hkb hj
      rcases hop with rfl | rfl
      · rcases hr with rfl | rfl
        · have e := hid' (show V = some 0 from HV3.out.symm)
          go_wp2_with fail
          go_ret2
          exact ⟨by rw [e.out]; rfl, HB2.out⟩
        · have e := HNX.out (by omega)
          replace e := hid' e
          go_upto_region 22 with (fail)
          rw [hY.out] at e
          clear c0 c1 d0 d1 d2 d3
          cases Y with
          | none =>
            rw [optOut_none] at K1
            refine wp_region_keep (Below w1.heap.size w1) (by kernel_rfl) (by kernel_rfl) HS2.out.drew ?_
            repeat (first
              | (refine wpKeep_skip ?_ ?_
                 · rfl
                 simp only [Act.put, List.setIfInBounds_toArray, List.set_cons_zero, List.set_cons_succ])
              | (apply wpKeep_call 25 #[.agg #[.int .i64 day, .slice fp F.length fc], .agg #[sx, sy, sz, su]]
                 · rfl
                 · (intro w hSw; obtain ⟨⟨c0, c1⟩, d0, d1, d2, d3⟩ := HFA.out w hSw; obtain ⟨r0, r1, r2, r3⟩ := HR1.out w hSw; go_simp; done)
                 · (intro w hSw; refine (K1.out _ hSw).mono ?_; rintro e w'' ⟨rfl, b⟩; exact ⟨rfl, hSw.trans (b.mono hSw.size)⟩)
                 simp only [Act.put, List.setIfInBounds_toArray, List.set_cons_zero, List.set_cons_succ])
              | (apply wpKeep_val
                 · rfl
                 · (intro w hSw; obtain ⟨⟨c0, c1⟩, d0, d1, d2, d3⟩ := HFA.out w hSw; obtain ⟨r0, r1, r2, r3⟩ := HR1.out w hSw; first | (go_simp; done) | (go_simp; with_reducible rfl))
                 simp only [Act.put, List.setIfInBounds_toArray, List.set_cons_zero, List.set_cons_succ]))
            refine wpKeep_nil ?_
            intro w3 hS'
            have HB3 := hid' (HB.out.trans (hS'.mono HB.out.size))
            clear hS'
            go_wp2_with fail
            go_ret2
            exact ⟨by rw [e.out]; rfl, HB3.out⟩
          | some y =>
            rw [optOut_some] at K1
            refine wp_region_keep (Below w1.heap.size w1) (by kernel_rfl) (by kernel_rfl) HS2.out.drew ?_
            repeat (first
              | (refine wpKeep_skip ?_ ?_
                 · rfl
                 simp only [Act.put, List.setIfInBounds_toArray, List.set_cons_zero, List.set_cons_succ])
              | (apply wpKeep_call 25 #[.agg #[.int .i64 day, .slice fp F.length fc], .agg #[sx, sy, sz, su]]
                 · rfl
                 · (intro w hSw; obtain ⟨⟨c0, c1⟩, d0, d1, d2, d3⟩ := HFA.out w hSw; obtain ⟨r0, r1, r2, r3⟩ := HR1.out w hSw; go_simp; done)
                 · (intro w hSw; refine (K1.out _ hSw).mono ?_; rintro e w'' ⟨rfl, b⟩; exact ⟨rfl, hSw.trans (b.mono hSw.size)⟩)
                 simp only [Act.put, List.setIfInBounds_toArray, List.set_cons_zero, List.set_cons_succ])
              | (apply wpKeep_val
                 · rfl
                 · (intro w hSw; obtain ⟨⟨c0, c1⟩, d0, d1, d2, d3⟩ := HFA.out w hSw; obtain ⟨r0, r1, r2, r3⟩ := HR1.out w hSw; first | (go_simp; done) | (go_simp; with_reducible rfl))
                 simp only [Act.put, List.setIfInBounds_toArray, List.set_cons_zero, List.set_cons_succ]))
            refine wpKeep_nil ?_
            intro w3 hS'
            have HB3 := hid' (HB.out.trans (hS'.mono HB.out.size))
            clear hS'
            go_wp2_with fail
            go_ret2
            exact ⟨by rw [e.out]; rfl, HB3.out⟩
      · rcases hr with rfl | rfl
        · have e := HNX.out (by omega)
          replace e := hid' e
          go_upto_region 22 with (fail)
          rw [hY.out] at e
          clear c0 c1 d0 d1 d2 d3
          cases Y with
          | none =>
            rw [optOut_none] at K1
            refine wp_region_keep (Below w1.heap.size w1) (by kernel_rfl) (by kernel_rfl) HS2.out.drew ?_
            repeat (first
              | (refine wpKeep_skip ?_ ?_
                 · rfl
                 simp only [Act.put, List.setIfInBounds_toArray, List.set_cons_zero, List.set_cons_succ])
              | (apply wpKeep_call 25 #[.agg #[.int .i64 day, .slice fp F.length fc], .agg #[sx, sy, sz, su]]
                 · rfl
                 · (intro w hSw; obtain ⟨⟨c0, c1⟩, d0, d1, d2, d3⟩ := HFA.out w hSw; obtain ⟨r0, r1, r2, r3⟩ := HR1.out w hSw; go_simp; done)
                 · (intro w hSw; refine (K1.out _ hSw).mono ?_; rintro e w'' ⟨rfl, b⟩; exact ⟨rfl, hSw.trans (b.mono hSw.size)⟩)
                 simp only [Act.put, List.setIfInBounds_toArray, List.set_cons_zero, List.set_cons_succ])
              | (apply wpKeep_val
                 · rfl
                 · (intro w hSw; obtain ⟨⟨c0, c1⟩, d0, d1, d2, d3⟩ := HFA.out w hSw; obtain ⟨r0, r1, r2, r3⟩ := HR1.out w hSw; first | (go_simp; done) | (go_simp; with_reducible rfl))
                 simp only [Act.put, List.setIfInBounds_toArray, List.set_cons_zero, List.set_cons_succ]))
            refine wpKeep_nil ?_
            intro w3 hS'
            have HB3 := hid' (HB.out.trans (hS'.mono HB.out.size))
            clear hS'
            go_wp2_with fail
            go_ret2
            exact ⟨by rw [e.out]; rfl, HB3.out⟩
          | some y =>
            rw [optOut_some] at K1
            refine wp_region_keep (Below w1.heap.size w1) (by kernel_rfl) (by kernel_rfl) HS2.out.drew ?_
            repeat (first
              | (refine wpKeep_skip ?_ ?_
                 · rfl
                 simp only [Act.put, List.setIfInBounds_toArray, List.set_cons_zero, List.set_cons_succ])
              | (apply wpKeep_call 25 #[.agg #[.int .i64 day, .slice fp F.length fc], .agg #[sx, sy, sz, su]]
                 · rfl
                 · (intro w hSw; obtain ⟨⟨c0, c1⟩, d0, d1, d2, d3⟩ := HFA.out w hSw; obtain ⟨r0, r1, r2, r3⟩ := HR1.out w hSw; go_simp; done)
                 · (intro w hSw; refine (K1.out _ hSw).mono ?_; rintro e w'' ⟨rfl, b⟩; exact ⟨rfl, hSw.trans (b.mono hSw.size)⟩)
                 simp only [Act.put, List.setIfInBounds_toArray, List.set_cons_zero, List.set_cons_succ])
              | (apply wpKeep_val
                 · rfl
                 · (intro w hSw; obtain ⟨⟨c0, c1⟩, d0, d1, d2, d3⟩ := HFA.out w hSw; obtain ⟨r0, r1, r2, r3⟩ := HR1.out w hSw; first | (go_simp; done) | (go_simp; with_reducible rfl))
                 simp only [Act.put, List.setIfInBounds_toArray, List.set_cons_zero, List.set_cons_succ]))
            refine wpKeep_nil ?_
            intro w3 hS'
            have HB3 := hid' (HB.out.trans (hS'.mono HB.out.size))
            clear hS'
            go_wp2_with fail
            go_ret2
            exact ⟨by rw [e.out]; rfl, HB3.out⟩
        · have e := hid' (show V = some 1 from HV3.out.symm)
          go_wp2_with fail
          go_ret2
          exact ⟨by rw [e.out]; rfl, HB2.out⟩
    · obtain rfl : k' = k := by simpa using hk0
      subst h22
      have hr := (HVT.out 98 a hkb (by decide) (by decide) hX.out).1 rfl
      clear hkb
      rcases hr with ha | ha
      · have e := hid' (show V = Dn.value (Dn.eyes F day) i by rw [← HV3.out, ha]; rfl)
        have hwr : IntKind.i64.wrap (2 - a) = 2 := by rw [ha, IntWalk.i64_in _ (by omega)]; rfl
        clear ha
        obtain ⟨vj, hrj, hvj⟩ := HK.out 2 i rfl
        obtain ⟨b', off', sx, sy, sz, su, e1, rfl, hrc⟩ := row_cells hrj
        cases e1
        have K1 := hid' (fun W (h : Below w1.heap.size w1 W) => HIH.out i (by simp) ok _ _ W (hvj.under (HB.out.trans (h.mono HB.out.size))) (HF.out.below (HB.out.trans (h.mono HB.out.size))) hi)
        have HR1 := hid' (fun W (h : Below w1.heap.size w1 W) => (hrc W (HB.out.trans (h.mono HB.out.size))).two)
        obtain ⟨Y, hY⟩ : ∃ Y, Hid (Dn.value (Dn.eyes F day) i = Y) := ⟨_, hid' rfl⟩
        rw [hY.out] at K1
        clear hrj hvj hrc
        clear hi hj
        go_upto_region 24 with (fail)
        rw [hY.out] at e
        clear c0 c1 d0 d1 d2 d3
        cases Y with
        | none =>
          rw [optOut_none] at K1
          refine wp_region_keep (Below w1.heap.size w1) (by kernel_rfl) (by kernel_rfl) HS2.out.drew ?_
          repeat (first
            | (refine wpKeep_skip ?_ ?_
               · rfl
               simp only [Act.put, List.setIfInBounds_toArray, List.set_cons_zero, List.set_cons_succ])
            | (apply wpKeep_call 25 #[.agg #[.int .i64 day, .slice fp F.length fc], .agg #[sx, sy, sz, su]]
               · rfl
               · (intro w hSw; obtain ⟨⟨c0, c1⟩, d0, d1, d2, d3⟩ := HFA.out w hSw; obtain ⟨r0, r1, r2, r3⟩ := HR1.out w hSw; go_simp; done)
               · (intro w hSw; refine (K1.out _ hSw).mono ?_; rintro e w'' ⟨rfl, b⟩; exact ⟨rfl, hSw.trans (b.mono hSw.size)⟩)
               simp only [Act.put, List.setIfInBounds_toArray, List.set_cons_zero, List.set_cons_succ])
            | (apply wpKeep_val
               · rfl
               · (intro w hSw; obtain ⟨⟨c0, c1⟩, d0, d1, d2, d3⟩ := HFA.out w hSw; obtain ⟨r0, r1, r2, r3⟩ := HR1.out w hSw; first | (go_simp; done) | (go_simp; with_reducible rfl))
               simp only [Act.put, List.setIfInBounds_toArray, List.set_cons_zero, List.set_cons_succ]))
          refine wpKeep_nil ?_
          intro w3 hS'
          have HB3 := hid' (HB.out.trans (hS'.mono HB.out.size))
          clear hS'
          go_wp2_with fail
          go_ret2
          exact ⟨by rw [e.out]; rfl, HB3.out⟩
        | some y =>
          rw [optOut_some] at K1
          refine wp_region_keep (Below w1.heap.size w1) (by kernel_rfl) (by kernel_rfl) HS2.out.drew ?_
          repeat (first
            | (refine wpKeep_skip ?_ ?_
               · rfl
               simp only [Act.put, List.setIfInBounds_toArray, List.set_cons_zero, List.set_cons_succ])
            | (apply wpKeep_call 25 #[.agg #[.int .i64 day, .slice fp F.length fc], .agg #[sx, sy, sz, su]]
               · rfl
               · (intro w hSw; obtain ⟨⟨c0, c1⟩, d0, d1, d2, d3⟩ := HFA.out w hSw; obtain ⟨r0, r1, r2, r3⟩ := HR1.out w hSw; go_simp; done)
               · (intro w hSw; refine (K1.out _ hSw).mono ?_; rintro e w'' ⟨rfl, b⟩; exact ⟨rfl, hSw.trans (b.mono hSw.size)⟩)
               simp only [Act.put, List.setIfInBounds_toArray, List.set_cons_zero, List.set_cons_succ])
            | (apply wpKeep_val
               · rfl
               · (intro w hSw; obtain ⟨⟨c0, c1⟩, d0, d1, d2, d3⟩ := HFA.out w hSw; obtain ⟨r0, r1, r2, r3⟩ := HR1.out w hSw; first | (go_simp; done) | (go_simp; with_reducible rfl))
               simp only [Act.put, List.setIfInBounds_toArray, List.set_cons_zero, List.set_cons_succ]))
          refine wpKeep_nil ?_
          intro w3 hS'
          have HB3 := hid' (HB.out.trans (hS'.mono HB.out.size))
          clear hS'
          go_wp2_with fail
          go_ret2
          exact ⟨by rw [e.out]; rfl, HB3.out⟩
      · have e := hid' (show V = Dn.value (Dn.eyes F day) j by rw [← HV3.out, ha]; rfl)
        have hwr : IntKind.i64.wrap (2 - a) = 1 := by rw [ha, IntWalk.i64_in _ (by omega)]; rfl
        clear ha
        obtain ⟨vj, hrj, hvj⟩ := HK.out 1 j rfl
        obtain ⟨b', off', sx, sy, sz, su, e1, rfl, hrc⟩ := row_cells hrj
        cases e1
        have K1 := hid' (fun W (h : Below w1.heap.size w1 W) => HIH.out j (by simp) ok _ _ W (hvj.under (HB.out.trans (h.mono HB.out.size))) (HF.out.below (HB.out.trans (h.mono HB.out.size))) hj)
        have HR1 := hid' (fun W (h : Below w1.heap.size w1 W) => (hrc W (HB.out.trans (h.mono HB.out.size))).one)
        obtain ⟨Y, hY⟩ : ∃ Y, Hid (Dn.value (Dn.eyes F day) j = Y) := ⟨_, hid' rfl⟩
        rw [hY.out] at K1
        clear hrj hvj hrc
        clear hi hj
        go_upto_region 24 with (fail)
        rw [hY.out] at e
        clear c0 c1 d0 d1 d2 d3
        cases Y with
        | none =>
          rw [optOut_none] at K1
          refine wp_region_keep (Below w1.heap.size w1) (by kernel_rfl) (by kernel_rfl) HS2.out.drew ?_
          repeat (first
            | (refine wpKeep_skip ?_ ?_
               · rfl
               simp only [Act.put, List.setIfInBounds_toArray, List.set_cons_zero, List.set_cons_succ])
            | (apply wpKeep_call 25 #[.agg #[.int .i64 day, .slice fp F.length fc], .agg #[sx, sy, sz, su]]
               · rfl
               · (intro w hSw; obtain ⟨⟨c0, c1⟩, d0, d1, d2, d3⟩ := HFA.out w hSw; obtain ⟨r0, r1, r2, r3⟩ := HR1.out w hSw; go_simp; done)
               · (intro w hSw; refine (K1.out _ hSw).mono ?_; rintro e w'' ⟨rfl, b⟩; exact ⟨rfl, hSw.trans (b.mono hSw.size)⟩)
               simp only [Act.put, List.setIfInBounds_toArray, List.set_cons_zero, List.set_cons_succ])
            | (apply wpKeep_val
               · rfl
               · (intro w hSw; obtain ⟨⟨c0, c1⟩, d0, d1, d2, d3⟩ := HFA.out w hSw; obtain ⟨r0, r1, r2, r3⟩ := HR1.out w hSw; first | (go_simp; done) | (go_simp; with_reducible rfl))
               simp only [Act.put, List.setIfInBounds_toArray, List.set_cons_zero, List.set_cons_succ]))
          refine wpKeep_nil ?_
          intro w3 hS'
          have HB3 := hid' (HB.out.trans (hS'.mono HB.out.size))
          clear hS'
          go_wp2_with fail
          go_ret2
          exact ⟨by rw [e.out]; rfl, HB3.out⟩
        | some y =>
          rw [optOut_some] at K1
          refine wp_region_keep (Below w1.heap.size w1) (by kernel_rfl) (by kernel_rfl) HS2.out.drew ?_
          repeat (first
            | (refine wpKeep_skip ?_ ?_
               · rfl
               simp only [Act.put, List.setIfInBounds_toArray, List.set_cons_zero, List.set_cons_succ])
            | (apply wpKeep_call 25 #[.agg #[.int .i64 day, .slice fp F.length fc], .agg #[sx, sy, sz, su]]
               · rfl
               · (intro w hSw; obtain ⟨⟨c0, c1⟩, d0, d1, d2, d3⟩ := HFA.out w hSw; obtain ⟨r0, r1, r2, r3⟩ := HR1.out w hSw; go_simp; done)
               · (intro w hSw; refine (K1.out _ hSw).mono ?_; rintro e w'' ⟨rfl, b⟩; exact ⟨rfl, hSw.trans (b.mono hSw.size)⟩)
               simp only [Act.put, List.setIfInBounds_toArray, List.set_cons_zero, List.set_cons_succ])
            | (apply wpKeep_val
               · rfl
               · (intro w hSw; obtain ⟨⟨c0, c1⟩, d0, d1, d2, d3⟩ := HFA.out w hSw; obtain ⟨r0, r1, r2, r3⟩ := HR1.out w hSw; first | (go_simp; done) | (go_simp; with_reducible rfl))
               simp only [Act.put, List.setIfInBounds_toArray, List.set_cons_zero, List.set_cons_succ]))
          refine wpKeep_nil ?_
          intro w3 hS'
          have HB3 := hid' (HB.out.trans (hS'.mono HB.out.size))
          clear hS'
          go_wp2_with fail
          go_ret2
          exact ⟨by rw [e.out]; rfl, HB3.out⟩
    · have e0 := hid' (show Dn.second op a (Dn.value (Dn.eyes F day) j) = V by
        rw [← HV3.out]
        unfold Dn.after
        unfold Dn.twoOp at htw
        rw [if_neg (by omega), if_neg (by omega), if_neg (by omega), if_neg (by omega), if_neg (by omega)]
        rfl)
      have htw' := htw
      unfold Dn.twoOp at htw'
      have a6 : (op == 6) = false := by rw [beq_eq_false_iff_ne]; omega
      have a14 : (op == 14) = false := by rw [beq_eq_false_iff_ne]; omega
      have a15 : (op == 15) = false := by rw [beq_eq_false_iff_ne]; omega
      have a16 : (op == 16) = false := by rw [beq_eq_false_iff_ne]; omega
      have a22 : (op == 22) = false := by rw [beq_eq_false_iff_ne]; omega
      have HTW := hid' htw
      obtain ⟨vj, hrj, hvj⟩ := HK.out 1 j rfl
      obtain ⟨b', off', sx, sy, sz, su, e1, rfl, hrc⟩ := row_cells hrj
      cases e1
      have K1 := hid' (fun W (h : Below w1.heap.size w1 W) => HIH.out j (by simp) ok _ _ W (hvj.under (HB.out.trans (h.mono HB.out.size))) (HF.out.below (HB.out.trans (h.mono HB.out.size))) hj)
      have HR1 := hid' (fun W (h : Below w1.heap.size w1 W) => (hrc W (HB.out.trans (h.mono HB.out.size))).one)
      obtain ⟨Y, hY⟩ : ∃ Y, Hid (Dn.value (Dn.eyes F day) j = Y) := ⟨_, hid' rfl⟩
      rw [hY.out] at K1
      clear hrj hvj hrc
      rw [hY.out] at e0
      clear htw htw' hj
      go_upto_region 25 with (fail)
      clear c0 c1 d0 d1 d2 d3
      cases Y with
      | none =>
        rw [optOut_none] at K1
        have e := hid' (show V = none from e0.out.symm)
        refine wp_region_keep (Below w1.heap.size w1) (by kernel_rfl) (by kernel_rfl) HS2.out.drew ?_
        repeat (first
          | (refine wpKeep_skip ?_ ?_
             · rfl
             simp only [Act.put, List.setIfInBounds_toArray, List.set_cons_zero, List.set_cons_succ])
          | (apply wpKeep_call 25 #[.agg #[.int .i64 day, .slice fp F.length fc], .agg #[sx, sy, sz, su]]
             · rfl
             · (intro w hSw; obtain ⟨⟨c0, c1⟩, d0, d1, d2, d3⟩ := HFA.out w hSw; obtain ⟨r0, r1, r2, r3⟩ := HR1.out w hSw; go_simp; done)
             · (intro w hSw; refine (K1.out _ hSw).mono ?_; rintro e w'' ⟨rfl, b⟩; exact ⟨rfl, hSw.trans (b.mono hSw.size)⟩)
             simp only [Act.put, List.setIfInBounds_toArray, List.set_cons_zero, List.set_cons_succ])
          | (apply wpKeep_val
             · rfl
             · (intro w hSw; obtain ⟨⟨c0, c1⟩, d0, d1, d2, d3⟩ := HFA.out w hSw; obtain ⟨r0, r1, r2, r3⟩ := HR1.out w hSw; first | (go_simp; done) | (go_simp; with_reducible rfl))
             simp only [Act.put, List.setIfInBounds_toArray, List.set_cons_zero, List.set_cons_succ]))
        refine wpKeep_nil ?_
        intro w3 hS'
        have HB3 := hid' (HB.out.trans (hS'.mono HB.out.size))
        clear hS'
        go_wp2_with fail
        go_ret2
        exact ⟨by rw [e.out]; rfl, HB3.out⟩
      | some bv =>
        rw [optOut_some] at K1
        have e := hid' (show V = some (Dn.rk op a bv) from e0.out.symm)
        refine wp_region_keep (Below w1.heap.size w1) (by kernel_rfl) (by kernel_rfl) HS2.out.drew ?_
        repeat (first
          | (refine wpKeep_skip ?_ ?_
             · rfl
             simp only [Act.put, List.setIfInBounds_toArray, List.set_cons_zero, List.set_cons_succ])
          | (apply wpKeep_call 25 #[.agg #[.int .i64 day, .slice fp F.length fc], .agg #[sx, sy, sz, su]]
             · rfl
             · (intro w hSw; obtain ⟨⟨c0, c1⟩, d0, d1, d2, d3⟩ := HFA.out w hSw; obtain ⟨r0, r1, r2, r3⟩ := HR1.out w hSw; go_simp; done)
             · (intro w hSw; refine (K1.out _ hSw).mono ?_; rintro e w'' ⟨rfl, b⟩; exact ⟨rfl, hSw.trans (b.mono hSw.size)⟩)
             simp only [Act.put, List.setIfInBounds_toArray, List.set_cons_zero, List.set_cons_succ])
          | (apply wpKeep_val
             · rfl
             · (intro w hSw; obtain ⟨⟨c0, c1⟩, d0, d1, d2, d3⟩ := HFA.out w hSw; obtain ⟨r0, r1, r2, r3⟩ := HR1.out w hSw; first | (go_simp; done) | (go_simp; with_reducible rfl))
             simp only [Act.put, List.setIfInBounds_toArray, List.set_cons_zero, List.set_cons_succ]))
        refine wpKeep_nil ?_
        intro w3 hS'
        have HB3 := hid' (HB.out.trans (hS'.mono HB.out.size))
        obtain ⟨⟨c0, c1⟩, d0, d1, d2, d3⟩ := HFA.out w3 hS'
        have HRK := hid' (dnreckon_any op a bv HTW.out w3)
        clear hS'
        generalize Dn.rk op a bv = Z at *
        go_wp2_with (first | (go_at_call 39; refine HRK.out.mono ?_; rintro e w4 ⟨rfl, b4⟩; have HB4 := hid' (HB3.out.trans (b4.mono HB3.out.size)); clear b4))
        go_ret2
        exact ⟨by rw [e.out]; rfl, HB4.out⟩
end Go.Proofs.YtcpobnknmegkmaaGreatDoor
namespace Go.Proofs.YtcpobnknmegkmaaGreatDoor
open Go.RowKit
open Rw
set_option linter.unusedVariables false
set_option linter.unusedSimpArgs false
set_option maxRecDepth 100000
theorem append_live {w : World} {ops : Array Oper} {rest : List Oper} {o : Oper} {a : Act} {Q : Exit → Act → World → Prop} (hgd : o.guard = none) (s x : Operand)
    (ho : o.op = .call { callee := .builtin .append, args := #[s, x], argTypes := #[27, 27] })
    (base : Nat) (v : Value) (L : List (Int × Int)) (hs : a.eval s = v) (hown : LiveRow base w v L) (y : Int × Int) (hx : a.eval x = .slice (some ⟨w.heap.size, 0, none⟩) 1 1)
    (hbound : L.length + 1 ≤ 100000000) (hbase : base ≤ w.heap.size)
    (h : ∀ v' w', LiveRow base w' v' (L ++ [y]) → w.grownBy w' v.ownBlock → wpList Tryz.prog ops Q rest (a.put o.dst v') w') :
    wpList Tryz.prog ops Q (o :: rest) a (w.alloc (.cells #[.int .i64 y.1, .int .i64 y.2] 63)) := by
  obtain ⟨i, hi, hz, hsz, hby⟩ := info_split info_live
  refine wpList_append_own _ hgd s x 27 ho base 63 i _ 2 16 Tryz.underlying27 hi hz hsz hby rfl (by decide) v L.length _ hs (World.ownsRow.alloc hown _) ⟨w.heap.size, 0, none⟩ 1 1 (live2 y) hx rfl
    (fun j u hj => ?_) (fun u hu => ?_) (by unfold maxLen; omega) (by omega) (by simp; omega) (fun v' w' h1 h2 _ => h v' w' ?_ (grown_trans (grown_of_below ((Below.refl _ _).alloc (Nat.le_refl _) _) _) h2))
  · rw [add_gen, World.cell?_alloc_new, Nat.zero_add, ← hj]
    simp [live2]
  · simp only [live2, List.mem_cons, List.not_mem_nil, or_false] at hu
    rcases hu with rfl | rfl <;> rfl
  · show World.ownsRow w' base _ 2 v' (L ++ [y]).length ((L ++ [y]).flatMap live2)
    rw [List.length_append, List.flatMap_append]
    simpa using h1
set_option maxHeartbeats 16000000 in
theorem dnacq_any {W0 : World} {rb : Nat} {F : List Fd.Feed} {day : Int} {vf : Value} (hE : RunEnv W0 rb F day vf) (t : Co.T) : ∀ (ok : Nat → Prop) (v : Value) (a f : Int) (L : List (Int × Int)) (O : List (ByteArray × Int)) (vl vo : Value) (w : World),
    CoreIn ok W0 t v → t.letter = 99 → t.size ≤ 2000000 → 0 ≤ a → a + (t.size : Nat) ≤ 4000000 → Dn.NumOk f → L.length + t.size ≤ 90000000 → O.length + t.size ≤ 90000000 → Runs W0 rb day vf L O vl vo w →
    Calls Tryz.prog 12 #[.pointer (some ⟨rb, 0, none⟩), v, .int .i64 a, .int .i64 f] w (AcqPost W0 rb day vf L O (Dn.acq (Dn.eyes F day) t a f) w) := by
  induction t using Co.T.ind with | h op n s ks ih => ?_
  intro ok v a f L O vl vo w hv hx hsz ha ha2 hf hL hO hR
  have hz : (Co.T.mk op n s ks).size = 1 + Co.sizes ks := by rw [Co.T.size]
  have hn : I64 n := by obtain ⟨_, _, _, _, _, h, _⟩ := hv.open; exact h
  have hkid : ∀ (i : Nat) (k : Co.T) (g : Int) (L : List (Int × Int)) (O : List (ByteArray × Int)) (vl vo : Value) (W : World), ks[i]? = some k → k.letter = 99 → Dn.NumOk g → L.length + k.size ≤ 90000000 → O.length + k.size ≤ 90000000 → Runs W0 rb day vf L O vl vo W →
      Calls Tryz.prog 19 #[.pointer (some ⟨rb, 0, none⟩), v, .int .i64 a, .int .i64 (i : Int), .int .i64 g] W (AcqPost W0 rb day vf L O (Dn.kidA (Dn.eyes F day) ks i a g) W) := by
    intro i k g L O vl vo W hki hkx hg hL hO hR
    have hm := Co.sizes_mem (List.mem_of_getElem? hki)
    have hm2 := Dn.take_sizes hki
    rw [Dn.kidA_at hki]
    refine dnkid_any hE ok v hv hsz a g ⟨ha, by omega⟩ i k hki L O _ (fun vk w1 vl vo hvk hr => ?_) W vl vo hR
    exact ih k (List.mem_of_getElem? hki) ok vk _ g L O vl vo w1 hvk hkx (by omega) (by omega) (by omega) hg hL hO hr
  have hval : ∀ (i : Nat) (k : Co.T) (vk : Value) (W : World), ks[i]? = some k → Dn.Obs k → CoreIn ok W0 k vk → Below rb W0 W → Calls Tryz.prog 25 #[.agg #[.int .i64 day, vf], vk] W (Gives (optOut (Dn.value (Dn.eyes F day) k)) W) := by
    intro i k vk W hki hko hvk hb
    exact dnvalue_any F hE.ok day hE.day k ok vf vk W (hvk.far hb hE.rb) (by
      obtain ⟨fp, fc, e, hl, h⟩ := hE.fs
      refine ⟨fp, fc, e, hl, fun j x hj => ?_⟩
      obtain ⟨b, off, sv, e1, hb1, ⟨x0, x1⟩, ⟨sp, sc, e2, hl2, hss⟩, h4⟩ := h j x hj
      have lt : ∀ {b : Nat}, b < W0.heap.size → b < rb := fun h => Nat.lt_of_lt_of_le h hE.rb
      have sz : rb ≤ W.heap.size ∨ W0.heap.size ≤ W.heap.size := .inr hb.size
      refine ⟨b, off, sv, e1, Nat.lt_of_lt_of_le hb1 hb.size, ⟨(hb.cell (p := ⟨b, _, none⟩) (lt hb1)).trans x0, (hb.cell (p := ⟨b, _, none⟩) (lt hb1)).trans x1⟩, ⟨sp, sc, e2, hl2, fun m y hy => ?_⟩, h4⟩
      obtain ⟨b', off', e3, hb3, ⟨y0, y1⟩, h5⟩ := hss m y hy
      exact ⟨b', off', e3, Nat.lt_of_lt_of_le hb3 hb.size, ⟨(hb.cell (p := ⟨b', _, none⟩) (lt hb3)).trans y0, (hb.cell (p := ⟨b', _, none⟩) (lt hb3)).trans y1⟩, h5⟩) hko
  have HROW := hid' (fun (i : Nat) (k : Co.T) (h : ks[i]? = some k) => hv.open)
  obtain ⟨p, c, rfl, hc, -, -, hs, hk⟩ := hv.open
  simp only [Co.T.op, Co.T.n, Co.T.s, Co.T.ks] at hk hc hs hkid ⊢
  have hct := Dn.contract_of hx
  have HCT := hid' hx
  have HKID := hid' hkid
  have HVAL := hid' hval
  have HK := hid' hk
  have HE := hid' hE
  have HZ := hid' hz
  have HEO := hid' (Dn.eyes_ok hE.ok day)
  have HLO := hid' (And.intro hL hO)
  have HF := hid' hf
  have HB := hid' ((Below.refl w.heap.size w).alloc (Nat.le_refl _) (.cells #[.int .i64 op, .int .i64 n, .string s, .slice p ks.length c] 24))
  have HC := hid' (heap_alloc_new w (.cells #[.int .i64 op, .int .i64 n, .string s, .slice p ks.length c] 24))
  have HKP := hid' (KpR.below (mb := rb) HB.out (Nat.le_of_lt hR.lt))
  have HR1 := hid' (hR.below HB.out)
  have HN := hid' (show rb ≠ w.heap.size from Nat.ne_of_lt hR.lt)
  obtain ⟨R, hRR⟩ : ∃ R, Hid (Dn.acq (Dn.eyes F day) (.mk op n s ks) a f = R) := ⟨_, hid' rfl⟩
  rw [hRR.out]
  clear hkid hval hv hx hsz ha ha2 hf hL hO hR hz ih hk hc hs hE hn
  go_enter Tryz.func12, Tryz.ntmps12
  go_upto_region 1 with (fail)
  generalize World.alloc _ _ = w1 at *
  have HFA := hid' (fun W (h : Below w1.heap.size w1 W) => And.intro (bcells (box_below h HR1.out.box) 0 _ rfl) (And.intro (bcells (box_below h HR1.out.box) 1 _ rfl) (heap_cells4 (box_below h HC.out))))
  refine wp_region_keep (Below w1.heap.size w1) (by kernel_rfl) (by kernel_rfl) (Below.refl _ _).drew ?_
  repeat (first
    | (refine wpKeep_skip ?_ ?_
       · rfl
       simp only [Act.put, List.setIfInBounds_toArray, List.set_cons_zero, List.set_cons_succ])
    | (apply wpKeep_val
       · rfl
       · (intro w hSw; obtain ⟨c0, c1, d0, d1, d2, d3⟩ := HFA.out w hSw; first | (go_simp; done) | (go_simp; with_reducible rfl))
       simp only [Act.put, List.setIfInBounds_toArray, List.set_cons_zero, List.set_cons_succ]))
  refine wpKeep_nil ?_
  intro w2 hS'
  have HS2 := hid' hS'
  clear hS'
  go_upto_region 2 with (fail)
  refine wp_region_keep (Below w1.heap.size w1) (by kernel_rfl) (by kernel_rfl) HS2.out.drew ?_
  repeat (first
    | (refine wpKeep_skip ?_ ?_
       · rfl
       simp only [Act.put, List.setIfInBounds_toArray, List.set_cons_zero, List.set_cons_succ])
    | (apply wpKeep_val
       · rfl
       · (intro w hSw; obtain ⟨c0, c1, d0, d1, d2, d3⟩ := HFA.out w hSw; first | (go_simp; done) | (go_simp; with_reducible rfl))
       simp only [Act.put, List.setIfInBounds_toArray, List.set_cons_zero, List.set_cons_succ]))
  refine wpKeep_nil ?_
  intro w3 hS'
  have HS3 := hid' hS'
  clear hS' HS2
  have HR3 := hid' (HR1.out.below HS3.out)
  have HKP3 := hid' (HKP.out.trans (KpR.below (mb := rb) HS3.out (Nat.le_of_lt HR1.out.lt)))
  have HC3 := hid' (box_below HS3.out HC.out)
  obtain ⟨c0, c1, d0, d1, d2, d3⟩ := HFA.out w3 HS3.out
  rcases hct with (⟨rfl, rfl⟩ | ⟨rfl, rfl⟩) | ⟨h | h, k, rfl, hk⟩ | ⟨rfl, q, k, rfl, ho, hk⟩ | ⟨h | h, k, j, rfl, hk, hj⟩ | ⟨rfl, q, k, j, rfl, ho, hk, hj⟩ | ⟨rfl, q, k, rfl, ho, hk⟩
  · have e := hid' (show R = Dn.nothing by rw [← hRR.out, Dn.acq_23])
    go_wp2_with fail
    refine bodyPost_ret (results_none rfl _ _ _) rfl ⟨⟨_, rfl⟩, ?_, HKP3.out⟩
    rw [e.out]
    exact ⟨_, _, by simpa only [Dn.nothing, List.append_nil] using HR3.out⟩
  · by_cases hf0 : f = 0
    · have e := hid' (show R = Dn.nothing by rw [← hRR.out, Dn.acq_24, if_pos hf0]; rfl)
      have g0 : (f != 0) = false := by rw [hf0]; rfl
      have g1 : (f == 0) = true := by rw [hf0]; rfl
      clear hf0
      go_wp2_with fail
      refine bodyPost_ret (results_none rfl _ _ _) rfl ⟨⟨_, rfl⟩, ?_, HKP3.out⟩
      rw [e.out]
      exact ⟨_, _, by simpa only [Dn.nothing, List.append_nil] using HR3.out⟩
    · have e := hid' (show R = ([], [(s, f)]) by rw [← hRR.out, Dn.acq_24, if_neg hf0])
      have g0 : (f != 0) = true := by rw [bne_iff_ne]; exact hf0
      have g1 : (f == 0) = false := by rw [beq_eq_false_iff_ne]; exact hf0
      clear hf0
      go_upto_region 12 with (fail)
      have r3 := bcells HR3.out.box 3 _ rfl
      have r3' := alloc_cell r3 (.cells #[.int .i64 day, .string s, .int .i64 f] 49)
      have c0' := alloc_cell c0 (.cells #[.int .i64 day, .string s, .int .i64 f] 49)
      have d2' := alloc_cell d2 (.cells #[.int .i64 day, .string s, .int .i64 f] 49)
      have HTS : Hid (TranRow (rb + 1) w3.drew vo day O) := hid' (World.ownsRow.drew HR3.out.ts)
      have HLD := hid' (HR3.out.below (Below.refl w3.heap.size w3).drew)
      have HLB := hid' (show O.length + 1 ≤ 100000000 by have := HLO.out; omega)
      have HMB := hid' (show rb + 1 ≤ w3.drew.heap.size from HLD.out.lt)
      go_region_law (first | (refine step_tran rfl _ _ (by rfl) (rb + 1) vo day O (by rfl) HTS.out (s, f) (by rfl) HLB.out HMB.out ?_; intro v' w5 h5 h6; have hk5 := (h6.block rb HLD.out.lt (fun e => own_lt HTS.out (Nat.lt_succ_self _) e.symm)).trans HLD.out.box; have hkc := bcells hk5 3 _ rfl; have hkf := frozen_of (o := 3) hk5; obtain ⟨hp, hc', rfl⟩ := row_form h5))
      all_goals have HL5 := hid' (Runs.pushTran HLD.out (y := (s, f)) h5 h6)
      all_goals simp only [List.length_append, List.length_cons, List.length_nil, Nat.zero_add] at HL5
      all_goals clear h5 h6 r3 r3' c0' d2' hk5 hkc hkf c0 c1 d0 d1 d2 d3
      all_goals go_wp2_with fail
      all_goals
        refine bodyPost_ret (results_none rfl _ _ _) rfl ⟨⟨_, rfl⟩, ?_, (HKP3.out.trans (KpR.below (mb := rb) (Below.refl _ _).drew (Nat.le_of_lt HR3.out.lt))).trans HL5.out.2⟩
        rw [e.out]
        exact ⟨_, _, by simpa only [List.append_nil] using HL5.out.1⟩
  · subst h
    have e := hid' (show R = Dn.kidA (Dn.eyes F day) [k] 0 a (Num.neg f) by rw [← hRR.out, Dn.acq_25])
    have HNG := hid' (fun W => neg_any f W)
    have HNO := hid' (Dn.num_neg (f := f))
    have HQ := hid' (fun (W : World) (h : Below w1.heap.size w1 W) => HKID.out 0 k (Num.neg f) _ _ _ _ W rfl hk HNO.out (by have := HLO.out; have := HZ.out; simp only [Co.sizes] at this; omega) (by have := HLO.out; have := HZ.out; simp only [Co.sizes] at this; omega) (HR1.out.below h))
    rw [show ((0 : Nat) : Int) = 0 from rfl] at HQ
    generalize Num.neg f = G at *
    go_upto_region 14 with (fail)
    clear c0 c1 d0 d1 d2 d3
    refine wp_region_keep_tail (Below w1.heap.size w1) 5 (by kernel_rfl) (by kernel_rfl) HS3.out.drew ?_
    simp only [List.take_succ_cons, List.take_zero, List.drop_succ_cons, List.drop_zero]
    repeat (first
      | (refine wpKeep_skip ?_ ?_
         · rfl
         simp only [Act.put, List.setIfInBounds_toArray, List.set_cons_zero, List.set_cons_succ])
      | (apply wpKeep_call 24 #[.int .i64 f]
         · rfl
         · (intro w hSw; obtain ⟨c0, c1, d0, d1, d2, d3⟩ := HFA.out w hSw; go_simp; done)
         · (intro w hSw; refine (HNG.out _).mono ?_; rintro e w'' ⟨rfl, rfl⟩; exact ⟨rfl, hSw⟩)
         simp only [Act.put, List.setIfInBounds_toArray, List.set_cons_zero, List.set_cons_succ])
      | (apply wpKeep_val
         · rfl
         · (intro w hSw; obtain ⟨c0, c1, d0, d1, d2, d3⟩ := HFA.out w hSw; first | (go_simp; done) | (go_simp; with_reducible rfl))
         simp only [Act.put, List.setIfInBounds_toArray, List.set_cons_zero, List.set_cons_succ]))
    refine wpKeep_nil ?_
    intro w4 hS'
    have HQ4 := hid' (HQ.out w4 hS')
    have HKP4 := hid' (HKP.out.trans (KpR.below (mb := rb) hS' (Nat.le_of_lt HR1.out.lt)))
    clear hS'
    go_wp2_with (first | (go_at_call 19; refine HQ4.out.mono ?_; rintro e w5 ⟨⟨x, rfl⟩, hr5, k5⟩; have HP5 := hid' (And.intro hr5 k5); clear hr5 k5))
    refine bodyPost_ret (results_none rfl _ _ _) rfl ⟨⟨_, rfl⟩, ?_, HKP4.out.trans HP5.out.2⟩
    rw [e.out]
    exact HP5.out.1
  · subst h
    by_cases hd : n ≤ day
    · have e := hid' (show R = Dn.kidA (Dn.eyes F day) [k] 0 a f by rw [← hRR.out, Dn.acq_29, if_pos (show n ≤ (Dn.eyes F day).day from hd)])
      have g0 : decide (n ≤ day) = true := decide_eq_true hd
      have HQ := hid' (HKID.out 0 k f _ _ _ _ w3 rfl hk HF.out (by have := HLO.out; have := HZ.out; simp only [Co.sizes] at this; omega) (by have := HLO.out; have := HZ.out; simp only [Co.sizes] at this; omega) HR3.out)
      rw [show ((0 : Nat) : Int) = 0 from rfl] at HQ
      go_wp2_with (first | (go_at_call 19; refine HQ.out.mono ?_; rintro e w5 ⟨⟨x, rfl⟩, hr5, k5⟩; have HP5 := hid' (And.intro hr5 k5); clear hr5 k5))
      refine bodyPost_ret (results_none rfl _ _ _) rfl ⟨⟨_, rfl⟩, ?_, HKP3.out.trans HP5.out.2⟩
      rw [e.out]
      exact HP5.out.1
    · have e := hid' (show R = Dn.waitR a f by rw [← hRR.out, Dn.acq_29, if_neg (show ¬ n ≤ (Dn.eyes F day).day from hd)])
      have g0 : decide (n ≤ day) = false := decide_eq_false hd
      go_upto_region 29 with (fail)
      have r2 := bcells HR3.out.box 2 _ rfl
      have HLB := hid' (show L.length + 1 ≤ 100000000 by have := HLO.out; omega)
      clear c0 c1 d0 d1 d2 d3
      go_wp2_with (refine append_live rfl _ _ rfl (rb + 1) _ _ rfl HR3.out.ls (a, f) rfl HLB.out HR3.out.lt (fun v' w5 h5 h6 => ?_); refine halt' ?_)
      refine hid' ?_
      have hk5 := (h6.block rb HR3.out.lt (fun e => own_lt HR3.out.ls (Nat.lt_succ_self _) e.symm)).trans HR3.out.box
      have hkc := bcells hk5 2 _ rfl
      have hkf := frozen_of (o := 2) hk5
      have HL5 := hid' (Runs.pushLive HR3.out (y := (a, f)) h5 h6)
      obtain ⟨hp, hc', rfl⟩ := row_form h5
      simp only [List.length_append, List.length_cons, List.length_nil, Nat.zero_add] at HL5
      clear h5 h6 r2 hk5
      go_wp2_with fail
      refine bodyPost_end (results_none rfl _ _ _) rfl ⟨⟨_, rfl⟩, ?_, HKP3.out.trans HL5.out.2⟩
      rw [e.out]
      exact ⟨_, _, by simpa only [Dn.waitR, List.append_nil] using HL5.out.1⟩
  · have hob := Dn.obs_n ho
    obtain ⟨vq, hrq, hvq⟩ := HK.out 0 q rfl
    obtain ⟨b, off, sx, sy, sz, su, rfl, rfl, hrc⟩ := row_cells hrq
    have HRC := hid' (fun W (h : Below w1.heap.size w1 W) => RowC.zero (W := W) (b := b) (o := off) (x := sx) (y := sy) (z := sz) (u := su) (by
      have hb := (HR1.out.below h).bel
      obtain ⟨b', off', x', y', z', u', e1, hl, e2, q0, q1, q2, q3⟩ := hrq.keep (W' := W) (ok' := ok) (fun b h hl => ⟨h, hb.block b (Nat.lt_of_lt_of_le hl HE.out.rb)⟩)
      cases e1
      cases e2
      exact ⟨q0, q1, q2, q3⟩))
    have HQV := hid' (fun W (h : Below w1.heap.size w1 W) => HVAL.out 0 q _ W rfl hob hvq (HR1.out.below h).bel)
    obtain ⟨X, hX⟩ : ∃ X, Hid (Dn.value (Dn.eyes F day) q = X) := ⟨_, hid' rfl⟩
    have HVT := hid' (fun (x : UInt8) v => Dn.value_ty HEO.out q x v)
    rw [hX.out] at HQV
    clear hrq hvq hrc
    go_upto_region 4 with (fail)
    clear c0 c1 d0 d1 d2 d3
    have HVX := hid' (show (Dn.values (Dn.eyes F day) [q, k]).getD 0 none = X by rw [Dn.values_at (k := q) rfl, hX.out])
    cases X with
    | none =>
      rw [optOut_none] at HQV
      have e := hid' (show R = Dn.waitR a f by rw [← hRR.out, Dn.acq_26, HVX.out])
      refine wp_region_keep (Below w1.heap.size w1) (by kernel_rfl) (by kernel_rfl) HS3.out.drew ?_
      repeat (first
        | (refine wpKeep_skip ?_ ?_
           · rfl
           simp only [Act.put, List.setIfInBounds_toArray, List.set_cons_zero, List.set_cons_succ])
        | (apply wpKeep_call 25 #[.agg #[.int .i64 day, vf], .agg #[sx, sy, sz, su]]
           · rfl
           · (intro w hSw; obtain ⟨c0, c1, d0, d1, d2, d3⟩ := HFA.out w hSw; obtain ⟨r0, r1, r2, r3⟩ := HRC.out w hSw; go_simp; done)
           · (intro w hSw; refine (HQV.out _ hSw).mono ?_; rintro e w'' ⟨rfl, b⟩; exact ⟨rfl, hSw.trans (b.mono hSw.size)⟩)
           simp only [Act.put, List.setIfInBounds_toArray, List.set_cons_zero, List.set_cons_succ])
        | (apply wpKeep_val
           · rfl
           · (intro w hSw; obtain ⟨c0, c1, d0, d1, d2, d3⟩ := HFA.out w hSw; obtain ⟨r0, r1, r2, r3⟩ := HRC.out w hSw; first | (go_simp; done) | (go_simp; with_reducible rfl))
           simp only [Act.put, List.setIfInBounds_toArray, List.set_cons_zero, List.set_cons_succ]))
      refine wpKeep_nil ?_
      intro w4 hS'
      have HS4 := hid' hS'
      have HR4 := hid' (HR1.out.below hS')
      have HKP4 := hid' (HKP.out.trans (KpR.below (mb := rb) hS' (Nat.le_of_lt HR1.out.lt)))
      obtain ⟨c0, c1, d0, d1, d2, d3⟩ := HFA.out w4 hS'
      clear hS'
      go_upto_region 29 with (fail)
      have r2 := bcells HR4.out.box 2 _ rfl
      have HLB := hid' (show L.length + 1 ≤ 100000000 by have := HLO.out; omega)
      clear c0 c1 d0 d1 d2 d3
      go_wp2_with (refine append_live rfl _ _ rfl (rb + 1) _ _ rfl HR4.out.ls (a, f) rfl HLB.out HR4.out.lt (fun v' w5 h5 h6 => ?_); refine halt' ?_)
      refine hid' ?_
      have hk5 := (h6.block rb HR4.out.lt (fun e => own_lt HR4.out.ls (Nat.lt_succ_self _) e.symm)).trans HR4.out.box
      have hkc := bcells hk5 2 _ rfl
      have hkf := frozen_of (o := 2) hk5
      have HL5 := hid' (Runs.pushLive HR4.out (y := (a, f)) h5 h6)
      obtain ⟨hp, hc', rfl⟩ := row_form h5
      simp only [List.length_append, List.length_cons, List.length_nil, Nat.zero_add] at HL5
      clear h5 h6 r2 hk5
      go_wp2_with fail
      refine bodyPost_end (results_none rfl _ _ _) rfl ⟨⟨_, rfl⟩, ?_, HKP4.out.trans HL5.out.2⟩
      rw [e.out]
      exact ⟨_, _, by simpa only [Dn.waitR, List.append_nil] using HL5.out.1⟩
    | some x =>
      rw [optOut_some] at HQV
      have e := hid' (show R = Dn.kidA (Dn.eyes F day) [q, k] 1 a (Num.mul f x) by rw [← hRR.out, Dn.acq_26, HVX.out])
      have HML := hid' (fun W => mul_any f x W)
      have HMO := hid' (Dn.num_mul f x)
      have HQ := hid' (fun (W : World) (h : Below w1.heap.size w1 W) => HKID.out 1 k (Num.mul f x) _ _ _ _ W rfl hk HMO.out (by have := HLO.out; have := HZ.out; simp only [Co.sizes] at this; omega) (by have := HLO.out; have := HZ.out; simp only [Co.sizes] at this; omega) (HR1.out.below h))
      rw [show ((1 : Nat) : Int) = 1 from rfl] at HQ
      generalize Num.mul f x = G at *
      refine wp_region_keep (Below w1.heap.size w1) (by kernel_rfl) (by kernel_rfl) HS3.out.drew ?_
      repeat (first
        | (refine wpKeep_skip ?_ ?_
           · rfl
           simp only [Act.put, List.setIfInBounds_toArray, List.set_cons_zero, List.set_cons_succ])
        | (apply wpKeep_call 25 #[.agg #[.int .i64 day, vf], .agg #[sx, sy, sz, su]]
           · rfl
           · (intro w hSw; obtain ⟨c0, c1, d0, d1, d2, d3⟩ := HFA.out w hSw; obtain ⟨r0, r1, r2, r3⟩ := HRC.out w hSw; go_simp; done)
           · (intro w hSw; refine (HQV.out _ hSw).mono ?_; rintro e w'' ⟨rfl, b⟩; exact ⟨rfl, hSw.trans (b.mono hSw.size)⟩)
           simp only [Act.put, List.setIfInBounds_toArray, List.set_cons_zero, List.set_cons_succ])
        | (apply wpKeep_val
           · rfl
           · (intro w hSw; obtain ⟨c0, c1, d0, d1, d2, d3⟩ := HFA.out w hSw; obtain ⟨r0, r1, r2, r3⟩ := HRC.out w hSw; first | (go_simp; done) | (go_simp; with_reducible rfl))
           simp only [Act.put, List.setIfInBounds_toArray, List.set_cons_zero, List.set_cons_succ]))
      refine wpKeep_nil ?_
      intro w4 hS'
      have HS4 := hid' hS'
      have HR4 := hid' (HR1.out.below hS')
      have HKP4 := hid' (HKP.out.trans (KpR.below (mb := rb) hS' (Nat.le_of_lt HR1.out.lt)))
      obtain ⟨c0, c1, d0, d1, d2, d3⟩ := HFA.out w4 hS'
      clear hS'
      go_upto_region 7 with (fail)
      clear c0 c1 d0 d1 d2 d3
      refine wp_region_keep_tail (Below w1.heap.size w1) 6 (by kernel_rfl) (by kernel_rfl) HS4.out.drew ?_
      simp only [List.take_succ_cons, List.take_zero, List.drop_succ_cons, List.drop_zero]
      repeat (first
        | (refine wpKeep_skip ?_ ?_
           · rfl
           simp only [Act.put, List.setIfInBounds_toArray, List.set_cons_zero, List.set_cons_succ])
        | (apply wpKeep_call 26 #[.int .i64 f, .int .i64 x]
           · rfl
           · (intro w hSw; obtain ⟨c0, c1, d0, d1, d2, d3⟩ := HFA.out w hSw; go_simp; done)
           · (intro w hSw; refine (HML.out _).mono ?_; rintro e w'' ⟨rfl, m, rfl⟩; exact ⟨rfl, Below.drewn hSw m⟩)
           simp only [Act.put, List.setIfInBounds_toArray, List.set_cons_zero, List.set_cons_succ])
        | (apply wpKeep_val
           · rfl
           · (intro w hSw; obtain ⟨c0, c1, d0, d1, d2, d3⟩ := HFA.out w hSw; first | (go_simp; done) | (go_simp; with_reducible rfl))
           simp only [Act.put, List.setIfInBounds_toArray, List.set_cons_zero, List.set_cons_succ]))
      refine wpKeep_nil ?_
      intro w5 hS'
      have HQ5 := hid' (HQ.out w5 hS')
      have HKP5 := hid' (HKP.out.trans (KpR.below (mb := rb) hS' (Nat.le_of_lt HR1.out.lt)))
      clear hS'
      go_wp2_with (first | (go_at_call 19; refine HQ5.out.mono ?_; rintro e w6 ⟨⟨x', rfl⟩, hr5, k5⟩; have HP5 := hid' (And.intro hr5 k5); clear hr5 k5))
      refine bodyPost_ret (results_none rfl _ _ _) rfl ⟨⟨_, rfl⟩, ?_, HKP5.out.trans HP5.out.2⟩
      rw [e.out]
      exact HP5.out.1
  · subst h
    have e := hid' (show R = Dn.both (Dn.kidA (Dn.eyes F day) [k, j] 0 a f) (Dn.kidA (Dn.eyes F day) [k, j] 1 a f) by rw [← hRR.out, Dn.acq_27])
    have hlen := Dn.acq_len HEO.out k (a + 1 + (Co.sizes ([k, j].take 0) : Nat)) f hk HF.out
    rw [← Dn.kidA_at (ks := [k, j]) (i := 0) rfl] at hlen
    have HLEN := hid' hlen
    clear hlen
    have HQ := hid' (HKID.out 0 k f _ _ _ _ w3 rfl hk HF.out (by have := HLO.out; have := HZ.out; simp only [Co.sizes] at this; omega) (by have := HLO.out; have := HZ.out; simp only [Co.sizes] at this; omega) HR3.out)
    rw [show ((0 : Nat) : Int) = 0 from rfl] at HQ
    obtain ⟨r0, hr0⟩ : ∃ r, Hid (Dn.kidA (Dn.eyes F day) [k, j] 0 a f = r) := ⟨_, hid' rfl⟩
    rw [hr0.out] at HQ HLEN e
    go_upto_region 17 with (first | (go_at_call 19; refine HQ.out.mono ?_; rintro e w5 ⟨⟨x, rfl⟩, ⟨vl5, vo5, hr5⟩, k5⟩; have HP5 := hid' (And.intro hr5 k5); clear hr5 k5))
    have HC5 := hid' (HP5.out.2.box HN.out.symm (by decide) (by decide) HC3.out)
    have HQ2 := hid' (HKID.out 1 j f _ _ _ _ w5 rfl hj HF.out (by have := HLO.out; have := HZ.out; have := HLEN.out; simp only [Co.sizes, List.length_append] at *; omega) (by have := HLO.out; have := HZ.out; have := HLEN.out; simp only [Co.sizes, List.length_append] at *; omega) HP5.out.1)
    rw [show ((1 : Nat) : Int) = 1 from rfl] at HQ2
    clear c0 c1 d0 d1 d2 d3
    obtain ⟨d0, d1, d2, d3⟩ := heap_cells4 HC5.out
    go_wp2_with (first | (go_at_call 19; refine HQ2.out.mono ?_; rintro e w6 ⟨⟨x, rfl⟩, hr6, k6⟩; have HP6 := hid' (And.intro hr6 k6); clear hr6 k6))
    refine bodyPost_ret (results_none rfl _ _ _) rfl ⟨⟨_, rfl⟩, ?_, (HKP3.out.trans HP5.out.2).trans HP6.out.2⟩
    rw [e.out]
    unfold Dn.both
    simp only [← List.append_assoc]
    exact HP6.out.1
  · subst h
    by_cases hd : n < day
    · have e := hid' (show R = Dn.kidA (Dn.eyes F day) [k, j] 1 a f by rw [← hRR.out, Dn.acq_31, if_pos (show n < (Dn.eyes F day).day from hd)])
      have g0 : decide (n < day) = true := decide_eq_true hd
      have HQ := hid' (HKID.out 1 j f _ _ _ _ w3 rfl hj HF.out (by have := HLO.out; have := HZ.out; simp only [Co.sizes] at this; omega) (by have := HLO.out; have := HZ.out; simp only [Co.sizes] at this; omega) HR3.out)
      rw [show ((1 : Nat) : Int) = 1 from rfl] at HQ
      go_wp2_with (first | (go_at_call 19; refine HQ.out.mono ?_; rintro e w5 ⟨⟨x, rfl⟩, hr5, k5⟩; have HP5 := hid' (And.intro hr5 k5); clear hr5 k5))
      refine bodyPost_ret (results_none rfl _ _ _) rfl ⟨⟨_, rfl⟩, ?_, HKP3.out.trans HP5.out.2⟩
      rw [e.out]
      exact HP5.out.1
    · have e := hid' (show R = Dn.waitR a f by rw [← hRR.out, Dn.acq_31, if_neg (show ¬ n < (Dn.eyes F day).day from hd)])
      have g0 : decide (n < day) = false := decide_eq_false hd
      go_upto_region 29 with (fail)
      have r2 := bcells HR3.out.box 2 _ rfl
      have HLB := hid' (show L.length + 1 ≤ 100000000 by have := HLO.out; omega)
      clear c0 c1 d0 d1 d2 d3
      go_wp2_with (refine append_live rfl _ _ rfl (rb + 1) _ _ rfl HR3.out.ls (a, f) rfl HLB.out HR3.out.lt (fun v' w5 h5 h6 => ?_); refine halt' ?_)
      refine hid' ?_
      have hk5 := (h6.block rb HR3.out.lt (fun e => own_lt HR3.out.ls (Nat.lt_succ_self _) e.symm)).trans HR3.out.box
      have hkc := bcells hk5 2 _ rfl
      have hkf := frozen_of (o := 2) hk5
      have HL5 := hid' (Runs.pushLive HR3.out (y := (a, f)) h5 h6)
      obtain ⟨hp, hc', rfl⟩ := row_form h5
      simp only [List.length_append, List.length_cons, List.length_nil, Nat.zero_add] at HL5
      clear h5 h6 r2 hk5
      go_wp2_with fail
      refine bodyPost_end (results_none rfl _ _ _) rfl ⟨⟨_, rfl⟩, ?_, HKP3.out.trans HL5.out.2⟩
      rw [e.out]
      exact ⟨_, _, by simpa only [Dn.waitR, List.append_nil] using HL5.out.1⟩
  · have hob := Dn.obs_b ho
    obtain ⟨vq, hrq, hvq⟩ := HK.out 0 q rfl
    obtain ⟨b, off, sx, sy, sz, su, rfl, rfl, hrc⟩ := row_cells hrq
    have HRC := hid' (fun W (h : Below w1.heap.size w1 W) => RowC.zero (W := W) (b := b) (o := off) (x := sx) (y := sy) (z := sz) (u := su) (by
      have hb := (HR1.out.below h).bel
      obtain ⟨b', off', x', y', z', u', e1, hl, e2, q0, q1, q2, q3⟩ := hrq.keep (W' := W) (ok' := ok) (fun b h hl => ⟨h, hb.block b (Nat.lt_of_lt_of_le hl HE.out.rb)⟩)
      cases e1
      cases e2
      exact ⟨q0, q1, q2, q3⟩))
    have HQV := hid' (fun W (h : Below w1.heap.size w1 W) => HVAL.out 0 q _ W rfl hob hvq (HR1.out.below h).bel)
    obtain ⟨X, hX⟩ : ∃ X, Hid (Dn.value (Dn.eyes F day) q = X) := ⟨_, hid' rfl⟩
    have HVT := hid' (fun (x : UInt8) v => Dn.value_ty HEO.out q x v)
    rw [hX.out] at HQV
    clear hrq hvq hrc
    go_upto_region 4 with (fail)
    clear c0 c1 d0 d1 d2 d3
    have HVX := hid' (show (Dn.values (Dn.eyes F day) [q, k, j]).getD 0 none = X by rw [Dn.values_at (k := q) rfl, hX.out])
    cases X with
    | none =>
      rw [optOut_none] at HQV
      have e := hid' (show R = Dn.waitR a f by rw [← hRR.out, Dn.acq_28, HVX.out])
      refine wp_region_keep (Below w1.heap.size w1) (by kernel_rfl) (by kernel_rfl) HS3.out.drew ?_
      repeat (first
        | (refine wpKeep_skip ?_ ?_
           · rfl
           simp only [Act.put, List.setIfInBounds_toArray, List.set_cons_zero, List.set_cons_succ])
        | (apply wpKeep_call 25 #[.agg #[.int .i64 day, vf], .agg #[sx, sy, sz, su]]
           · rfl
           · (intro w hSw; obtain ⟨c0, c1, d0, d1, d2, d3⟩ := HFA.out w hSw; obtain ⟨r0, r1, r2, r3⟩ := HRC.out w hSw; go_simp; done)
           · (intro w hSw; refine (HQV.out _ hSw).mono ?_; rintro e w'' ⟨rfl, b⟩; exact ⟨rfl, hSw.trans (b.mono hSw.size)⟩)
           simp only [Act.put, List.setIfInBounds_toArray, List.set_cons_zero, List.set_cons_succ])
        | (apply wpKeep_val
           · rfl
           · (intro w hSw; obtain ⟨c0, c1, d0, d1, d2, d3⟩ := HFA.out w hSw; obtain ⟨r0, r1, r2, r3⟩ := HRC.out w hSw; first | (go_simp; done) | (go_simp; with_reducible rfl))
           simp only [Act.put, List.setIfInBounds_toArray, List.set_cons_zero, List.set_cons_succ]))
      refine wpKeep_nil ?_
      intro w4 hS'
      have HS4 := hid' hS'
      have HR4 := hid' (HR1.out.below hS')
      have HKP4 := hid' (HKP.out.trans (KpR.below (mb := rb) hS' (Nat.le_of_lt HR1.out.lt)))
      obtain ⟨c0, c1, d0, d1, d2, d3⟩ := HFA.out w4 hS'
      clear hS'
      go_upto_region 29 with (fail)
      have r2 := bcells HR4.out.box 2 _ rfl
      have HLB := hid' (show L.length + 1 ≤ 100000000 by have := HLO.out; omega)
      clear c0 c1 d0 d1 d2 d3
      go_wp2_with (refine append_live rfl _ _ rfl (rb + 1) _ _ rfl HR4.out.ls (a, f) rfl HLB.out HR4.out.lt (fun v' w5 h5 h6 => ?_); refine halt' ?_)
      refine hid' ?_
      have hk5 := (h6.block rb HR4.out.lt (fun e => own_lt HR4.out.ls (Nat.lt_succ_self _) e.symm)).trans HR4.out.box
      have hkc := bcells hk5 2 _ rfl
      have hkf := frozen_of (o := 2) hk5
      have HL5 := hid' (Runs.pushLive HR4.out (y := (a, f)) h5 h6)
      obtain ⟨hp, hc', rfl⟩ := row_form h5
      simp only [List.length_append, List.length_cons, List.length_nil, Nat.zero_add] at HL5
      clear h5 h6 r2 hk5
      go_wp2_with fail
      refine bodyPost_end (results_none rfl _ _ _) rfl ⟨⟨_, rfl⟩, ?_, HKP4.out.trans HL5.out.2⟩
      rw [e.out]
      exact ⟨_, _, by simpa only [Dn.waitR, List.append_nil] using HL5.out.1⟩
    | some x =>
      rw [optOut_some] at HQV
      have hr := (HVT.out 98 x ho (by decide) (by decide) hX.out).1 rfl
      rcases hr with hx0 | hx0
      · have e := hid' (show R = Dn.kidA (Dn.eyes F day) [q, k, j] 2 a f by rw [← hRR.out, Dn.acq_28, HVX.out, hx0]; rfl)
        have hwr : IntKind.i64.wrap (2 - x) = 2 := by rw [hx0, IntWalk.i64_in _ (by omega)]; rfl
        clear hx0
        refine wp_region_keep (Below w1.heap.size w1) (by kernel_rfl) (by kernel_rfl) HS3.out.drew ?_
        repeat (first
          | (refine wpKeep_skip ?_ ?_
             · rfl
             simp only [Act.put, List.setIfInBounds_toArray, List.set_cons_zero, List.set_cons_succ])
          | (apply wpKeep_call 25 #[.agg #[.int .i64 day, vf], .agg #[sx, sy, sz, su]]
             · rfl
             · (intro w hSw; obtain ⟨c0, c1, d0, d1, d2, d3⟩ := HFA.out w hSw; obtain ⟨r0, r1, r2, r3⟩ := HRC.out w hSw; go_simp; done)
             · (intro w hSw; refine (HQV.out _ hSw).mono ?_; rintro e w'' ⟨rfl, b⟩; exact ⟨rfl, hSw.trans (b.mono hSw.size)⟩)
             simp only [Act.put, List.setIfInBounds_toArray, List.set_cons_zero, List.set_cons_succ])
          | (apply wpKeep_val
             · rfl
             · (intro w hSw; obtain ⟨c0, c1, d0, d1, d2, d3⟩ := HFA.out w hSw; obtain ⟨r0, r1, r2, r3⟩ := HRC.out w hSw; first | (go_simp; done) | (go_simp; with_reducible rfl))
             simp only [Act.put, List.setIfInBounds_toArray, List.set_cons_zero, List.set_cons_succ]))
        refine wpKeep_nil ?_
        intro w4 hS'
        have HS4 := hid' hS'
        have HR4 := hid' (HR1.out.below hS')
        have HKP4 := hid' (HKP.out.trans (KpR.below (mb := rb) hS' (Nat.le_of_lt HR1.out.lt)))
        obtain ⟨c0, c1, d0, d1, d2, d3⟩ := HFA.out w4 hS'
        clear hS'
        have HQ := hid' (HKID.out 2 j f _ _ _ _ w4 rfl hj HF.out (by have := HLO.out; have := HZ.out; simp only [Co.sizes] at this; omega) (by have := HLO.out; have := HZ.out; simp only [Co.sizes] at this; omega) HR4.out)
        rw [show ((2 : Nat) : Int) = 2 from rfl] at HQ
        go_wp2_with (first | (go_at_call 19; refine HQ.out.mono ?_; rintro e w5 ⟨⟨x, rfl⟩, hr5, k5⟩; have HP5 := hid' (And.intro hr5 k5); clear hr5 k5))
        refine bodyPost_ret (results_none rfl _ _ _) rfl ⟨⟨_, rfl⟩, ?_, HKP4.out.trans HP5.out.2⟩
        rw [e.out]
        exact HP5.out.1
      · have e := hid' (show R = Dn.kidA (Dn.eyes F day) [q, k, j] 1 a f by rw [← hRR.out, Dn.acq_28, HVX.out, hx0]; rfl)
        have hwr : IntKind.i64.wrap (2 - x) = 1 := by rw [hx0, IntWalk.i64_in _ (by omega)]; rfl
        clear hx0
        refine wp_region_keep (Below w1.heap.size w1) (by kernel_rfl) (by kernel_rfl) HS3.out.drew ?_
        repeat (first
          | (refine wpKeep_skip ?_ ?_
             · rfl
             simp only [Act.put, List.setIfInBounds_toArray, List.set_cons_zero, List.set_cons_succ])
          | (apply wpKeep_call 25 #[.agg #[.int .i64 day, vf], .agg #[sx, sy, sz, su]]
             · rfl
             · (intro w hSw; obtain ⟨c0, c1, d0, d1, d2, d3⟩ := HFA.out w hSw; obtain ⟨r0, r1, r2, r3⟩ := HRC.out w hSw; go_simp; done)
             · (intro w hSw; refine (HQV.out _ hSw).mono ?_; rintro e w'' ⟨rfl, b⟩; exact ⟨rfl, hSw.trans (b.mono hSw.size)⟩)
             simp only [Act.put, List.setIfInBounds_toArray, List.set_cons_zero, List.set_cons_succ])
          | (apply wpKeep_val
             · rfl
             · (intro w hSw; obtain ⟨c0, c1, d0, d1, d2, d3⟩ := HFA.out w hSw; obtain ⟨r0, r1, r2, r3⟩ := HRC.out w hSw; first | (go_simp; done) | (go_simp; with_reducible rfl))
             simp only [Act.put, List.setIfInBounds_toArray, List.set_cons_zero, List.set_cons_succ]))
        refine wpKeep_nil ?_
        intro w4 hS'
        have HS4 := hid' hS'
        have HR4 := hid' (HR1.out.below hS')
        have HKP4 := hid' (HKP.out.trans (KpR.below (mb := rb) hS' (Nat.le_of_lt HR1.out.lt)))
        obtain ⟨c0, c1, d0, d1, d2, d3⟩ := HFA.out w4 hS'
        clear hS'
        have HQ := hid' (HKID.out 1 k f _ _ _ _ w4 rfl hk HF.out (by have := HLO.out; have := HZ.out; simp only [Co.sizes] at this; omega) (by have := HLO.out; have := HZ.out; simp only [Co.sizes] at this; omega) HR4.out)
        rw [show ((1 : Nat) : Int) = 1 from rfl] at HQ
        go_wp2_with (first | (go_at_call 19; refine HQ.out.mono ?_; rintro e w5 ⟨⟨x, rfl⟩, hr5, k5⟩; have HP5 := hid' (And.intro hr5 k5); clear hr5 k5))
        refine bodyPost_ret (results_none rfl _ _ _) rfl ⟨⟨_, rfl⟩, ?_, HKP4.out.trans HP5.out.2⟩
        rw [e.out]
        exact HP5.out.1
  · by_cases hd : n < day
    · have e := hid' (show R = Dn.nothing by rw [← hRR.out, Dn.acq_30, if_pos (show n < (Dn.eyes F day).day from hd)])
      have g0 : decide (n < day) = true := decide_eq_true hd
      go_wp2_with fail
      refine bodyPost_ret (results_none rfl _ _ _) rfl ⟨⟨_, rfl⟩, ?_, HKP3.out⟩
      rw [e.out]
      exact ⟨_, _, by simpa only [Dn.nothing, List.append_nil] using HR3.out⟩
    · have g0 : decide (n < day) = false := decide_eq_false hd
      have HAC := hid' (show R = if (Dn.values (Dn.eyes F day) [q, k]).getD 0 none = some 1 then Dn.kidA (Dn.eyes F day) [q, k] 1 a f else Dn.waitR a f by rw [← hRR.out, Dn.acq_30, if_neg (show ¬ n < (Dn.eyes F day).day from hd)])
      have hob := Dn.obs_b ho
      obtain ⟨vq, hrq, hvq⟩ := HK.out 0 q rfl
      obtain ⟨b, off, sx, sy, sz, su, rfl, rfl, hrc⟩ := row_cells hrq
      have HRC := hid' (fun W (h : Below w1.heap.size w1 W) => RowC.zero (W := W) (b := b) (o := off) (x := sx) (y := sy) (z := sz) (u := su) (by
        have hb := (HR1.out.below h).bel
        obtain ⟨b', off', x', y', z', u', e1, hl, e2, q0, q1, q2, q3⟩ := hrq.keep (W' := W) (ok' := ok) (fun b h hl => ⟨h, hb.block b (Nat.lt_of_lt_of_le hl HE.out.rb)⟩)
        cases e1
        cases e2
        exact ⟨q0, q1, q2, q3⟩))
      have HQV := hid' (fun W (h : Below w1.heap.size w1 W) => HVAL.out 0 q _ W rfl hob hvq (HR1.out.below h).bel)
      obtain ⟨X, hX⟩ : ∃ X, Hid (Dn.value (Dn.eyes F day) q = X) := ⟨_, hid' rfl⟩
      have HVT := hid' (fun (x : UInt8) v => Dn.value_ty HEO.out q x v)
      rw [hX.out] at HQV
      clear hrq hvq hrc
      go_upto_region 26 with (fail)
      clear c0 c1 d0 d1 d2 d3
      have HVX := hid' (show (Dn.values (Dn.eyes F day) [q, k]).getD 0 none = X by rw [Dn.values_at (k := q) rfl, hX.out])
      rw [HVX.out] at HAC
      cases X with
      | none =>
        rw [optOut_none] at HQV
        have e := hid' (show R = Dn.waitR a f by rw [HAC.out, if_neg (by simp)])
        refine wp_region_keep (Below w1.heap.size w1) (by kernel_rfl) (by kernel_rfl) HS3.out.drew ?_
        repeat (first
          | (refine wpKeep_skip ?_ ?_
             · rfl
             simp only [Act.put, List.setIfInBounds_toArray, List.set_cons_zero, List.set_cons_succ])
          | (apply wpKeep_call 25 #[.agg #[.int .i64 day, vf], .agg #[sx, sy, sz, su]]
             · rfl
             · (intro w hSw; obtain ⟨c0, c1, d0, d1, d2, d3⟩ := HFA.out w hSw; obtain ⟨r0, r1, r2, r3⟩ := HRC.out w hSw; go_simp; done)
             · (intro w hSw; refine (HQV.out _ hSw).mono ?_; rintro e w'' ⟨rfl, b⟩; exact ⟨rfl, hSw.trans (b.mono hSw.size)⟩)
             simp only [Act.put, List.setIfInBounds_toArray, List.set_cons_zero, List.set_cons_succ])
          | (apply wpKeep_val
             · rfl
             · (intro w hSw; obtain ⟨c0, c1, d0, d1, d2, d3⟩ := HFA.out w hSw; obtain ⟨r0, r1, r2, r3⟩ := HRC.out w hSw; first | (go_simp; done) | (go_simp; with_reducible rfl))
             simp only [Act.put, List.setIfInBounds_toArray, List.set_cons_zero, List.set_cons_succ]))
        refine wpKeep_nil ?_
        intro w4 hS'
        have HS4 := hid' hS'
        have HR4 := hid' (HR1.out.below hS')
        have HKP4 := hid' (HKP.out.trans (KpR.below (mb := rb) hS' (Nat.le_of_lt HR1.out.lt)))
        obtain ⟨c0, c1, d0, d1, d2, d3⟩ := HFA.out w4 hS'
        clear hS'
        go_upto_region 29 with (fail)
        have r2 := bcells HR4.out.box 2 _ rfl
        have HLB := hid' (show L.length + 1 ≤ 100000000 by have := HLO.out; omega)
        clear c0 c1 d0 d1 d2 d3
        go_wp2_with (refine append_live rfl _ _ rfl (rb + 1) _ _ rfl HR4.out.ls (a, f) rfl HLB.out HR4.out.lt (fun v' w5 h5 h6 => ?_); refine halt' ?_)
        refine hid' ?_
        have hk5 := (h6.block rb HR4.out.lt (fun e => own_lt HR4.out.ls (Nat.lt_succ_self _) e.symm)).trans HR4.out.box
        have hkc := bcells hk5 2 _ rfl
        have hkf := frozen_of (o := 2) hk5
        have HL5 := hid' (Runs.pushLive HR4.out (y := (a, f)) h5 h6)
        obtain ⟨hp, hc', rfl⟩ := row_form h5
        simp only [List.length_append, List.length_cons, List.length_nil, Nat.zero_add] at HL5
        clear h5 h6 r2 hk5
        go_wp2_with fail
        refine bodyPost_end (results_none rfl _ _ _) rfl ⟨⟨_, rfl⟩, ?_, HKP4.out.trans HL5.out.2⟩
        rw [e.out]
        exact ⟨_, _, by simpa only [Dn.waitR, List.append_nil] using HL5.out.1⟩
      | some x =>
        rw [optOut_some] at HQV
        by_cases hx0 : x = 1
        · have e := hid' (show R = Dn.kidA (Dn.eyes F day) [q, k] 1 a f by rw [HAC.out, if_pos (by rw [hx0])])
          have g1 : (x == 1) = true := by rw [hx0]; rfl
          clear hx0
          refine wp_region_keep (Below w1.heap.size w1) (by kernel_rfl) (by kernel_rfl) HS3.out.drew ?_
          repeat (first
            | (refine wpKeep_skip ?_ ?_
               · rfl
               simp only [Act.put, List.setIfInBounds_toArray, List.set_cons_zero, List.set_cons_succ])
            | (apply wpKeep_call 25 #[.agg #[.int .i64 day, vf], .agg #[sx, sy, sz, su]]
               · rfl
               · (intro w hSw; obtain ⟨c0, c1, d0, d1, d2, d3⟩ := HFA.out w hSw; obtain ⟨r0, r1, r2, r3⟩ := HRC.out w hSw; go_simp; done)
               · (intro w hSw; refine (HQV.out _ hSw).mono ?_; rintro e w'' ⟨rfl, b⟩; exact ⟨rfl, hSw.trans (b.mono hSw.size)⟩)
               simp only [Act.put, List.setIfInBounds_toArray, List.set_cons_zero, List.set_cons_succ])
            | (apply wpKeep_val
               · rfl
               · (intro w hSw; obtain ⟨c0, c1, d0, d1, d2, d3⟩ := HFA.out w hSw; obtain ⟨r0, r1, r2, r3⟩ := HRC.out w hSw; first | (go_simp; done) | (go_simp; with_reducible rfl))
               simp only [Act.put, List.setIfInBounds_toArray, List.set_cons_zero, List.set_cons_succ]))
          refine wpKeep_nil ?_
          intro w4 hS'
          have HS4 := hid' hS'
          have HR4 := hid' (HR1.out.below hS')
          have HKP4 := hid' (HKP.out.trans (KpR.below (mb := rb) hS' (Nat.le_of_lt HR1.out.lt)))
          obtain ⟨c0, c1, d0, d1, d2, d3⟩ := HFA.out w4 hS'
          clear hS'
          have HQ := hid' (HKID.out 1 k f _ _ _ _ w4 rfl hk HF.out (by have := HLO.out; have := HZ.out; simp only [Co.sizes] at this; omega) (by have := HLO.out; have := HZ.out; simp only [Co.sizes] at this; omega) HR4.out)
          rw [show ((1 : Nat) : Int) = 1 from rfl] at HQ
          go_wp2_with (first | (go_at_call 19; refine HQ.out.mono ?_; rintro e w5 ⟨⟨x, rfl⟩, hr5, k5⟩; have HP5 := hid' (And.intro hr5 k5); clear hr5 k5))
          refine bodyPost_ret (results_none rfl _ _ _) rfl ⟨⟨_, rfl⟩, ?_, HKP4.out.trans HP5.out.2⟩
          rw [e.out]
          exact HP5.out.1
        · have e := hid' (show R = Dn.waitR a f by rw [HAC.out, if_neg (by simpa using hx0)])
          have g1 : (x == 1) = false := by rw [beq_eq_false_iff_ne]; exact hx0
          clear hx0
          refine wp_region_keep (Below w1.heap.size w1) (by kernel_rfl) (by kernel_rfl) HS3.out.drew ?_
          repeat (first
            | (refine wpKeep_skip ?_ ?_
               · rfl
               simp only [Act.put, List.setIfInBounds_toArray, List.set_cons_zero, List.set_cons_succ])
            | (apply wpKeep_call 25 #[.agg #[.int .i64 day, vf], .agg #[sx, sy, sz, su]]
               · rfl
               · (intro w hSw; obtain ⟨c0, c1, d0, d1, d2, d3⟩ := HFA.out w hSw; obtain ⟨r0, r1, r2, r3⟩ := HRC.out w hSw; go_simp; done)
               · (intro w hSw; refine (HQV.out _ hSw).mono ?_; rintro e w'' ⟨rfl, b⟩; exact ⟨rfl, hSw.trans (b.mono hSw.size)⟩)
               simp only [Act.put, List.setIfInBounds_toArray, List.set_cons_zero, List.set_cons_succ])
            | (apply wpKeep_val
               · rfl
               · (intro w hSw; obtain ⟨c0, c1, d0, d1, d2, d3⟩ := HFA.out w hSw; obtain ⟨r0, r1, r2, r3⟩ := HRC.out w hSw; first | (go_simp; done) | (go_simp; with_reducible rfl))
               simp only [Act.put, List.setIfInBounds_toArray, List.set_cons_zero, List.set_cons_succ]))
          refine wpKeep_nil ?_
          intro w4 hS'
          have HS4 := hid' hS'
          have HR4 := hid' (HR1.out.below hS')
          have HKP4 := hid' (HKP.out.trans (KpR.below (mb := rb) hS' (Nat.le_of_lt HR1.out.lt)))
          obtain ⟨c0, c1, d0, d1, d2, d3⟩ := HFA.out w4 hS'
          clear hS'
          go_upto_region 29 with (fail)
          have r2 := bcells HR4.out.box 2 _ rfl
          have HLB := hid' (show L.length + 1 ≤ 100000000 by have := HLO.out; omega)
          clear c0 c1 d0 d1 d2 d3
          go_wp2_with (refine append_live rfl _ _ rfl (rb + 1) _ _ rfl HR4.out.ls (a, f) rfl HLB.out HR4.out.lt (fun v' w5 h5 h6 => ?_); refine halt' ?_)
          refine hid' ?_
          have hk5 := (h6.block rb HR4.out.lt (fun e => own_lt HR4.out.ls (Nat.lt_succ_self _) e.symm)).trans HR4.out.box
          have hkc := bcells hk5 2 _ rfl
          have hkf := frozen_of (o := 2) hk5
          have HL5 := hid' (Runs.pushLive HR4.out (y := (a, f)) h5 h6)
          obtain ⟨hp, hc', rfl⟩ := row_form h5
          simp only [List.length_append, List.length_cons, List.length_nil, Nat.zero_add] at HL5
          clear h5 h6 r2 hk5
          go_wp2_with fail
          refine bodyPost_end (results_none rfl _ _ _) rfl ⟨⟨_, rfl⟩, ?_, HKP4.out.trans HL5.out.2⟩
          rw [e.out]
          exact ⟨_, _, by simpa only [Dn.waitR, List.append_nil] using HL5.out.1⟩
end Go.Proofs.YtcpobnknmegkmaaGreatDoor
namespace Go.Proofs.YtcpobnknmegkmaaGreatDoor
open Go.RowKit
open Gen
open Rw
set_option linter.unusedVariables false
set_option linter.unusedSimpArgs false
set_option maxRecDepth 100000
namespace Fd
def prevBad (F : List Feed) (i : Nat) (s : ByteArray) : Bool := match i with | 0 => false | j + 1 => !lt (at' F j).1 s
def headBad (F : List Feed) (i : Nat) (f : Feed) : Bool := !Led.isName f.1 || (prevBad F i f.1 || decide (4096 < f.2.length))
def prevLate (l : List (Int × Int)) (k : Nat) (d : Int) : Bool := match k with | 0 => false | j + 1 => decide (d ≤ (stampAt l j).1)
def stampBad (l : List (Int × Int)) (k : Nat) (s : Int × Int) : Bool := !(decide (0 ≤ s.1) && decide (s.1 ≤ 73048)) || (prevLate l k s.1 || !(s.2 == Num.clamp s.2))
theorem at_eq {F : List Feed} {j : Nat} {g : Feed} (h : F[j]? = some g) : at' F j = g := by unfold at'; rw [h]; rfl
theorem stampAt_eq {l : List (Int × Int)} {j : Nat} {g : Int × Int} (h : l[j]? = some g) : stampAt l j = g := by unfold stampAt; rw [h]; rfl
theorem stamp_good {l : List (Int × Int)} {k : Nat} {s : Int × Int} (h : stampBad l k s = false) : StampOk l k s := by
  unfold stampBad at h
  simp only [Bool.or_eq_false_iff, Bool.not_eq_false', Bool.and_eq_true, decide_eq_true_eq, beq_iff_eq] at h
  refine ⟨h.1, fun j hj u hu => ?_, h.2.2⟩
  subst hj
  have := h.2.1
  simp only [prevLate, decide_eq_false_iff_not] at this
  rw [stampAt_eq hu] at this
  omega
theorem stamp_bad {l : List (Int × Int)} {k : Nat} {s : Int × Int} (hk : k < l.length) (h : stampBad l k s = true) : ¬ StampOk l k s := by
  intro ok
  unfold stampBad at h
  have h1 := ok.day
  have h2 := ok.num
  rw [decide_eq_true h1.1, decide_eq_true h1.2, show (s.2 == Num.clamp s.2) = true by rw [beq_iff_eq]; exact h2] at h
  cases k with
  | zero => cases h
  | succ j =>
    simp only [prevLate, Bool.and_self, Bool.not_true, Bool.false_or, Bool.or_false, decide_eq_true_eq] at h
    have hj : l[j]? = some (stampAt l j) := by unfold stampAt; rw [List.getElem?_eq_getElem (by omega)]; rfl
    have := ok.up j rfl _ hj
    omega
theorem head_bad {F : List Feed} {i : Nat} {f : Feed} (hi : i < F.length) (h : headBad F i f = true) : ¬ FeedOk F i f := by
  intro ok
  unfold headBad at h
  have h1 := ok.len
  rw [ok.name, decide_eq_false (by omega : ¬ 4096 < f.2.length)] at h
  cases i with
  | zero => cases h
  | succ j =>
    have hj : F[j]? = some (at' F j) := by unfold at'; rw [List.getElem?_eq_getElem (by omega)]; rfl
    have := ok.rise j rfl _ hj
    simp only [prevBad, this] at h
    cases h
theorem feed_good {F : List Feed} {i : Nat} {f : Feed} (h : headBad F i f = false) (hs : ∀ k s, f.2[k]? = some s → StampOk f.2 k s) : FeedOk F i f := by
  unfold headBad at h
  simp only [Bool.or_eq_false_iff, Bool.not_eq_false', decide_eq_false_iff_not] at h
  refine ⟨h.1, fun j hj g hg => ?_, by omega, hs⟩
  subst hj
  have := h.2.1
  simp only [prevBad, Bool.not_eq_false'] at this
  rwa [at_eq hg] at this
end Fd
def dayOk (d : Int) : Bool := decide (0 ≤ d) && decide (d ≤ 73048)
set_option maxHeartbeats 8000000 in
theorem dnright_any (day : Int) (v : Value) (F : List Fd.Feed) (w : World) (h : FeedsAt w v F) : Calls Tryz.prog 11 #[.agg #[.int .i64 day, v]] w (Gives (.bool (dayOk day && Fd.right F)) w) := by
  obtain ⟨p, c, rfl, ⟨hl1, hl2⟩, hf⟩ := h
  have HF := hid' hf
  have hbig : (F.length : Int) ≤ 9223372036854775807 := by unfold maxLen at hl2; omega
  have HB := hid' ((Below.refl w.heap.size w).alloc (Nat.le_refl _) (.cells #[.int .i64 day, .slice p F.length c] 52))
  have HE := hid' (heap_alloc_new w (.cells #[.int .i64 day, .slice p F.length c] 52))
  have HDY := hid' (fun W => dnisDay_any day W)
  obtain ⟨D, hD⟩ : ∃ D, Hid ((decide (0 ≤ day) && decide (day ≤ 73048)) = D) := ⟨_, hid' rfl⟩
  obtain ⟨R, hR⟩ : ∃ R, Hid ((dayOk day && Fd.right F) = R) := ⟨_, hid' rfl⟩
  have hRD := hid' (show R = (D && Fd.right F) by rw [← hR.out, ← hD.out]; rfl)
  rw [hR.out]
  rw [hD.out] at HDY
  clear hf hl1 hl2 hD hR
  go_enter Tryz.func11, Tryz.ntmps11
  go_upto_region 1 with (fail)
  generalize World.alloc _ _ = w1 at *
  have e0 := bcells HE.out 0 _ rfl
  have e1 := bcells HE.out 1 _ rfl
  cases D with
  | false =>
    have hq := hid' (show R = false from hRD.out)
    go_wp2_with (first | (go_at_call 23; refine (HDY.out _).mono ?_; rintro e w2 ⟨rfl, hw2⟩; obtain rfl := hw2.symm))
    go_ret
    exact ⟨by rw [hq.out]; rfl, HB.out⟩
  | true =>
  by_cases h64 : 64 < F.length
  · have hq := hid' (show R = false by rw [hRD.out, Fd.right_no (F := F) (fun ok => by have := ok.1; omega)]; rfl)
    have h64i : decide ((64 : Int) < (F.length : Int)) = true := decide_eq_true (by omega)
    have h64n : decide (64 < F.length) = true := decide_eq_true h64
    go_wp2_with (first | (go_at_call 23; refine (HDY.out _).mono ?_; rintro e w2 ⟨rfl, hw2⟩; obtain rfl := hw2.symm))
    go_ret
    exact ⟨by rw [hq.out]; rfl, HB.out⟩
  · have h64i : decide ((64 : Int) < (F.length : Int)) = false := decide_eq_false (by omega)
    have h64n : decide (64 < F.length) = false := decide_eq_false h64
    have HLE := hid' (show F.length ≤ 64 by omega)
    have HRF := hid' (show R = Fd.right F by rw [hRD.out]; rfl)
    clear h64
    go_wp2_with (first | (go_at_call 23; refine (HDY.out _).mono ?_; rintro e w2 ⟨rfl, hw2⟩; obtain rfl := hw2.symm))
    clear h64i h64n e0 e1
    have HA0 := hid' (show ∀ j, j < 0 → ∀ f, F[j]? = some f → Fd.FeedOk F j f from fun j hj => by omega)
    go_loopw [23] (fun iv wr => ∃ i : Nat, iv = .int .i64 (i : Int) ∧ i ≤ F.length ∧ Hid (∀ j, j < i → ∀ f, F[j]? = some f → Fd.FeedOk F j f) ∧ Hid (Below w1.heap.size w1 wr)) (fun iv _ => F.length - (intOf iv).toNat)
    case atStart => exact ⟨0, rfl, Nat.zero_le _, HA0, Below.refl _ _⟩
    case round =>
      obtain ⟨i, rfl, hi, HA, HW⟩ := hrel
      have HE1 := hid' (box_below HW.out HE.out)
      have HW0 := hid' (HB.out.trans (HW.out.mono HB.out.size))
      by_cases hin : i < F.length
      · obtain ⟨x, hx⟩ : ∃ x, F[i]? = some x := ⟨_, List.getElem?_eq_getElem hin⟩
        obtain ⟨fb, fo, sv, rfl, hfb, ⟨x0, x1⟩, hst, hxs⟩ := HF.out i x hx
        replace x0 := keep_all HW0.out _ _ x0
        replace x1 := keep_all HW0.out _ _ x1
        have hst2 := hst.below HW0.out
        obtain ⟨sp, sc, rfl, ⟨hs1, hs2⟩, hss⟩ := hst2
        have HSS := hid' hss
        have j1 : (0 : Int) ≤ (i : Int) := by omega
        have j2 : (i : Int) < (F.length : Int) := by omega
        have wi : IntKind.i64.wrap ((i : Int) + 1) = (i : Int) + 1 := IntWalk.i64_in _ (by omega)
        have HX := hid' hx
        have HI := hid' hin
        have HSB := hid' hs2
        have hs1' := hs1
        clear hst hss hs1 hs2 hx hin hfb
        go_upto_region 6 with (fail)
        have BX := (Below.refl wr.heap.size wr).alloc (Nat.le_refl _) (.cells #[.string x.1, .slice sp x.2.length sc] 46)
        have hbx := heap_alloc_new wr (.cells #[.string x.1, .slice sp x.2.length sc] 46)
        have HB6 := hid' (Below.more HW.out BX)
        have HSS6 := hid' (show StampsAt _ (.slice sp x.2.length sc) x.2 from (show StampsAt wr (.slice sp x.2.length sc) x.2 from ⟨sp, sc, rfl, ⟨hs1', HSB.out⟩, HSS.out⟩).below BX)
        have HBX := hid' hbx
        clear BX hbx x0 x1 HSS
        generalize wr.alloc (.cells #[.string x.1, .slice sp x.2.length sc] 46) = w6 at *
        generalize wr.heap.size = xb at *
        have z0 := bcells HBX.out 0 _ rfl
        have z1 := bcells HBX.out 1 _ rfl
        have HXS := hid' hxs
        clear hxs
        have HT := hid' (fun W => type_feed x.1 W (by have := HXS.out; omega))
        have b7 := (Below.refl w6.heap.size w6).alloc (Nat.le_refl _) (.cells #[.int .i64 4, .int .i64 0, .string x.1, .slice none 0 0] 24)
        have n7 := heap_alloc_new w6 (.cells #[.int .i64 4, .int .i64 0, .string x.1, .slice none 0 0] 24)
        go_upto_region 7 with (fail)
        have HB7 := hid' b7
        have HN7 := hid' n7
        clear b7 n7 z0 z1
        generalize World.alloc w6 _ = w7 at *
        obtain ⟨q0, q1, q2, q3⟩ := heap_cells4 HN7.out
        obtain ⟨nm, hnm⟩ : ∃ nm, Hid (Led.isName x.1 = nm) := ⟨_, hid' rfl⟩
        rw [hnm.out] at HT
        go_upto_region 8 with (first | (go_at_call 21; refine (HT.out _).mono ?_; rintro e w8 ⟨rfl, b8⟩))
        have HB8 := hid' (HB7.out.trans (b8.mono HB7.out.size))
        clear b8 q0 q1 q2 q3
        obtain ⟨bad, hbad⟩ : ∃ bad, Hid (bad = Fd.headBad F i x) := ⟨_, rfl⟩
        have HE8 := hid' (box_below HB8.out (box_below HB6.out HE.out))
        have HBX8 := hid' (box_below HB8.out HBX.out)
        have HW8 := hid' (Below.more HB6.out HB8.out)
        have HSS8 := hid' (HSS6.out.below HB8.out)
        clear HBX HSS6 HB6 HB8 HB7 HN7 HE1
        go_cut [59] (fun v wx => v = .bool bad ∧ Hid (Below w8.heap.size w8 wx))
        case first =>
          have hb := hid' (show bad = (!Led.isName x.1 || (Fd.prevBad F i x.1 || decide (4096 < x.2.length))) from hbad.out)
          have hlenI : decide ((4096 : Int) < (x.2.length : Int)) = decide (4096 < x.2.length) := by
            by_cases h : 4096 < x.2.length
            · rw [decide_eq_true h, decide_eq_true (by omega)]
            · rw [decide_eq_false h, decide_eq_false (by omega)]
          rw [hnm.out] at hb
          generalize decide (4096 < x.2.length) = ln at *
          have hbx := (Below.refl w8.heap.size w8).drew
          have HK := hid' (fun (W : World) (b : Below w8.heap.size w8 W) => And.intro (bcells (box_below b HBX8.out) 0 _ rfl) (And.intro (bcells (box_below b HBX8.out) 1 _ rfl) (And.intro (bcells (box_below b HE8.out) 1 _ rfl) trivial)))
          cases nm with
          | false =>
            have hq := hid' (show bad = true from hb.out)
            clear hb
            refine wp_region_keep (fun w' => Below w8.heap.size w8 w') (by kernel_rfl) (by kernel_rfl) hbx ?_
            repeat (first
              | (refine wpKeep_skip ?_ ?_
                 · rfl
                 simp only [Act.put, List.setIfInBounds_toArray, List.set_cons_zero, List.set_cons_succ])
              | (apply wpKeep_val
                 · rfl
                 · (intro w hSw; obtain ⟨c0, c1, c2, c3⟩ := HK.out w hSw; first | (go_simp; done) | (go_simp; with_reducible rfl))
                 simp only [Act.put, List.setIfInBounds_toArray, List.set_cons_zero, List.set_cons_succ]))
            refine wpKeep_nil ?_
            intro w' hS'
            go_wp2_with fail
            go_meet
            exact ⟨by rw [hq.out] <;> rfl, hS'⟩
          | true =>
            cases i with
            | zero =>
              have hq := hid' (show bad = ln from hb.out)
              have g0 : decide ((0 : Int) < ((0 : Nat) : Int)) = false := rfl
              clear hb
              refine wp_region_keep (fun w' => Below w8.heap.size w8 w') (by kernel_rfl) (by kernel_rfl) hbx ?_
              repeat (first
                | (refine wpKeep_skip ?_ ?_
                   · rfl
                   simp only [Act.put, List.setIfInBounds_toArray, List.set_cons_zero, List.set_cons_succ])
                | (apply wpKeep_val
                   · rfl
                   · (intro w hSw; obtain ⟨c0, c1, c2, c3⟩ := HK.out w hSw; first | (go_simp; done) | (go_simp; with_reducible rfl))
                   simp only [Act.put, List.setIfInBounds_toArray, List.set_cons_zero, List.set_cons_succ]))
              refine wpKeep_nil ?_
              intro w' hS'
              go_wp2_with fail
              go_meet
              exact ⟨by rw [hq.out] <;> rfl, hS'⟩
            | succ j =>
              clear wi
              obtain ⟨y, hy⟩ : ∃ y, F[j]? = some y := ⟨_, List.getElem?_eq_getElem (by have := HI.out; omega)⟩
              obtain ⟨fb', fo', sv', e, -, ⟨y0, -⟩, -, -⟩ := HF.out j y hy
              obtain ⟨rfl, rfl⟩ : fb = fb' ∧ fo = fo' := by simpa using e
              have HKY := hid' (fun (W : World) (b : Below w8.heap.size w8 W) => keep_all (Below.more (HB.out.trans (HW8.out.mono HB.out.size)) b) _ _ y0)
              have hpv : Hid (Fd.prevBad F (j + 1) x.1 = !Op.bytesLess y.1.toList x.1.toList) := hid' (by show (!Fd.lt (Fd.at' F j).1 x.1) = _; rw [Fd.at_eq hy]; rfl)
              have hq := hid' (show bad = (!Op.bytesLess y.1.toList x.1.toList || ln) by rw [hb.out, hpv.out]; rfl)
              have g0 : decide ((0 : Int) < ((j + 1 : Nat) : Int)) = true := decide_eq_true (by omega)
              have g0n : decide (0 < j + 1) = true := decide_eq_true (by omega)
              have g5 : (0 : Int) ≤ (j : Int) := by omega
              have g6 : (j : Int) < (F.length : Int) := by have := HI.out; omega
              have g3 : IntKind.i64.wrap (j : Int) = (j : Int) := IntWalk.i64_in _ (by omega)
              have g4 : IntKind.i64.wrap (((j + 1 : Nat) : Int) - 1) = (j : Int) := by rw [IntWalk.i64_in _ (by omega)]; omega
              clear hb hpv hy e y0 j1 j2 hi
              cases hlt : Op.bytesLess y.1.toList x.1.toList with
              | true =>
                rw [hlt] at hq
                refine wp_region_keep (fun w' => Below w8.heap.size w8 w') (by kernel_rfl) (by kernel_rfl) hbx ?_
                repeat (first
                  | (refine wpKeep_skip ?_ ?_
                     · rfl
                     simp only [Act.put, List.setIfInBounds_toArray, List.set_cons_zero, List.set_cons_succ])
                  | (apply wpKeep_val
                     · rfl
                     · (intro w hSw; obtain ⟨c0, c1, c2, c3⟩ := HK.out w hSw; have cy := HKY.out w hSw; first | (go_simp; done) | (go_simp; with_reducible rfl))
                     simp only [Act.put, List.setIfInBounds_toArray, List.set_cons_zero, List.set_cons_succ]))
                refine wpKeep_nil ?_
                intro w' hS'
                go_wp2_with fail
                go_meet
                exact ⟨by rw [hq.out] <;> rfl, hS'⟩
              | false =>
                rw [hlt] at hq
                refine wp_region_keep (fun w' => Below w8.heap.size w8 w') (by kernel_rfl) (by kernel_rfl) hbx ?_
                repeat (first
                  | (refine wpKeep_skip ?_ ?_
                     · rfl
                     simp only [Act.put, List.setIfInBounds_toArray, List.set_cons_zero, List.set_cons_succ])
                  | (apply wpKeep_val
                     · rfl
                     · (intro w hSw; obtain ⟨c0, c1, c2, c3⟩ := HK.out w hSw; have cy := HKY.out w hSw; first | (go_simp; done) | (go_simp; with_reducible rfl))
                     simp only [Act.put, List.setIfInBounds_toArray, List.set_cons_zero, List.set_cons_succ]))
                refine wpKeep_nil ?_
                intro w' hS'
                go_wp2_with fail
                go_meet
                exact ⟨by rw [hq.out] <;> rfl, hS'⟩
        case rest =>
          obtain ⟨rfl, HBC⟩ := hcut
          have HBX9 := hid' (box_below HBC.out HBX8.out)
          have HS9 := hid' (HSS8.out.below HBC.out)
          have HW9 := hid' (Below.more HW8.out HBC.out)
          have HW90 := hid' (HB.out.trans (HW9.out.mono HB.out.size))
          clear HBX8 HSS8 HBC HE8 HW8
          cases hbad2 : bad with
          | true =>
            have hno : ¬ Fd.Ok F := fun ok => Fd.head_bad HI.out (hbad.out.symm.trans hbad2) (ok.2 i x HX.out)
            have e := hid' (show R = false by rw [HRF.out, Fd.right_no hno])
            clear hno hbad2
            go_wp2_with fail
            go_ret
            exact ⟨by rw [e.out]; rfl, HW90.out⟩
          | false =>
            have HG := hid' (show Fd.headBad F i x = false from hbad.out.symm.trans hbad2)
            have HST0 := hid' (show ∀ k, k < 0 → ∀ s, x.2[k]? = some s → Fd.StampOk x.2 k s from fun k hk => by omega)
            have z1 := bcells HBX9.out 1 _ rfl
            clear hbad hbad2
            go_wp2_with fail
            clear z1
            go_loopw [63] (fun kv wz => ∃ k : Nat, kv = .int .i64 (k : Int) ∧ k ≤ x.2.length ∧ Hid (∀ m, m < k → ∀ s, x.2[m]? = some s → Fd.StampOk x.2 m s) ∧ Hid (Below wc.heap.size wc wz)) (fun kv _ => x.2.length - (intOf kv).toNat)
            case atStart => exact ⟨0, rfl, Nat.zero_le _, HST0, Below.refl _ _⟩
            case round =>
              obtain ⟨k, rfl, hk, HST, HZ⟩ := hrel
              clear wi
              by_cases hkn : k < x.2.length
              · obtain ⟨z, hz⟩ : ∃ z, x.2[k]? = some z := ⟨_, List.getElem?_eq_getElem hkn⟩
                have HSZ := hid' (HS9.out.below HZ.out)
                obtain ⟨sp', sc', e, -, hss⟩ := HSZ.out
                obtain ⟨rfl, rfl⟩ : sp = sp' ∧ sc = sc' := by simpa using e
                obtain ⟨sb, so, rfl, -, ⟨y0, y1⟩, -, -⟩ := hss k z hz
                have HSS := hid' hss
                have HBZ := hid' (box_below HZ.out HBX9.out)
                have k1 : (0 : Int) ≤ (k : Int) := by omega
                have k2 : (k : Int) < (x.2.length : Int) := by omega
                have HZ1 := hid' hz
                have HKN := hid' hkn
                have wk : IntKind.i64.wrap ((k : Int) + 1) = (k : Int) + 1 := IntWalk.i64_in _ (by have := HSB.out; unfold maxLen at this; omega)
                clear e hss hz hkn
                go_upto_region 13 with (fail)
                have BX := (Below.refl wr.heap.size wr).alloc (Nat.le_refl _) (.cells #[.int .i64 z.1, .int .i64 z.2] 43)
                have hbx9 := heap_alloc_new wr (.cells #[.int .i64 z.1, .int .i64 z.2] 43)
                have HBS := hid' (Below.more HZ.out BX)
                have HBXS := hid' hbx9
                have HFXS := hid' (box_below BX HBZ.out)
                have HKA := hid' (keep_all BX)
                clear BX hbx9 y0 y1 HBZ
                generalize wr.alloc (.cells #[.int .i64 z.1, .int .i64 z.2] 43) = ws at *
                generalize wr.heap.size = zb at *
                obtain ⟨bad2, hbad⟩ : ∃ bad2, Hid (bad2 = Fd.stampBad x.2 k z) := ⟨_, rfl⟩
                go_cut [95] (fun v wx => v = .bool bad2 ∧ Hid (Below ws.heap.size ws wx))
                case first =>
                  have hb := hid' (show bad2 = (!(decide (0 ≤ z.1) && decide (z.1 ≤ 73048)) || (Fd.prevLate x.2 k z.1 || !(z.2 == Num.clamp z.2))) from hbad.out)
                  have hbx := (Below.refl ws.heap.size ws).drew
                  obtain ⟨D, hD⟩ : ∃ D, (decide (0 ≤ z.1) && decide (z.1 ≤ 73048)) = D := ⟨_, rfl⟩
                  obtain ⟨cl, hcl⟩ : ∃ cl, (z.2 == Num.clamp z.2) = cl := ⟨_, rfl⟩
                  rw [hD, hcl] at hb
                  have hday := hD
                  have hcl2 : (z.2 != Num.clamp z.2) = !cl := by rw [← hcl]; rfl
                  have HK := hid' (fun (W : World) (b : Below ws.heap.size ws W) => And.intro (bcells (box_below b HBXS.out) 0 _ rfl) (And.intro (bcells (box_below b HBXS.out) 1 _ rfl) (And.intro (bcells (box_below b HFXS.out) 1 _ rfl) trivial)))
                  clear hD hcl
                  cases D with
                  | false =>
                    have hq := hid' (show bad2 = true from hb.out)
                    clear hb wk
                    refine wp_region_keep (fun w' => Below ws.heap.size ws w') (by kernel_rfl) (by kernel_rfl) hbx ?_
                    repeat (first
                      | (refine wpKeep_skip ?_ ?_
                         · rfl
                         simp only [Act.put, List.setIfInBounds_toArray, List.set_cons_zero, List.set_cons_succ])
                      | (apply wpKeep_call 23 #[.int .i64 z.1]
                         · rfl
                         · (intro w hSw; obtain ⟨c0, c1, c2, c3⟩ := HK.out w hSw; go_simp; done)
                         · (intro w hSw; exact (dnisDay_any z.1 w).mono fun e w'' h => ⟨by rw [h.1, hday], by rw [h.2]; exact hSw⟩)
                         simp only [Act.put, List.setIfInBounds_toArray, List.set_cons_zero, List.set_cons_succ])
                      | (apply wpKeep_call 17 #[.int .i64 z.2]
                         · rfl
                         · (intro w hSw; obtain ⟨c0, c1, c2, c3⟩ := HK.out w hSw; go_simp; done)
                         · (intro w hSw; exact (clamp_any z.2 w).mono fun e w'' h => ⟨h.1, by rw [h.2]; exact hSw⟩)
                         simp only [Act.put, List.setIfInBounds_toArray, List.set_cons_zero, List.set_cons_succ])
                      | (apply wpKeep_val
                         · rfl
                         · (intro w hSw; obtain ⟨c0, c1, c2, c3⟩ := HK.out w hSw; first | (go_simp; done) | (go_simp; with_reducible rfl))
                         simp only [Act.put, List.setIfInBounds_toArray, List.set_cons_zero, List.set_cons_succ]))
                    refine wpKeep_nil ?_
                    intro w' hS'
                    go_wp2_with fail
                    go_meet
                    exact ⟨by rw [hq.out] <;> rfl, hS'⟩
                  | true =>
                    cases k with
                    | zero =>
                      have g0 : decide ((0 : Int) < ((0 : Nat) : Int)) = false := rfl
                      have hq := hid' (show bad2 = !cl from hb.out)
                      clear hb wk
                      refine wp_region_keep (fun w' => Below ws.heap.size ws w') (by kernel_rfl) (by kernel_rfl) hbx ?_
                      repeat (first
                        | (refine wpKeep_skip ?_ ?_
                           · rfl
                           simp only [Act.put, List.setIfInBounds_toArray, List.set_cons_zero, List.set_cons_succ])
                        | (apply wpKeep_call 23 #[.int .i64 z.1]
                           · rfl
                           · (intro w hSw; obtain ⟨c0, c1, c2, c3⟩ := HK.out w hSw; go_simp; done)
                           · (intro w hSw; exact (dnisDay_any z.1 w).mono fun e w'' h => ⟨by rw [h.1, hday], by rw [h.2]; exact hSw⟩)
                           simp only [Act.put, List.setIfInBounds_toArray, List.set_cons_zero, List.set_cons_succ])
                        | (apply wpKeep_call 17 #[.int .i64 z.2]
                           · rfl
                           · (intro w hSw; obtain ⟨c0, c1, c2, c3⟩ := HK.out w hSw; go_simp; done)
                           · (intro w hSw; exact (clamp_any z.2 w).mono fun e w'' h => ⟨h.1, by rw [h.2]; exact hSw⟩)
                           simp only [Act.put, List.setIfInBounds_toArray, List.set_cons_zero, List.set_cons_succ])
                        | (apply wpKeep_val
                           · rfl
                           · (intro w hSw; obtain ⟨c0, c1, c2, c3⟩ := HK.out w hSw; first | (go_simp; done) | (go_simp; with_reducible rfl))
                           simp only [Act.put, List.setIfInBounds_toArray, List.set_cons_zero, List.set_cons_succ]))
                      refine wpKeep_nil ?_
                      intro w' hS'
                      go_wp2_with fail
                      go_meet
                      exact ⟨by rw [hq.out] <;> rfl, hS'⟩
                    | succ m =>
                      clear wk
                      obtain ⟨y, hy⟩ : ∃ y, x.2[m]? = some y := ⟨_, List.getElem?_eq_getElem (by have := HKN.out; omega)⟩
                      obtain ⟨sb', so', e, -, ⟨y0, -⟩, -, -⟩ := HSS.out m y hy
                      obtain ⟨rfl, rfl⟩ : sb = sb' ∧ so = so' := by simpa using e
                      have HKY := hid' (fun (W : World) (b : Below ws.heap.size ws W) => keep_all b _ _ (HKA.out _ _ y0))
                      have hpv : Hid (Fd.prevLate x.2 (m + 1) z.1 = decide (z.1 ≤ y.1)) := hid' (by show decide (z.1 ≤ (Fd.stampAt x.2 m).1) = _; rw [Fd.stampAt_eq hy])
                      have hq := hid' (show bad2 = (decide (z.1 ≤ y.1) || !cl) by rw [hb.out, hpv.out]; rfl)
                      have g0 : decide ((0 : Int) < ((m + 1 : Nat) : Int)) = true := decide_eq_true (by omega)
                      have g0n : decide (0 < m + 1) = true := decide_eq_true (by omega)
                      have g5 : (0 : Int) ≤ (m : Int) := by omega
                      have g6 : (m : Int) < (x.2.length : Int) := by have := HKN.out; omega
                      have g3 : IntKind.i64.wrap (m : Int) = (m : Int) := IntWalk.i64_in _ (by have := HSB.out; unfold maxLen at this; omega)
                      have g4 : IntKind.i64.wrap (((m + 1 : Nat) : Int) - 1) = (m : Int) := by rw [IntWalk.i64_in _ (by have := HSB.out; unfold maxLen at this; omega)]; omega
                      clear hb hpv hy e y0 k1 k2 hk
                      cases hlt : decide (z.1 ≤ y.1) with
                      | true =>
                        rw [hlt] at hq
                        refine wp_region_keep (fun w' => Below ws.heap.size ws w') (by kernel_rfl) (by kernel_rfl) hbx ?_
                        repeat (first
                          | (refine wpKeep_skip ?_ ?_
                             · rfl
                             simp only [Act.put, List.setIfInBounds_toArray, List.set_cons_zero, List.set_cons_succ])
                          | (apply wpKeep_call 23 #[.int .i64 z.1]
                             · rfl
                             · (intro w hSw; obtain ⟨c0, c1, c2, c3⟩ := HK.out w hSw; have cy := HKY.out w hSw; go_simp; done)
                             · (intro w hSw; exact (dnisDay_any z.1 w).mono fun e w'' h => ⟨by rw [h.1, hday], by rw [h.2]; exact hSw⟩)
                             simp only [Act.put, List.setIfInBounds_toArray, List.set_cons_zero, List.set_cons_succ])
                          | (apply wpKeep_call 17 #[.int .i64 z.2]
                             · rfl
                             · (intro w hSw; obtain ⟨c0, c1, c2, c3⟩ := HK.out w hSw; have cy := HKY.out w hSw; go_simp; done)
                             · (intro w hSw; exact (clamp_any z.2 w).mono fun e w'' h => ⟨h.1, by rw [h.2]; exact hSw⟩)
                             simp only [Act.put, List.setIfInBounds_toArray, List.set_cons_zero, List.set_cons_succ])
                          | (apply wpKeep_val
                             · rfl
                             · (intro w hSw; obtain ⟨c0, c1, c2, c3⟩ := HK.out w hSw; have cy := HKY.out w hSw; first | (go_simp; done) | (go_simp; with_reducible rfl))
                             simp only [Act.put, List.setIfInBounds_toArray, List.set_cons_zero, List.set_cons_succ]))
                        refine wpKeep_nil ?_
                        intro w' hS'
                        go_wp2_with fail
                        go_meet
                        exact ⟨by rw [hq.out] <;> rfl, hS'⟩
                      | false =>
                        rw [hlt] at hq
                        refine wp_region_keep (fun w' => Below ws.heap.size ws w') (by kernel_rfl) (by kernel_rfl) hbx ?_
                        repeat (first
                          | (refine wpKeep_skip ?_ ?_
                             · rfl
                             simp only [Act.put, List.setIfInBounds_toArray, List.set_cons_zero, List.set_cons_succ])
                          | (apply wpKeep_call 23 #[.int .i64 z.1]
                             · rfl
                             · (intro w hSw; obtain ⟨c0, c1, c2, c3⟩ := HK.out w hSw; have cy := HKY.out w hSw; go_simp; done)
                             · (intro w hSw; exact (dnisDay_any z.1 w).mono fun e w'' h => ⟨by rw [h.1, hday], by rw [h.2]; exact hSw⟩)
                             simp only [Act.put, List.setIfInBounds_toArray, List.set_cons_zero, List.set_cons_succ])
                          | (apply wpKeep_call 17 #[.int .i64 z.2]
                             · rfl
                             · (intro w hSw; obtain ⟨c0, c1, c2, c3⟩ := HK.out w hSw; have cy := HKY.out w hSw; go_simp; done)
                             · (intro w hSw; exact (clamp_any z.2 w).mono fun e w'' h => ⟨h.1, by rw [h.2]; exact hSw⟩)
                             simp only [Act.put, List.setIfInBounds_toArray, List.set_cons_zero, List.set_cons_succ])
                          | (apply wpKeep_val
                             · rfl
                             · (intro w hSw; obtain ⟨c0, c1, c2, c3⟩ := HK.out w hSw; have cy := HKY.out w hSw; first | (go_simp; done) | (go_simp; with_reducible rfl))
                             simp only [Act.put, List.setIfInBounds_toArray, List.set_cons_zero, List.set_cons_succ]))
                        refine wpKeep_nil ?_
                        intro w' hS'
                        go_wp2_with fail
                        go_meet
                        exact ⟨by rw [hq.out] <;> rfl, hS'⟩
                case rest =>
                  obtain ⟨rfl, HBC9⟩ := hcut
                  have HZ9 := hid' (Below.more HBS.out HBC9.out)
                  have HWZ := hid' (HB.out.trans ((Below.more HW9.out HZ9.out).mono HB.out.size))
                  clear HBXS HFXS HKA HBC9 HBS
                  cases hb2 : bad2 with
                  | true =>
                    have hno : ¬ Fd.Ok F := fun ok => Fd.stamp_bad HKN.out (hbad.out.symm.trans hb2) ((ok.2 i x HX.out).stamps k z HZ1.out)
                    have e := hid' (show R = false by rw [HRF.out, Fd.right_no hno])
                    clear hno hb2 wk
                    go_wp2_with fail
                    go_ret
                    exact ⟨by rw [e.out]; rfl, HWZ.out⟩
                  | false =>
                    have hgood := Fd.stamp_good (hbad.out.symm.trans hb2)
                    have hnext : ∀ m, m < k + 1 → ∀ s, x.2[m]? = some s → Fd.StampOk x.2 m s := fun m hm s hs => by
                      rcases (by omega : m < k ∨ m = k) with h | rfl
                      · exact HST.out m h s hs
                      · obtain rfl : z = s := by have := HZ1.out.symm.trans hs; simpa using this
                        exact hgood
                    have HN := hid' hnext
                    clear hgood hnext hb2
                    go_wp2_with fail
                    go_roundw
                    case rel => exact ⟨k + 1, by go_num, by have := HKN.out; omega, HN, HZ9⟩
                    case measure => have := HKN.out; simp [intOf]; omega
              · obtain rfl : k = x.2.length := by omega
                have hok := Fd.feed_good HG.out (fun m s hm => HST.out m (List.getElem?_eq_some_iff.1 hm).1 s hm)
                have HNX := hid' (show ∀ j, j < i + 1 → ∀ f, F[j]? = some f → Fd.FeedOk F j f from fun j hj f hf => by
                  rcases (by omega : j < i ∨ j = i) with h | rfl
                  · exact HA.out j h f hf
                  · obtain rfl : x = f := by have := HX.out.symm.trans hf; simpa using this
                    exact hok)
                have j3 : decide (x.2.length < x.2.length) = false := by simp
                have wi : IntKind.i64.wrap ((i : Int) + 1) = (i : Int) + 1 := IntWalk.i64_in _ (by omega)
                clear hok hkn
                go_wp2_with fail
                go_roundw
                case rel => exact ⟨i + 1, by go_num, by have := HI.out; omega, HNX, Below.more HW9.out HZ.out⟩
                case measure => have := HI.out; simp [intOf]; omega
      · obtain rfl : i = F.length := by omega
        have e := hid' (show R = true by rw [HRF.out, Fd.right_yes (F := F) ⟨HLE.out, fun j f hj => HA.out j (List.getElem?_eq_some_iff.1 hj).1 f hj⟩])
        have j3 : decide (F.length < F.length) = false := by simp
        clear hin
        go_wp2_with fail
        go_ret
        exact ⟨by rw [e.out]; rfl, HW0.out⟩
end Go.Proofs.YtcpobnknmegkmaaGreatDoor

/- Proved: lemmas and contracts of the functions that the law reaches, part 22 of 31: OptIdle, OptNever, OptTry, OptFirst. Conditions: as each states. -/
import Derived.Deep.RegionHeld3
import Derived.Deep.DeepCutAuto
import Derived.Test.YtanlmbbalamgkaaGreatDoorGfm6
import Derived.Test.YtanlmbbalamgkaaGreatDoorGfm20
import Derived.Test.YtanlmbbalamgkaaGreatDoorGfm21
namespace Go.Proofs.YtanlmbbalamgkaaGreatDoor
set_option linter.unusedVariables false
set_option linter.unusedSimpArgs false
section
open Go.RowKit
set_option maxRecDepth 100000
structure IdleAt (w : World) (C A B : Array Value) (ba bb : Nat) (W : World) : Prop where
 below : Below w.heap.size w W
 c : W.heap[w.heap.size]? = some (.cells C 24 (0, 0))
 r : W.heap[w.heap.size + 1]? = some (.cells #[.int .i64 0, .int .i64 0, .string ⟨#[]⟩, .slice none 0 0] 24 (0, 0))
 a : W.heap[ba]? = some (.cells A 24 (0, 0))
 b : W.heap[bb]? = some (.cells B 24 (0, 0))
theorem IdleAt.more {w W W' : World} {C A B : Array Value} {ba bb : Nat} (h : IdleAt w C A B ba bb W) (hb : Below W.heap.size W W') : IdleAt w C A B ba bb W' :=
 ⟨h.below.trans (hb.mono h.below.size), (hb.block _ (zzc h.c)).trans h.c, (hb.block _ (zzc h.r)).trans h.r, (hb.block _ (zzc h.a)).trans h.a, (hb.block _ (zzc h.b)).trans h.b⟩
theorem idle_at {w w1 : World} {C : Array Value} (hB : Below w.heap.size w w1) (hc : w1.heap[w.heap.size]? = some (.cells C 24 (0, 0)))
   (hr : w1.heap[w.heap.size + 1]? = some (.cells #[.int .i64 0, .int .i64 0, .string ⟨#[]⟩, .slice none 0 0] 24 (0, 0))) (A B : Array Value) :
   IdleAt w C A B w1.heap.size (w1.heap.size + 1) ((w1.alloc (.cells A 24)).alloc (.cells B 24)).drew ∧
   IdleAt w C A B (w1.heap.size + 1) w1.heap.size ((w1.alloc (.cells B 24)).alloc (.cells A 24)).drew := by
 have two : ∀ X Y : Array Value, (((w1.alloc (.cells X 24)).alloc (.cells Y 24)).drew.heap[w1.heap.size]? = some (.cells X 24 (0, 0)) ∧ ((w1.alloc (.cells X 24)).alloc (.cells Y 24)).drew.heap[w1.heap.size + 1]? = some (.cells Y 24 (0, 0))) ∧ Below w1.heap.size w1 ((w1.alloc (.cells X 24)).alloc (.cells Y 24)).drew := by
   intro X Y
   refine ⟨⟨?_, ?_⟩, (((Below.refl _ _).alloc (Nat.le_refl _) _).alloc (by simp) _).drew⟩
   · exact (((Below.refl _ (w1.alloc (.cells X 24))).alloc (Nat.le_refl _) (.cells Y 24)).block w1.heap.size (by simp)).trans (heap_alloc_new w1 _)
   · have := heap_alloc_new (w1.alloc (.cells X 24)) (.cells Y 24)
     simp only [World.size_alloc] at this
     exact this
 obtain ⟨⟨a1, a2⟩, a3⟩ := two A B
 obtain ⟨⟨c1, c2⟩, c3⟩ := two B A
 exact ⟨⟨hB.trans (a3.mono hB.size), (a3.block _ (zzc hc)).trans hc, (a3.block _ (zzc hr)).trans hr, a1, a2⟩, ⟨hB.trans (c3.mono hB.size), (c3.block _ (zzc hc)).trans hc, (c3.block _ (zzc hr)).trans hr, c2, c1⟩⟩
set_option maxHeartbeats 4000000 in
theorem optIdle_any (ok : Nat → Prop) (t : Co.T) (v : Value) (w : World) (hv : CoreIn ok w t v) (hx : t.letter ≠ 0) (h0 : 0 < t.ks.length) :
   Calls Tryz.prog 91 #[v] w (TermOut ok (Co.idle t) w) := by
 obtain ⟨op, n, s, p, ln, c, rfl, hop, hn, hs, hln⟩ := zzu hv
 have HV := hid' hv
 obtain ⟨bl, off, rfl, hrows⟩ := open_rows hv h0
 have hb0 := heap_alloc_new w (.cells #[.int .i64 op, .int .i64 n, .string s, .slice (some ⟨bl, off, none⟩) ln c] 24)
 have hr0 := heap_alloc_new (w.alloc (.cells #[.int .i64 op, .int .i64 n, .string s, .slice (some ⟨bl, off, none⟩) ln c] 24)) (.cells #[.int .i64 0, .int .i64 0, .string ⟨#[]⟩, .slice none 0 0] 24)
 simp only [World.size_alloc] at hr0
 have hB0 : Below w.heap.size w ((w.alloc (.cells #[.int .i64 op, .int .i64 n, .string s, .slice (some ⟨bl, off, none⟩) ln c] 24)).alloc (.cells #[.int .i64 0, .int .i64 0, .string ⟨#[]⟩, .slice none 0 0] 24)) := ((Below.refl w.heap.size w).alloc (Nat.le_refl _) _).alloc (by simp) _
 have hc0 := (((Below.refl _ (w.alloc (.cells #[.int .i64 op, .int .i64 n, .string s, .slice (some ⟨bl, off, none⟩) ln c] 24))).alloc (Nat.le_refl _) (.cells #[.int .i64 0, .int .i64 0, .string ⟨#[]⟩, .slice none 0 0] 24)).block w.heap.size (by simp)).trans hb0
 have j0 : (0 : Int) < (ln : Int) := by omega
 have HOP := hid' hop
 have HN := hid' hn
 have HLN := hid' hln
 have HROWS := hid' hrows
 have HX := hid' hx
 have H0 := hid' h0
 clear hb0 hop hn hs hln hrows hx h0 hv
 go_enter Tryz.func91, Tryz.ntmps91
 go_upto_region 1 with (fail)
 generalize World.alloc _ _ = w1 at *
 have HB0 := hid' hB0
 have HR0 := hid' hr0
 have HC0 := hid' hc0
 obtain ⟨k, kat⟩ : ∃ k, t.ks[0]? = some k := ⟨_, List.getElem?_eq_getElem H0.out⟩
 obtain ⟨kop, kn, ks, kp, klen, kc, kH⟩ := HROWS.out 0 k kat
 have kK := hid' (kH.below hB0)
 have kV := hid' kH.val
 have kLT := hid' kH.lt
 clear kH
 clear hr0 hB0
 obtain ⟨d0, d1, d2, d3⟩ := zza HC0.out
 have KAT := hid' kat
 clear hc0 kat
 by_cases h2 : ln = 2
 · subst h2
   obtain ⟨j, hj⟩ : ∃ j, t.ks[1]? = some j := ⟨_, List.getElem?_eq_getElem (by rw [HLN.out]; decide)⟩
   obtain ⟨jop, jn, js, jp, jlen, jc, jH⟩ := HROWS.out 1 j hj
   have jK := hid' (jH.below HB0.out)
   have jV := hid' jH.val
   clear jH
   have eK : t.kid 0 = k := by unfold Co.T.kid; rw [KAT.out]; rfl
   have eJ : t.kid 1 = j := by unfold Co.T.kid; rw [hj]; rfl
   have HD := hid' (show Co.idle t = if Co.idleL op k j = true then some j else if Co.idleR op k j = true then some k else none by
     unfold Co.idle
     rw [if_pos HLN.out, eK, eJ, HOP.out])
   have HKO := hid' (And.intro kK.out.op' kK.out.n')
   have HJO := hid' (And.intro jK.out.op' jK.out.n')
   have hlt := zzc HR0.out
   have HLT := hid' hlt
   have HBL := hid' kLT.out
   clear eK eJ hj hlt
   go_upto_region 4 with (fail)
   go_cut [4, 5] (fun v4 v5 wx => ∃ wn ba bb, wn = wx ∧ v4 = .pointer (some ⟨ba, 0, none⟩) ∧ v5 = .pointer (some ⟨bb, 0, none⟩) ∧ Hid (IdleAt w #[.int .i64 op, .int .i64 n, .string s, .slice (some ⟨bl, off, none⟩) 2 c] #[.int .i64 kop, .int .i64 kn, .string ks, .slice kp klen kc] #[.int .i64 jop, .int .i64 jn, .string js, .slice jp jlen jc]  ba bb wn))
   case first =>
     have kx0 := kK.out.x0
     have kx1 := kK.out.x1
     have kx2 := kK.out.x2
     have kx3 := kK.out.x3
     simp only [Nat.zero_mul, Nat.add_zero, Nat.one_mul] at kx0 kx1 kx2 kx3
     have jx0 := jK.out.x0
     have jx1 := jK.out.x1
     have jx2 := jK.out.x2
     have jx3 := jK.out.x3
     simp only [Nat.zero_mul, Nat.add_zero, Nat.one_mul] at jx0 jx1 jx2 jx3
     go_wp2_with fail
     have n0 := World.new_ne w1 _ d3
     have n1 := World.new_ne w1 _ kx0
     have HN8 : ∀ (o1 o2 : Obj) (W : World), W = ((w1.alloc o1).alloc o2) → True := fun _ _ _ _ => trivial
     have j0n : 0 < 2 := by decide
     go_region_held3 (fun w' => w'.cell? ⟨w.heap.size, 3, none⟩ = some (.slice (some ⟨bl, off, none⟩) 2 c) ∧ w'.cell? ⟨bl, off, none⟩ = some (.int .i64 kop) ∧ w'.cell? ⟨bl, off + 1, none⟩ = some (.int .i64 kn) ∧ w'.cell? ⟨bl, off + 2, none⟩ = some (.string ks) ∧ w'.cell? ⟨bl, off + 3, none⟩ = some (.slice kp klen kc) ∧ w'.cell? ⟨bl, off + 4, none⟩ = some (.int .i64 jop) ∧ w'.cell? ⟨bl, off + 4 + 1, none⟩ = some (.int .i64 jn) ∧ w'.cell? ⟨bl, off + 4 + 2, none⟩ = some (.string js) ∧ w'.cell? ⟨bl, off + 4 + 3, none⟩ = some (.slice jp jlen jc))
       (first | exact ⟨zqk d3, zqk kx0, zqk kx1, zqk kx2, zqk kx3, zqk jx0, zqk jx1, zqk jx2, zqk jx3⟩ | go_keep | simp [*]) (fail)
     all_goals go_wp2_with fail
     all_goals go_meet
     all_goals first
       | exact ⟨_, _, _, rfl, rfl, rfl, hid' (idle_at HB0.out HC0.out HR0.out _ _).1⟩
       | exact ⟨_, _, _, rfl, rfl, rfl, hid' (idle_at HB0.out HC0.out HR0.out _ _).2⟩
   case rest =>
     obtain ⟨wx, ba, bb, rfl, rfl, rfl, HI⟩ := hcut
     clear d0 d1 d2 d3
     obtain ⟨d0, d1, d2, d3⟩ := zza HI.out.c
     obtain ⟨x0, x1, x2, x3⟩ := zza HI.out.a
     obtain ⟨z0, z1, z2, z3⟩ := zza HI.out.b
     by_cases h7 : op = 7
     · subst h7
       obtain ⟨gl, hgl⟩ : ∃ g, Hid ((kop == 1 && kn == 0) = g) := ⟨_, hid' rfl⟩
       obtain ⟨gr, hgr⟩ : ∃ g, Hid ((jop == 1 && jn == 0) = g) := ⟨_, hid' rfl⟩
       have HL := hid' (show Co.idleL 7 k j = gl by unfold Co.idleL Co.isNum; rw [HKO.out.1, HKO.out.2, hgl.out]; rfl)
       have HR := hid' (show Co.idleR 7 k j = gr by unfold Co.idleR Co.isNum; rw [HJO.out.1, HJO.out.2, hgr.out]; rfl)
       go_wp2_with fail
       refine zqq (Below wx.heap.size wx) (by kernel_rfl) (by kernel_rfl) (Below.refl _ _).drew ?_
       repeat (first
         | (refine wpKeep_skip ?_ ?_
            · rfl
            simp only [Act.put, List.setIfInBounds_toArray, List.set_cons_zero, List.set_cons_succ])
         | (apply zqr 137 #[.agg #[.int .i64 jop, .int .i64 jn, .string js, .slice jp jlen jc], .int .i64 0]
            · rfl
            · (intro w' hSw; obtain ⟨d0, d1, d2, d3⟩ := zza ((hSw.block _ (zzc HI.out.c)).trans HI.out.c); obtain ⟨x0, x1, x2, x3⟩ := zza ((hSw.block _ (zzc HI.out.a)).trans HI.out.a); obtain ⟨z0, z1, z2, z3⟩ := zza ((hSw.block _ (zzc HI.out.b)).trans HI.out.b); go_simp; done)
            · (intro w' hSw; refine (optIsNum_any _ _ 0 _ _ _ _ w').mono ?_; rintro e w'' ⟨rfl, b⟩; exact ⟨by rw [hgr.out], hSw.trans (b.mono hSw.size)⟩)
            simp only [Act.put, List.setIfInBounds_toArray, List.set_cons_zero, List.set_cons_succ])
         | (apply zqr 137 #[.agg #[.int .i64 kop, .int .i64 kn, .string ks, .slice kp klen kc], .int .i64 0]
            · rfl
            · (intro w' hSw; obtain ⟨d0, d1, d2, d3⟩ := zza ((hSw.block _ (zzc HI.out.c)).trans HI.out.c); obtain ⟨x0, x1, x2, x3⟩ := zza ((hSw.block _ (zzc HI.out.a)).trans HI.out.a); obtain ⟨z0, z1, z2, z3⟩ := zza ((hSw.block _ (zzc HI.out.b)).trans HI.out.b); go_simp; done)
            · (intro w' hSw; refine (optIsNum_any _ _ 0 _ _ _ _ w').mono ?_; rintro e w'' ⟨rfl, b⟩; exact ⟨by rw [hgl.out], hSw.trans (b.mono hSw.size)⟩)
            simp only [Act.put, List.setIfInBounds_toArray, List.set_cons_zero, List.set_cons_succ])
         | (apply wpKeep_val
            · rfl
            · (intro w' hSw; obtain ⟨d0, d1, d2, d3⟩ := zza ((hSw.block _ (zzc HI.out.c)).trans HI.out.c); obtain ⟨x0, x1, x2, x3⟩ := zza ((hSw.block _ (zzc HI.out.a)).trans HI.out.a); obtain ⟨z0, z1, z2, z3⟩ := zza ((hSw.block _ (zzc HI.out.b)).trans HI.out.b); first | (go_simp; done) | (go_simp; with_reducible rfl))
            simp only [Act.put, List.setIfInBounds_toArray, List.set_cons_zero, List.set_cons_succ]))
       refine wpKeep_nil ?_
       intro w3 hS'
       have HI3 := hid' (HI.out.more hS')
       clear hS' d0 d1 d2 d3 x0 x1 x2 x3 z0 z1 z2 z3
       obtain ⟨d0, d1, d2, d3⟩ := zza HI3.out.c
       obtain ⟨x0, x1, x2, x3⟩ := zza HI3.out.a
       obtain ⟨z0, z1, z2, z3⟩ := zza HI3.out.b
       cases gl with
       | true =>
         obtain ⟨r0, r1, r2, r3⟩ := zza HI3.out.r
         have HS := hid' (set4 HI3.out.r (.int .i64 jop) (.int .i64 jn) (.string js) (.slice jp jlen jc))
         have f0 : ∀ o, w3.frozen? ⟨w.heap.size + 1, o, none⟩ = false := fun o => Rw.frozen_of HI3.out.r
         have HF := hid' (show Co.idle t = some j by rw [HD.out, HL.out, HR.out]; rfl)
         go_wp2_with fail
         obtain ⟨hbx, hbl⟩ := HS.out
         generalize World.setCell _ _ _ = w9 at *
         obtain ⟨y0, y1, y2, y3⟩ := zza hbx
         refine bodyPost_ret (v := .tuple #[.agg #[.int .i64 jop, .int .i64 jn, .string js, .slice jp jlen jc], .bool true]) (by simp [results, Tryz.results91, go_sem, y0, y1, y2, y3]) rfl ?_
         have hbb := HI3.out.below.trans (hbl w.heap.size (by omega))
         exact ⟨hbb, j, _, by rw [HF.out]; rfl, (jV.out.under hbb).old, fun x h => by rw [HF.out] at h; cases h; rfl⟩
       | false =>
         cases gr with
         | true =>
           obtain ⟨r0, r1, r2, r3⟩ := zza HI3.out.r
           have HS := hid' (set4 HI3.out.r (.int .i64 kop) (.int .i64 kn) (.string ks) (.slice kp klen kc))
           have f0 : ∀ o, w3.frozen? ⟨w.heap.size + 1, o, none⟩ = false := fun o => Rw.frozen_of HI3.out.r
           have HF := hid' (show Co.idle t = some k by rw [HD.out, HL.out, HR.out]; rfl)
           go_wp2_with fail
           obtain ⟨hbx, hbl⟩ := HS.out
           generalize World.setCell _ _ _ = w9 at *
           obtain ⟨y0, y1, y2, y3⟩ := zza hbx
           refine bodyPost_ret (v := .tuple #[.agg #[.int .i64 kop, .int .i64 kn, .string ks, .slice kp klen kc], .bool true]) (by simp [results, Tryz.results91, go_sem, y0, y1, y2, y3]) rfl ?_
           have hbb := HI3.out.below.trans (hbl w.heap.size (by omega))
           exact ⟨hbb, k, _, by rw [HF.out]; rfl, (kV.out.under hbb).old, fun x h => by rw [HF.out] at h; cases h; rfl⟩
         | false =>
           obtain ⟨r0, r1, r2, r3⟩ := zza HI3.out.r
           have HS := hid' (set4 HI3.out.r (.int .i64 7) (.int .i64 n) (.string s) (.slice (some ⟨bl, off, none⟩) 2 c))
           have f0 : ∀ o, w3.frozen? ⟨w.heap.size + 1, o, none⟩ = false := fun o => Rw.frozen_of HI3.out.r
           have HF := hid' (show Co.idle t = none by rw [HD.out, HL.out, HR.out]; rfl)
           go_wp2_with fail
           obtain ⟨hbx, hbl⟩ := HS.out
           generalize World.setCell _ _ _ = w9 at *
           obtain ⟨y0, y1, y2, y3⟩ := zza hbx
           refine bodyPost_ret (v := .tuple #[.agg #[.int .i64 7, .int .i64 n, .string s, .slice (some ⟨bl, off, none⟩) 2 c], .bool false]) (by simp [results, Tryz.results91, go_sem, y0, y1, y2, y3]) rfl ?_
           have hbb := HI3.out.below.trans (hbl w.heap.size (by omega))
           exact ⟨hbb, t, _, by rw [HF.out]; rfl, (HV.out.under hbb).old, fun x h => by rw [HF.out] at h; cases h⟩
     by_cases h9 : op = 9
     · subst h9
       obtain ⟨gl, hgl⟩ : ∃ g, Hid ((kop == 1 && kn == 1000000) = g) := ⟨_, hid' rfl⟩
       obtain ⟨gr, hgr⟩ : ∃ g, Hid ((jop == 1 && jn == 1000000) = g) := ⟨_, hid' rfl⟩
       have HL := hid' (show Co.idleL 9 k j = gl by unfold Co.idleL Co.isNum; rw [HKO.out.1, HKO.out.2, hgl.out]; rfl)
       have HR := hid' (show Co.idleR 9 k j = gr by unfold Co.idleR Co.isNum; rw [HJO.out.1, HJO.out.2, hgr.out]; rfl)
       go_wp2_with fail
       refine zqq (Below wx.heap.size wx) (by kernel_rfl) (by kernel_rfl) (Below.refl _ _).drew ?_
       repeat (first
         | (refine wpKeep_skip ?_ ?_
            · rfl
            simp only [Act.put, List.setIfInBounds_toArray, List.set_cons_zero, List.set_cons_succ])
         | (apply zqr 137 #[.agg #[.int .i64 jop, .int .i64 jn, .string js, .slice jp jlen jc], .int .i64 1000000]
            · rfl
            · (intro w' hSw; obtain ⟨d0, d1, d2, d3⟩ := zza ((hSw.block _ (zzc HI.out.c)).trans HI.out.c); obtain ⟨x0, x1, x2, x3⟩ := zza ((hSw.block _ (zzc HI.out.a)).trans HI.out.a); obtain ⟨z0, z1, z2, z3⟩ := zza ((hSw.block _ (zzc HI.out.b)).trans HI.out.b); go_simp; done)
            · (intro w' hSw; refine (optIsNum_any _ _ 1000000 _ _ _ _ w').mono ?_; rintro e w'' ⟨rfl, b⟩; exact ⟨by rw [hgr.out], hSw.trans (b.mono hSw.size)⟩)
            simp only [Act.put, List.setIfInBounds_toArray, List.set_cons_zero, List.set_cons_succ])
         | (apply zqr 137 #[.agg #[.int .i64 kop, .int .i64 kn, .string ks, .slice kp klen kc], .int .i64 1000000]
            · rfl
            · (intro w' hSw; obtain ⟨d0, d1, d2, d3⟩ := zza ((hSw.block _ (zzc HI.out.c)).trans HI.out.c); obtain ⟨x0, x1, x2, x3⟩ := zza ((hSw.block _ (zzc HI.out.a)).trans HI.out.a); obtain ⟨z0, z1, z2, z3⟩ := zza ((hSw.block _ (zzc HI.out.b)).trans HI.out.b); go_simp; done)
            · (intro w' hSw; refine (optIsNum_any _ _ 1000000 _ _ _ _ w').mono ?_; rintro e w'' ⟨rfl, b⟩; exact ⟨by rw [hgl.out], hSw.trans (b.mono hSw.size)⟩)
            simp only [Act.put, List.setIfInBounds_toArray, List.set_cons_zero, List.set_cons_succ])
         | (apply wpKeep_val
            · rfl
            · (intro w' hSw; obtain ⟨d0, d1, d2, d3⟩ := zza ((hSw.block _ (zzc HI.out.c)).trans HI.out.c); obtain ⟨x0, x1, x2, x3⟩ := zza ((hSw.block _ (zzc HI.out.a)).trans HI.out.a); obtain ⟨z0, z1, z2, z3⟩ := zza ((hSw.block _ (zzc HI.out.b)).trans HI.out.b); first | (go_simp; done) | (go_simp; with_reducible rfl))
            simp only [Act.put, List.setIfInBounds_toArray, List.set_cons_zero, List.set_cons_succ]))
       refine wpKeep_nil ?_
       intro w3 hS'
       have HI3 := hid' (HI.out.more hS')
       clear hS' d0 d1 d2 d3 x0 x1 x2 x3 z0 z1 z2 z3
       obtain ⟨d0, d1, d2, d3⟩ := zza HI3.out.c
       obtain ⟨x0, x1, x2, x3⟩ := zza HI3.out.a
       obtain ⟨z0, z1, z2, z3⟩ := zza HI3.out.b
       cases gl with
       | true =>
         obtain ⟨r0, r1, r2, r3⟩ := zza HI3.out.r
         have HS := hid' (set4 HI3.out.r (.int .i64 jop) (.int .i64 jn) (.string js) (.slice jp jlen jc))
         have f0 : ∀ o, w3.frozen? ⟨w.heap.size + 1, o, none⟩ = false := fun o => Rw.frozen_of HI3.out.r
         have HF := hid' (show Co.idle t = some j by rw [HD.out, HL.out, HR.out]; rfl)
         go_wp2_with fail
         obtain ⟨hbx, hbl⟩ := HS.out
         generalize World.setCell _ _ _ = w9 at *
         obtain ⟨y0, y1, y2, y3⟩ := zza hbx
         refine bodyPost_ret (v := .tuple #[.agg #[.int .i64 jop, .int .i64 jn, .string js, .slice jp jlen jc], .bool true]) (by simp [results, Tryz.results91, go_sem, y0, y1, y2, y3]) rfl ?_
         have hbb := HI3.out.below.trans (hbl w.heap.size (by omega))
         exact ⟨hbb, j, _, by rw [HF.out]; rfl, (jV.out.under hbb).old, fun x h => by rw [HF.out] at h; cases h; rfl⟩
       | false =>
         cases gr with
         | true =>
           obtain ⟨r0, r1, r2, r3⟩ := zza HI3.out.r
           have HS := hid' (set4 HI3.out.r (.int .i64 kop) (.int .i64 kn) (.string ks) (.slice kp klen kc))
           have f0 : ∀ o, w3.frozen? ⟨w.heap.size + 1, o, none⟩ = false := fun o => Rw.frozen_of HI3.out.r
           have HF := hid' (show Co.idle t = some k by rw [HD.out, HL.out, HR.out]; rfl)
           go_wp2_with fail
           obtain ⟨hbx, hbl⟩ := HS.out
           generalize World.setCell _ _ _ = w9 at *
           obtain ⟨y0, y1, y2, y3⟩ := zza hbx
           refine bodyPost_ret (v := .tuple #[.agg #[.int .i64 kop, .int .i64 kn, .string ks, .slice kp klen kc], .bool true]) (by simp [results, Tryz.results91, go_sem, y0, y1, y2, y3]) rfl ?_
           have hbb := HI3.out.below.trans (hbl w.heap.size (by omega))
           exact ⟨hbb, k, _, by rw [HF.out]; rfl, (kV.out.under hbb).old, fun x h => by rw [HF.out] at h; cases h; rfl⟩
         | false =>
           obtain ⟨r0, r1, r2, r3⟩ := zza HI3.out.r
           have HS := hid' (set4 HI3.out.r (.int .i64 9) (.int .i64 n) (.string s) (.slice (some ⟨bl, off, none⟩) 2 c))
           have f0 : ∀ o, w3.frozen? ⟨w.heap.size + 1, o, none⟩ = false := fun o => Rw.frozen_of HI3.out.r
           have HF := hid' (show Co.idle t = none by rw [HD.out, HL.out, HR.out]; rfl)
           go_wp2_with fail
           obtain ⟨hbx, hbl⟩ := HS.out
           generalize World.setCell _ _ _ = w9 at *
           obtain ⟨y0, y1, y2, y3⟩ := zza hbx
           refine bodyPost_ret (v := .tuple #[.agg #[.int .i64 9, .int .i64 n, .string s, .slice (some ⟨bl, off, none⟩) 2 c], .bool false]) (by simp [results, Tryz.results91, go_sem, y0, y1, y2, y3]) rfl ?_
           have hbb := HI3.out.below.trans (hbl w.heap.size (by omega))
           exact ⟨hbb, t, _, by rw [HF.out]; rfl, (HV.out.under hbb).old, fun x h => by rw [HF.out] at h; cases h⟩
     by_cases h15 : op = 15
     · subst h15
       obtain ⟨gl, hgl⟩ : ∃ g, Hid ((kop == 2 && kn == 1) = g) := ⟨_, hid' rfl⟩
       obtain ⟨gr, hgr⟩ : ∃ g, Hid ((jop == 2 && jn == 1) = g) := ⟨_, hid' rfl⟩
       have HL := hid' (show Co.idleL 15 k j = gl by unfold Co.idleL Co.isBool; rw [HKO.out.1, HKO.out.2, hgl.out]; rfl)
       have HR := hid' (show Co.idleR 15 k j = gr by unfold Co.idleR Co.isBool; rw [HJO.out.1, HJO.out.2, hgr.out]; rfl)
       go_wp2_with fail
       refine zqq (Below wx.heap.size wx) (by kernel_rfl) (by kernel_rfl) (Below.refl _ _).drew ?_
       repeat (first
         | (refine wpKeep_skip ?_ ?_
            · rfl
            simp only [Act.put, List.setIfInBounds_toArray, List.set_cons_zero, List.set_cons_succ])
         | (apply zqr 138 #[.agg #[.int .i64 jop, .int .i64 jn, .string js, .slice jp jlen jc], .int .i64 1]
            · rfl
            · (intro w' hSw; obtain ⟨d0, d1, d2, d3⟩ := zza ((hSw.block _ (zzc HI.out.c)).trans HI.out.c); obtain ⟨x0, x1, x2, x3⟩ := zza ((hSw.block _ (zzc HI.out.a)).trans HI.out.a); obtain ⟨z0, z1, z2, z3⟩ := zza ((hSw.block _ (zzc HI.out.b)).trans HI.out.b); go_simp; done)
            · (intro w' hSw; refine (zqc _ _ 1 _ _ _ _ w').mono ?_; rintro e w'' ⟨rfl, b⟩; exact ⟨by rw [hgr.out], hSw.trans (b.mono hSw.size)⟩)
            simp only [Act.put, List.setIfInBounds_toArray, List.set_cons_zero, List.set_cons_succ])
         | (apply zqr 138 #[.agg #[.int .i64 kop, .int .i64 kn, .string ks, .slice kp klen kc], .int .i64 1]
            · rfl
            · (intro w' hSw; obtain ⟨d0, d1, d2, d3⟩ := zza ((hSw.block _ (zzc HI.out.c)).trans HI.out.c); obtain ⟨x0, x1, x2, x3⟩ := zza ((hSw.block _ (zzc HI.out.a)).trans HI.out.a); obtain ⟨z0, z1, z2, z3⟩ := zza ((hSw.block _ (zzc HI.out.b)).trans HI.out.b); go_simp; done)
            · (intro w' hSw; refine (zqc _ _ 1 _ _ _ _ w').mono ?_; rintro e w'' ⟨rfl, b⟩; exact ⟨by rw [hgl.out], hSw.trans (b.mono hSw.size)⟩)
            simp only [Act.put, List.setIfInBounds_toArray, List.set_cons_zero, List.set_cons_succ])
         | (apply wpKeep_val
            · rfl
            · (intro w' hSw; obtain ⟨d0, d1, d2, d3⟩ := zza ((hSw.block _ (zzc HI.out.c)).trans HI.out.c); obtain ⟨x0, x1, x2, x3⟩ := zza ((hSw.block _ (zzc HI.out.a)).trans HI.out.a); obtain ⟨z0, z1, z2, z3⟩ := zza ((hSw.block _ (zzc HI.out.b)).trans HI.out.b); first | (go_simp; done) | (go_simp; with_reducible rfl))
            simp only [Act.put, List.setIfInBounds_toArray, List.set_cons_zero, List.set_cons_succ]))
       refine wpKeep_nil ?_
       intro w3 hS'
       have HI3 := hid' (HI.out.more hS')
       clear hS' d0 d1 d2 d3 x0 x1 x2 x3 z0 z1 z2 z3
       obtain ⟨d0, d1, d2, d3⟩ := zza HI3.out.c
       obtain ⟨x0, x1, x2, x3⟩ := zza HI3.out.a
       obtain ⟨z0, z1, z2, z3⟩ := zza HI3.out.b
       cases gl with
       | true =>
         obtain ⟨r0, r1, r2, r3⟩ := zza HI3.out.r
         have HS := hid' (set4 HI3.out.r (.int .i64 jop) (.int .i64 jn) (.string js) (.slice jp jlen jc))
         have f0 : ∀ o, w3.frozen? ⟨w.heap.size + 1, o, none⟩ = false := fun o => Rw.frozen_of HI3.out.r
         have HF := hid' (show Co.idle t = some j by rw [HD.out, HL.out, HR.out]; rfl)
         go_wp2_with fail
         obtain ⟨hbx, hbl⟩ := HS.out
         generalize World.setCell _ _ _ = w9 at *
         obtain ⟨y0, y1, y2, y3⟩ := zza hbx
         refine bodyPost_ret (v := .tuple #[.agg #[.int .i64 jop, .int .i64 jn, .string js, .slice jp jlen jc], .bool true]) (by simp [results, Tryz.results91, go_sem, y0, y1, y2, y3]) rfl ?_
         have hbb := HI3.out.below.trans (hbl w.heap.size (by omega))
         exact ⟨hbb, j, _, by rw [HF.out]; rfl, (jV.out.under hbb).old, fun x h => by rw [HF.out] at h; cases h; rfl⟩
       | false =>
         cases gr with
         | true =>
           obtain ⟨r0, r1, r2, r3⟩ := zza HI3.out.r
           have HS := hid' (set4 HI3.out.r (.int .i64 kop) (.int .i64 kn) (.string ks) (.slice kp klen kc))
           have f0 : ∀ o, w3.frozen? ⟨w.heap.size + 1, o, none⟩ = false := fun o => Rw.frozen_of HI3.out.r
           have HF := hid' (show Co.idle t = some k by rw [HD.out, HL.out, HR.out]; rfl)
           go_wp2_with fail
           obtain ⟨hbx, hbl⟩ := HS.out
           generalize World.setCell _ _ _ = w9 at *
           obtain ⟨y0, y1, y2, y3⟩ := zza hbx
           refine bodyPost_ret (v := .tuple #[.agg #[.int .i64 kop, .int .i64 kn, .string ks, .slice kp klen kc], .bool true]) (by simp [results, Tryz.results91, go_sem, y0, y1, y2, y3]) rfl ?_
           have hbb := HI3.out.below.trans (hbl w.heap.size (by omega))
           exact ⟨hbb, k, _, by rw [HF.out]; rfl, (kV.out.under hbb).old, fun x h => by rw [HF.out] at h; cases h; rfl⟩
         | false =>
           obtain ⟨r0, r1, r2, r3⟩ := zza HI3.out.r
           have HS := hid' (set4 HI3.out.r (.int .i64 15) (.int .i64 n) (.string s) (.slice (some ⟨bl, off, none⟩) 2 c))
           have f0 : ∀ o, w3.frozen? ⟨w.heap.size + 1, o, none⟩ = false := fun o => Rw.frozen_of HI3.out.r
           have HF := hid' (show Co.idle t = none by rw [HD.out, HL.out, HR.out]; rfl)
           go_wp2_with fail
           obtain ⟨hbx, hbl⟩ := HS.out
           generalize World.setCell _ _ _ = w9 at *
           obtain ⟨y0, y1, y2, y3⟩ := zza hbx
           refine bodyPost_ret (v := .tuple #[.agg #[.int .i64 15, .int .i64 n, .string s, .slice (some ⟨bl, off, none⟩) 2 c], .bool false]) (by simp [results, Tryz.results91, go_sem, y0, y1, y2, y3]) rfl ?_
           have hbb := HI3.out.below.trans (hbl w.heap.size (by omega))
           exact ⟨hbb, t, _, by rw [HF.out]; rfl, (HV.out.under hbb).old, fun x h => by rw [HF.out] at h; cases h⟩
     by_cases h16 : op = 16
     · subst h16
       obtain ⟨gl, hgl⟩ : ∃ g, Hid ((kop == 2 && kn == 0) = g) := ⟨_, hid' rfl⟩
       obtain ⟨gr, hgr⟩ : ∃ g, Hid ((jop == 2 && jn == 0) = g) := ⟨_, hid' rfl⟩
       have HL := hid' (show Co.idleL 16 k j = gl by unfold Co.idleL Co.isBool; rw [HKO.out.1, HKO.out.2, hgl.out]; rfl)
       have HR := hid' (show Co.idleR 16 k j = gr by unfold Co.idleR Co.isBool; rw [HJO.out.1, HJO.out.2, hgr.out]; rfl)
       go_wp2_with fail
       refine zqq (Below wx.heap.size wx) (by kernel_rfl) (by kernel_rfl) (Below.refl _ _).drew ?_
       repeat (first
         | (refine wpKeep_skip ?_ ?_
            · rfl
            simp only [Act.put, List.setIfInBounds_toArray, List.set_cons_zero, List.set_cons_succ])
         | (apply zqr 138 #[.agg #[.int .i64 jop, .int .i64 jn, .string js, .slice jp jlen jc], .int .i64 0]
            · rfl
            · (intro w' hSw; obtain ⟨d0, d1, d2, d3⟩ := zza ((hSw.block _ (zzc HI.out.c)).trans HI.out.c); obtain ⟨x0, x1, x2, x3⟩ := zza ((hSw.block _ (zzc HI.out.a)).trans HI.out.a); obtain ⟨z0, z1, z2, z3⟩ := zza ((hSw.block _ (zzc HI.out.b)).trans HI.out.b); go_simp; done)
            · (intro w' hSw; refine (zqc _ _ 0 _ _ _ _ w').mono ?_; rintro e w'' ⟨rfl, b⟩; exact ⟨by rw [hgr.out], hSw.trans (b.mono hSw.size)⟩)
            simp only [Act.put, List.setIfInBounds_toArray, List.set_cons_zero, List.set_cons_succ])
         | (apply zqr 138 #[.agg #[.int .i64 kop, .int .i64 kn, .string ks, .slice kp klen kc], .int .i64 0]
            · rfl
            · (intro w' hSw; obtain ⟨d0, d1, d2, d3⟩ := zza ((hSw.block _ (zzc HI.out.c)).trans HI.out.c); obtain ⟨x0, x1, x2, x3⟩ := zza ((hSw.block _ (zzc HI.out.a)).trans HI.out.a); obtain ⟨z0, z1, z2, z3⟩ := zza ((hSw.block _ (zzc HI.out.b)).trans HI.out.b); go_simp; done)
            · (intro w' hSw; refine (zqc _ _ 0 _ _ _ _ w').mono ?_; rintro e w'' ⟨rfl, b⟩; exact ⟨by rw [hgl.out], hSw.trans (b.mono hSw.size)⟩)
            simp only [Act.put, List.setIfInBounds_toArray, List.set_cons_zero, List.set_cons_succ])
         | (apply wpKeep_val
            · rfl
            · (intro w' hSw; obtain ⟨d0, d1, d2, d3⟩ := zza ((hSw.block _ (zzc HI.out.c)).trans HI.out.c); obtain ⟨x0, x1, x2, x3⟩ := zza ((hSw.block _ (zzc HI.out.a)).trans HI.out.a); obtain ⟨z0, z1, z2, z3⟩ := zza ((hSw.block _ (zzc HI.out.b)).trans HI.out.b); first | (go_simp; done) | (go_simp; with_reducible rfl))
            simp only [Act.put, List.setIfInBounds_toArray, List.set_cons_zero, List.set_cons_succ]))
       refine wpKeep_nil ?_
       intro w3 hS'
       have HI3 := hid' (HI.out.more hS')
       clear hS' d0 d1 d2 d3 x0 x1 x2 x3 z0 z1 z2 z3
       obtain ⟨d0, d1, d2, d3⟩ := zza HI3.out.c
       obtain ⟨x0, x1, x2, x3⟩ := zza HI3.out.a
       obtain ⟨z0, z1, z2, z3⟩ := zza HI3.out.b
       cases gl with
       | true =>
         obtain ⟨r0, r1, r2, r3⟩ := zza HI3.out.r
         have HS := hid' (set4 HI3.out.r (.int .i64 jop) (.int .i64 jn) (.string js) (.slice jp jlen jc))
         have f0 : ∀ o, w3.frozen? ⟨w.heap.size + 1, o, none⟩ = false := fun o => Rw.frozen_of HI3.out.r
         have HF := hid' (show Co.idle t = some j by rw [HD.out, HL.out, HR.out]; rfl)
         go_wp2_with fail
         obtain ⟨hbx, hbl⟩ := HS.out
         generalize World.setCell _ _ _ = w9 at *
         obtain ⟨y0, y1, y2, y3⟩ := zza hbx
         refine bodyPost_ret (v := .tuple #[.agg #[.int .i64 jop, .int .i64 jn, .string js, .slice jp jlen jc], .bool true]) (by simp [results, Tryz.results91, go_sem, y0, y1, y2, y3]) rfl ?_
         have hbb := HI3.out.below.trans (hbl w.heap.size (by omega))
         exact ⟨hbb, j, _, by rw [HF.out]; rfl, (jV.out.under hbb).old, fun x h => by rw [HF.out] at h; cases h; rfl⟩
       | false =>
         cases gr with
         | true =>
           obtain ⟨r0, r1, r2, r3⟩ := zza HI3.out.r
           have HS := hid' (set4 HI3.out.r (.int .i64 kop) (.int .i64 kn) (.string ks) (.slice kp klen kc))
           have f0 : ∀ o, w3.frozen? ⟨w.heap.size + 1, o, none⟩ = false := fun o => Rw.frozen_of HI3.out.r
           have HF := hid' (show Co.idle t = some k by rw [HD.out, HL.out, HR.out]; rfl)
           go_wp2_with fail
           obtain ⟨hbx, hbl⟩ := HS.out
           generalize World.setCell _ _ _ = w9 at *
           obtain ⟨y0, y1, y2, y3⟩ := zza hbx
           refine bodyPost_ret (v := .tuple #[.agg #[.int .i64 kop, .int .i64 kn, .string ks, .slice kp klen kc], .bool true]) (by simp [results, Tryz.results91, go_sem, y0, y1, y2, y3]) rfl ?_
           have hbb := HI3.out.below.trans (hbl w.heap.size (by omega))
           exact ⟨hbb, k, _, by rw [HF.out]; rfl, (kV.out.under hbb).old, fun x h => by rw [HF.out] at h; cases h; rfl⟩
         | false =>
           obtain ⟨r0, r1, r2, r3⟩ := zza HI3.out.r
           have HS := hid' (set4 HI3.out.r (.int .i64 16) (.int .i64 n) (.string s) (.slice (some ⟨bl, off, none⟩) 2 c))
           have f0 : ∀ o, w3.frozen? ⟨w.heap.size + 1, o, none⟩ = false := fun o => Rw.frozen_of HI3.out.r
           have HF := hid' (show Co.idle t = none by rw [HD.out, HL.out, HR.out]; rfl)
           go_wp2_with fail
           obtain ⟨hbx, hbl⟩ := HS.out
           generalize World.setCell _ _ _ = w9 at *
           obtain ⟨y0, y1, y2, y3⟩ := zza hbx
           refine bodyPost_ret (v := .tuple #[.agg #[.int .i64 16, .int .i64 n, .string s, .slice (some ⟨bl, off, none⟩) 2 c], .bool false]) (by simp [results, Tryz.results91, go_sem, y0, y1, y2, y3]) rfl ?_
           have hbb := HI3.out.below.trans (hbl w.heap.size (by omega))
           exact ⟨hbb, t, _, by rw [HF.out]; rfl, (HV.out.under hbb).old, fun x h => by rw [HF.out] at h; cases h⟩
     by_cases h8 : op = 8
     · subst h8
       obtain ⟨gl, hgl⟩ : ∃ g, Hid (false = g) := ⟨_, hid' rfl⟩
       obtain ⟨gr, hgr⟩ : ∃ g, Hid ((jop == 1 && jn == 0) = g) := ⟨_, hid' rfl⟩
       have HL := hid' (show Co.idleL 8 k j = gl by rw [← hgl.out]; rfl)
       have HR := hid' (show Co.idleR 8 k j = gr by unfold Co.idleR Co.isNum; rw [HJO.out.1, HJO.out.2, hgr.out]; rfl)
       go_wp2_with fail
       refine (optIsNum_any _ _ 0 _ _ _ _ _).mono ?_
       rintro e w3 ⟨rfl, b3⟩
       rw [hgr.out]
       have HI3 := hid' (HI.out.more b3)
       clear b3 d0 d1 d2 d3 x0 x1 x2 x3 z0 z1 z2 z3
       obtain ⟨d0, d1, d2, d3⟩ := zza HI3.out.c
       obtain ⟨x0, x1, x2, x3⟩ := zza HI3.out.a
       obtain ⟨z0, z1, z2, z3⟩ := zza HI3.out.b
       obtain rfl := hgl.out
       cases gr with
       | true =>
         obtain ⟨r0, r1, r2, r3⟩ := zza HI3.out.r
         have HS := hid' (set4 HI3.out.r (.int .i64 kop) (.int .i64 kn) (.string ks) (.slice kp klen kc))
         have f0 : ∀ o, w3.frozen? ⟨w.heap.size + 1, o, none⟩ = false := fun o => Rw.frozen_of HI3.out.r
         have HF := hid' (show Co.idle t = some k by rw [HD.out, HL.out, HR.out]; rfl)
         go_wp2_with fail
         obtain ⟨hbx, hbl⟩ := HS.out
         generalize World.setCell _ _ _ = w9 at *
         obtain ⟨y0, y1, y2, y3⟩ := zza hbx
         refine bodyPost_ret (v := .tuple #[.agg #[.int .i64 kop, .int .i64 kn, .string ks, .slice kp klen kc], .bool true]) (by simp [results, Tryz.results91, go_sem, y0, y1, y2, y3]) rfl ?_
         have hbb := HI3.out.below.trans (hbl w.heap.size (by omega))
         exact ⟨hbb, k, _, by rw [HF.out]; rfl, (kV.out.under hbb).old, fun x h => by rw [HF.out] at h; cases h; rfl⟩
       | false =>
         obtain ⟨r0, r1, r2, r3⟩ := zza HI3.out.r
         have HS := hid' (set4 HI3.out.r (.int .i64 8) (.int .i64 n) (.string s) (.slice (some ⟨bl, off, none⟩) 2 c))
         have f0 : ∀ o, w3.frozen? ⟨w.heap.size + 1, o, none⟩ = false := fun o => Rw.frozen_of HI3.out.r
         have HF := hid' (show Co.idle t = none by rw [HD.out, HL.out, HR.out]; rfl)
         go_wp2_with fail
         obtain ⟨hbx, hbl⟩ := HS.out
         generalize World.setCell _ _ _ = w9 at *
         obtain ⟨y0, y1, y2, y3⟩ := zza hbx
         refine bodyPost_ret (v := .tuple #[.agg #[.int .i64 8, .int .i64 n, .string s, .slice (some ⟨bl, off, none⟩) 2 c], .bool false]) (by simp [results, Tryz.results91, go_sem, y0, y1, y2, y3]) rfl ?_
         have hbb := HI3.out.below.trans (hbl w.heap.size (by omega))
         exact ⟨hbb, t, _, by rw [HF.out]; rfl, (HV.out.under hbb).old, fun x h => by rw [HF.out] at h; cases h⟩
     by_cases h10 : op = 10
     · subst h10
       obtain ⟨gl, hgl⟩ : ∃ g, Hid (false = g) := ⟨_, hid' rfl⟩
       obtain ⟨gr, hgr⟩ : ∃ g, Hid ((jop == 1 && jn == 1000000) = g) := ⟨_, hid' rfl⟩
       have HL := hid' (show Co.idleL 10 k j = gl by rw [← hgl.out]; rfl)
       have HR := hid' (show Co.idleR 10 k j = gr by unfold Co.idleR Co.isNum; rw [HJO.out.1, HJO.out.2, hgr.out]; rfl)
       go_wp2_with fail
       refine (optIsNum_any _ _ 1000000 _ _ _ _ _).mono ?_
       rintro e w3 ⟨rfl, b3⟩
       rw [hgr.out]
       have HI3 := hid' (HI.out.more b3)
       clear b3 d0 d1 d2 d3 x0 x1 x2 x3 z0 z1 z2 z3
       obtain ⟨d0, d1, d2, d3⟩ := zza HI3.out.c
       obtain ⟨x0, x1, x2, x3⟩ := zza HI3.out.a
       obtain ⟨z0, z1, z2, z3⟩ := zza HI3.out.b
       obtain rfl := hgl.out
       cases gr with
       | true =>
         obtain ⟨r0, r1, r2, r3⟩ := zza HI3.out.r
         have HS := hid' (set4 HI3.out.r (.int .i64 kop) (.int .i64 kn) (.string ks) (.slice kp klen kc))
         have f0 : ∀ o, w3.frozen? ⟨w.heap.size + 1, o, none⟩ = false := fun o => Rw.frozen_of HI3.out.r
         have HF := hid' (show Co.idle t = some k by rw [HD.out, HL.out, HR.out]; rfl)
         go_wp2_with fail
         obtain ⟨hbx, hbl⟩ := HS.out
         generalize World.setCell _ _ _ = w9 at *
         obtain ⟨y0, y1, y2, y3⟩ := zza hbx
         refine bodyPost_ret (v := .tuple #[.agg #[.int .i64 kop, .int .i64 kn, .string ks, .slice kp klen kc], .bool true]) (by simp [results, Tryz.results91, go_sem, y0, y1, y2, y3]) rfl ?_
         have hbb := HI3.out.below.trans (hbl w.heap.size (by omega))
         exact ⟨hbb, k, _, by rw [HF.out]; rfl, (kV.out.under hbb).old, fun x h => by rw [HF.out] at h; cases h; rfl⟩
       | false =>
         obtain ⟨r0, r1, r2, r3⟩ := zza HI3.out.r
         have HS := hid' (set4 HI3.out.r (.int .i64 10) (.int .i64 n) (.string s) (.slice (some ⟨bl, off, none⟩) 2 c))
         have f0 : ∀ o, w3.frozen? ⟨w.heap.size + 1, o, none⟩ = false := fun o => Rw.frozen_of HI3.out.r
         have HF := hid' (show Co.idle t = none by rw [HD.out, HL.out, HR.out]; rfl)
         go_wp2_with fail
         obtain ⟨hbx, hbl⟩ := HS.out
         generalize World.setCell _ _ _ = w9 at *
         obtain ⟨y0, y1, y2, y3⟩ := zza hbx
         refine bodyPost_ret (v := .tuple #[.agg #[.int .i64 10, .int .i64 n, .string s, .slice (some ⟨bl, off, none⟩) 2 c], .bool false]) (by simp [results, Tryz.results91, go_sem, y0, y1, y2, y3]) rfl ?_
         have hbb := HI3.out.below.trans (hbl w.heap.size (by omega))
         exact ⟨hbb, t, _, by rw [HF.out]; rfl, (HV.out.under hbb).old, fun x h => by rw [HF.out] at h; cases h⟩
     by_cases h27 : op = 27
     · subst h27
       obtain ⟨gl, hgl⟩ : ∃ g, Hid ((kop == 23) = g) := ⟨_, hid' rfl⟩
       obtain ⟨gr, hgr⟩ : ∃ g, Hid ((jop == 23) = g) := ⟨_, hid' rfl⟩
       have HL := hid' (show Co.idleL 27 k j = gl by unfold Co.idleL; rw [HKO.out.1, hgl.out]; rfl)
       have HR := hid' (show Co.idleR 27 k j = gr by unfold Co.idleR; rw [HJO.out.1, hgr.out]; rfl)
       have kl := hgl.out
       have kr := hgr.out
       go_wp2_with fail
       refine zqq (Below wx.heap.size wx) (by kernel_rfl) (by kernel_rfl) (Below.refl _ _).drew ?_
       repeat (first
         | (refine wpKeep_skip ?_ ?_
            · rfl
            simp only [Act.put, List.setIfInBounds_toArray, List.set_cons_zero, List.set_cons_succ])
         | (apply wpKeep_val
            · rfl
            · (intro w' hSw; obtain ⟨d0, d1, d2, d3⟩ := zza ((hSw.block _ (zzc HI.out.c)).trans HI.out.c); obtain ⟨x0, x1, x2, x3⟩ := zza ((hSw.block _ (zzc HI.out.a)).trans HI.out.a); obtain ⟨z0, z1, z2, z3⟩ := zza ((hSw.block _ (zzc HI.out.b)).trans HI.out.b); first | (go_simp; done) | (go_simp; with_reducible rfl))
            simp only [Act.put, List.setIfInBounds_toArray, List.set_cons_zero, List.set_cons_succ]))
       refine wpKeep_nil ?_
       intro w3 hS'
       have HI3 := hid' (HI.out.more hS')
       clear hS' d0 d1 d2 d3 x0 x1 x2 x3 z0 z1 z2 z3 kl kr
       obtain ⟨d0, d1, d2, d3⟩ := zza HI3.out.c
       obtain ⟨x0, x1, x2, x3⟩ := zza HI3.out.a
       obtain ⟨z0, z1, z2, z3⟩ := zza HI3.out.b
       cases gl with
       | true =>
         obtain ⟨r0, r1, r2, r3⟩ := zza HI3.out.r
         have HS := hid' (set4 HI3.out.r (.int .i64 jop) (.int .i64 jn) (.string js) (.slice jp jlen jc))
         have f0 : ∀ o, w3.frozen? ⟨w.heap.size + 1, o, none⟩ = false := fun o => Rw.frozen_of HI3.out.r
         have HF := hid' (show Co.idle t = some j by rw [HD.out, HL.out, HR.out]; rfl)
         go_wp2_with fail
         obtain ⟨hbx, hbl⟩ := HS.out
         generalize World.setCell _ _ _ = w9 at *
         obtain ⟨y0, y1, y2, y3⟩ := zza hbx
         refine bodyPost_ret (v := .tuple #[.agg #[.int .i64 jop, .int .i64 jn, .string js, .slice jp jlen jc], .bool true]) (by simp [results, Tryz.results91, go_sem, y0, y1, y2, y3]) rfl ?_
         have hbb := HI3.out.below.trans (hbl w.heap.size (by omega))
         exact ⟨hbb, j, _, by rw [HF.out]; rfl, (jV.out.under hbb).old, fun x h => by rw [HF.out] at h; cases h; rfl⟩
       | false =>
         cases gr with
         | true =>
           obtain ⟨r0, r1, r2, r3⟩ := zza HI3.out.r
           have HS := hid' (set4 HI3.out.r (.int .i64 kop) (.int .i64 kn) (.string ks) (.slice kp klen kc))
           have f0 : ∀ o, w3.frozen? ⟨w.heap.size + 1, o, none⟩ = false := fun o => Rw.frozen_of HI3.out.r
           have HF := hid' (show Co.idle t = some k by rw [HD.out, HL.out, HR.out]; rfl)
           go_wp2_with fail
           obtain ⟨hbx, hbl⟩ := HS.out
           generalize World.setCell _ _ _ = w9 at *
           obtain ⟨y0, y1, y2, y3⟩ := zza hbx
           refine bodyPost_ret (v := .tuple #[.agg #[.int .i64 kop, .int .i64 kn, .string ks, .slice kp klen kc], .bool true]) (by simp [results, Tryz.results91, go_sem, y0, y1, y2, y3]) rfl ?_
           have hbb := HI3.out.below.trans (hbl w.heap.size (by omega))
           exact ⟨hbb, k, _, by rw [HF.out]; rfl, (kV.out.under hbb).old, fun x h => by rw [HF.out] at h; cases h; rfl⟩
         | false =>
           obtain ⟨r0, r1, r2, r3⟩ := zza HI3.out.r
           have HS := hid' (set4 HI3.out.r (.int .i64 27) (.int .i64 n) (.string s) (.slice (some ⟨bl, off, none⟩) 2 c))
           have f0 : ∀ o, w3.frozen? ⟨w.heap.size + 1, o, none⟩ = false := fun o => Rw.frozen_of HI3.out.r
           have HF := hid' (show Co.idle t = none by rw [HD.out, HL.out, HR.out]; rfl)
           go_wp2_with fail
           obtain ⟨hbx, hbl⟩ := HS.out
           generalize World.setCell _ _ _ = w9 at *
           obtain ⟨y0, y1, y2, y3⟩ := zza hbx
           refine bodyPost_ret (v := .tuple #[.agg #[.int .i64 27, .int .i64 n, .string s, .slice (some ⟨bl, off, none⟩) 2 c], .bool false]) (by simp [results, Tryz.results91, go_sem, y0, y1, y2, y3]) rfl ?_
           have hbb := HI3.out.below.trans (hbl w.heap.size (by omega))
           exact ⟨hbb, t, _, by rw [HF.out]; rfl, (HV.out.under hbb).old, fun x h => by rw [HF.out] at h; cases h⟩
     by_cases h26 : op = 26
     · subst h26
       obtain ⟨g1, hg1⟩ : ∃ g, Hid ((kop == 1 && kn == 1000000) = g) := ⟨_, hid' rfl⟩
       obtain ⟨g2, hg2⟩ : ∃ g, Hid ((kop == 1) = g) := ⟨_, hid' rfl⟩
       obtain ⟨g3, hg3⟩ : ∃ g, Hid ((jop == 23) = g) := ⟨_, hid' rfl⟩
       have HL0 := hid' (show Co.idleL 26 k j = (g1 || (g2 && g3)) by unfold Co.idleL Co.isNum; rw [HKO.out.1, HKO.out.2, HJO.out.1, hg1.out, hg2.out, hg3.out]; rfl)
       have HR := hid' (show Co.idleR 26 k j = false from rfl)
       go_wp2_with fail
       refine (optIsNum_any _ _ 1000000 _ _ _ _ _).mono ?_
       rintro e w3 ⟨rfl, b3⟩
       rw [hg1.out]
       have HI3 := hid' (HI.out.more b3)
       clear b3 d0 d1 d2 d3 x0 x1 x2 x3 z0 z1 z2 z3
       obtain ⟨d0, d1, d2, d3⟩ := zza HI3.out.c
       obtain ⟨x0, x1, x2, x3⟩ := zza HI3.out.a
       obtain ⟨z0, z1, z2, z3⟩ := zza HI3.out.b
       have q2 := hg2.out
       have q3 := hg3.out
       cases g1 with
       | true =>
         have HL := hid' (show Co.idleL 26 k j = true from HL0.out)
         obtain ⟨r0, r1, r2, r3⟩ := zza HI3.out.r
         have HS := hid' (set4 HI3.out.r (.int .i64 jop) (.int .i64 jn) (.string js) (.slice jp jlen jc))
         have f0 : ∀ o, w3.frozen? ⟨w.heap.size + 1, o, none⟩ = false := fun o => Rw.frozen_of HI3.out.r
         have HF := hid' (show Co.idle t = some j by rw [HD.out, HL.out, HR.out]; rfl)
         go_wp2_with fail
         obtain ⟨hbx, hbl⟩ := HS.out
         generalize World.setCell _ _ _ = w9 at *
         obtain ⟨y0, y1, y2, y3⟩ := zza hbx
         refine bodyPost_ret (v := .tuple #[.agg #[.int .i64 jop, .int .i64 jn, .string js, .slice jp jlen jc], .bool true]) (by simp [results, Tryz.results91, go_sem, y0, y1, y2, y3]) rfl ?_
         have hbb := HI3.out.below.trans (hbl w.heap.size (by omega))
         exact ⟨hbb, j, _, by rw [HF.out]; rfl, (jV.out.under hbb).old, fun x h => by rw [HF.out] at h; cases h; rfl⟩
       | false =>
         cases g2 with
         | true =>
           cases g3 with
           | true =>
             have HL := hid' (show Co.idleL 26 k j = true from HL0.out)
             obtain ⟨r0, r1, r2, r3⟩ := zza HI3.out.r
             have HS := hid' (set4 HI3.out.r (.int .i64 jop) (.int .i64 jn) (.string js) (.slice jp jlen jc))
             have f0 : ∀ o, w3.frozen? ⟨w.heap.size + 1, o, none⟩ = false := fun o => Rw.frozen_of HI3.out.r
             have HF := hid' (show Co.idle t = some j by rw [HD.out, HL.out, HR.out]; rfl)
             go_wp2_with fail
             obtain ⟨hbx, hbl⟩ := HS.out
             generalize World.setCell _ _ _ = w9 at *
             obtain ⟨y0, y1, y2, y3⟩ := zza hbx
             refine bodyPost_ret (v := .tuple #[.agg #[.int .i64 jop, .int .i64 jn, .string js, .slice jp jlen jc], .bool true]) (by simp [results, Tryz.results91, go_sem, y0, y1, y2, y3]) rfl ?_
             have hbb := HI3.out.below.trans (hbl w.heap.size (by omega))
             exact ⟨hbb, j, _, by rw [HF.out]; rfl, (jV.out.under hbb).old, fun x h => by rw [HF.out] at h; cases h; rfl⟩
           | false =>
             have HL := hid' (show Co.idleL 26 k j = false from HL0.out)
             obtain ⟨r0, r1, r2, r3⟩ := zza HI3.out.r
             have HS := hid' (set4 HI3.out.r (.int .i64 26) (.int .i64 n) (.string s) (.slice (some ⟨bl, off, none⟩) 2 c))
             have f0 : ∀ o, w3.frozen? ⟨w.heap.size + 1, o, none⟩ = false := fun o => Rw.frozen_of HI3.out.r
             have HF := hid' (show Co.idle t = none by rw [HD.out, HL.out, HR.out]; rfl)
             go_wp2_with fail
             obtain ⟨hbx, hbl⟩ := HS.out
             generalize World.setCell _ _ _ = w9 at *
             obtain ⟨y0, y1, y2, y3⟩ := zza hbx
             refine bodyPost_ret (v := .tuple #[.agg #[.int .i64 26, .int .i64 n, .string s, .slice (some ⟨bl, off, none⟩) 2 c], .bool false]) (by simp [results, Tryz.results91, go_sem, y0, y1, y2, y3]) rfl ?_
             have hbb := HI3.out.below.trans (hbl w.heap.size (by omega))
             exact ⟨hbb, t, _, by rw [HF.out]; rfl, (HV.out.under hbb).old, fun x h => by rw [HF.out] at h; cases h⟩
         | false =>
           have HL := hid' (show Co.idleL 26 k j = false from HL0.out)
           obtain ⟨r0, r1, r2, r3⟩ := zza HI3.out.r
           have HS := hid' (set4 HI3.out.r (.int .i64 26) (.int .i64 n) (.string s) (.slice (some ⟨bl, off, none⟩) 2 c))
           have f0 : ∀ o, w3.frozen? ⟨w.heap.size + 1, o, none⟩ = false := fun o => Rw.frozen_of HI3.out.r
           have HF := hid' (show Co.idle t = none by rw [HD.out, HL.out, HR.out]; rfl)
           go_wp2_with fail
           obtain ⟨hbx, hbl⟩ := HS.out
           generalize World.setCell _ _ _ = w9 at *
           obtain ⟨y0, y1, y2, y3⟩ := zza hbx
           refine bodyPost_ret (v := .tuple #[.agg #[.int .i64 26, .int .i64 n, .string s, .slice (some ⟨bl, off, none⟩) 2 c], .bool false]) (by simp [results, Tryz.results91, go_sem, y0, y1, y2, y3]) rfl ?_
           have hbb := HI3.out.below.trans (hbl w.heap.size (by omega))
           exact ⟨hbb, t, _, by rw [HF.out]; rfl, (HV.out.under hbb).old, fun x h => by rw [HF.out] at h; cases h⟩
     have HL := hid' (show Co.idleL op k j = false by unfold Co.idleL; simp [h7, h9, h15, h16, h8, h10, h27, h26])
     have HR := hid' (show Co.idleR op k j = false by unfold Co.idleR; simp [h7, h9, h15, h16, h8, h10, h27, h26])
     have q7 : (op == 7) = false := by simpa using h7
     have q9 : (op == 9) = false := by simpa using h9
     have q15 : (op == 15) = false := by simpa using h15
     have q16 : (op == 16) = false := by simpa using h16
     have q8 : (op == 8) = false := by simpa using h8
     have q10 : (op == 10) = false := by simpa using h10
     have q27 : (op == 27) = false := by simpa using h27
     have q26 : (op == 26) = false := by simpa using h26
     clear h7 h9 h15 h16 h8 h10 h27 h26
     have HI3 := HI
     obtain ⟨r0, r1, r2, r3⟩ := zza HI3.out.r
     have HS := hid' (set4 HI3.out.r (.int .i64 op) (.int .i64 n) (.string s) (.slice (some ⟨bl, off, none⟩) 2 c))
     have f0 : ∀ o, wx.frozen? ⟨w.heap.size + 1, o, none⟩ = false := fun o => Rw.frozen_of HI3.out.r
     have HF := hid' (show Co.idle t = none by rw [HD.out, HL.out, HR.out]; rfl)
     go_wp2_with fail
     obtain ⟨hbx, hbl⟩ := HS.out
     generalize World.setCell _ _ _ = w9 at *
     obtain ⟨y0, y1, y2, y3⟩ := zza hbx
     refine bodyPost_ret (v := .tuple #[.agg #[.int .i64 op, .int .i64 n, .string s, .slice (some ⟨bl, off, none⟩) 2 c], .bool false]) (by simp [results, Tryz.results91, go_sem, y0, y1, y2, y3]) rfl ?_
     have hbb := HI3.out.below.trans (hbl w.heap.size (by omega))
     exact ⟨hbb, t, _, by rw [HF.out]; rfl, (HV.out.under hbb).old, fun x h => by rw [HF.out] at h; cases h⟩
 · have HF := hid' (show Co.idle t = none by unfold Co.idle; rw [HLN.out]; exact if_neg h2)
   have g2 : ((ln : Int) != 2) = true := by simp; omega
   clear h2
   have HS := hid' (set4 HR0.out (.int .i64 op) (.int .i64 n) (.string s) (.slice (some ⟨bl, off, none⟩) ln c))
   obtain ⟨r0, r1, r2, r3⟩ := zza HR0.out
   have f0 : ∀ o, w1.frozen? ⟨w.heap.size + 1, o, none⟩ = false := fun o => Rw.frozen_of HR0.out
   go_wp2_with fail
   obtain ⟨hbx, hbl⟩ := HS.out
   generalize World.setCell _ _ _ = w9 at *
   obtain ⟨y0, y1, y2, y3⟩ := zza hbx
   refine bodyPost_ret (v := .tuple #[.agg #[.int .i64 op, .int .i64 n, .string s, .slice (some ⟨bl, off, none⟩) ln c], .bool false]) (by simp [results, Tryz.results91, go_sem, y0, y1, y2, y3]) rfl ?_
   have hbb := HB0.out.trans (hbl w.heap.size (by omega))
   exact ⟨hbb, t, _, by rw [HF.out]; rfl, (HV.out.under hbb).old, fun x h => by rw [HF.out] at h; cases h⟩
end
section
open Go.RowKit
set_option maxRecDepth 100000
theorem never_value {ok : Nat → Prop} {w9 : World} {b : Nat} {k : Co.T} {n : Int} {kop kn : Int} {ks : ByteArray} {kp : Option Addr} {klen kc : Nat} (hb : w9.heap[b]? = some (.cells #[.int .i64 kop, .int .i64 kn, .string ks, .slice kp klen kc, .int .i64 23, .int .i64 0, .string ⟨#[]⟩, .slice none 0 0] 24 (0, 0)))
   (hk : CoreIn ok w9.drew k (.agg #[.int .i64 kop, .int .i64 kn, .string ks, .slice kp klen kc])) (hn : I64 n) (hob : ok b) : CoreIn ok w9.drew (.mk 30 n ⟨#[]⟩ [k, Co.leaf 23 0]) (.agg #[.int .i64 30, .int .i64 n, .string ⟨#[]⟩, .slice (some ⟨b, 0, none⟩) 2 2]) := by
 have hl := zzc hb
 have hc : ∀ (i : Nat) (v : Value), (#[.int .i64 kop, .int .i64 kn, .string ks, .slice kp klen kc, .int .i64 23, .int .i64 0, .string ⟨#[]⟩, .slice none 0 0] : Array Value)[i]? = some v → w9.drew.cell? ⟨b, i, none⟩ = some v := by
   intro i v h
   show w9.cell? _ = _
   unfold World.cell?
   simp only [hb]
   exact h
 refine CoreIn.close (ks := [k, Co.leaf 23 0]) ⟨Nat.le_refl 2, by decide⟩ (by unfold I64; omega) hn (by decide) (fun i j hj => ?_)
 match i with
 | 0 =>
   obtain rfl : k = j := by simpa using hj
   exact ⟨_, ⟨b, 0, _, _, _, _, rfl, hob, rfl, hc 0 _ rfl, hc 1 _ rfl, hc 2 _ rfl, hc 3 _ rfl⟩, hk⟩
 | 1 =>
   obtain rfl : Co.leaf 23 0 = j := by simpa using hj
   exact ⟨_, ⟨b, 0, _, _, _, _, rfl, hob, rfl, hc 4 _ rfl, hc 5 _ rfl, hc 6 _ rfl, hc 7 _ rfl⟩, coreAt_leaf (by unfold I64; omega) (by unfold I64; omega)⟩
 | _ + 2 => simp at hj
theorem Co.never_kid {t : Co.T} (e : t.op = 30) (hx : t.letter ≠ 0) : ∃ j, t.ks[1]? = some j := by
 obtain ⟨h1, -, -⟩ := Co.open_kids (t := t) (by rw [e]; decide) (by rw [e]; exact Co.want_30) hx
 obtain ⟨k, j, hk1, -⟩ := Co.two_kids h1
 exact ⟨j, by rw [hk1]; rfl⟩
set_option maxHeartbeats 4000000 in
theorem optNever_any (ok : Nat → Prop) (t : Co.T) (v : Value) (w : World) (hv : CoreIn ok w t v) (hx : t.letter ≠ 0) (h0 : 0 < t.ks.length) :
   Calls Tryz.prog 95 #[v] w (TermOut ok (Co.never t) w) := by
 obtain ⟨op, n, s, p, ln, c, rfl, hop, hn, hs, hln⟩ := zzu hv
 have HV := hid' hv
 obtain ⟨bl, off, rfl, hrows⟩ := open_rows hv h0
 have hb0 := heap_alloc_new w (.cells #[.int .i64 op, .int .i64 n, .string s, .slice (some ⟨bl, off, none⟩) ln c] 24)
 have hr0 := heap_alloc_new (w.alloc (.cells #[.int .i64 op, .int .i64 n, .string s, .slice (some ⟨bl, off, none⟩) ln c] 24)) (.cells #[.int .i64 0, .int .i64 0, .string ⟨#[]⟩, .slice none 0 0] 24)
 simp only [World.size_alloc] at hr0
 have hB0 : Below w.heap.size w ((w.alloc (.cells #[.int .i64 op, .int .i64 n, .string s, .slice (some ⟨bl, off, none⟩) ln c] 24)).alloc (.cells #[.int .i64 0, .int .i64 0, .string ⟨#[]⟩, .slice none 0 0] 24)) := ((Below.refl w.heap.size w).alloc (Nat.le_refl _) _).alloc (by simp) _
 have hc0 := (((Below.refl _ (w.alloc (.cells #[.int .i64 op, .int .i64 n, .string s, .slice (some ⟨bl, off, none⟩) ln c] 24))).alloc (Nat.le_refl _) (.cells #[.int .i64 0, .int .i64 0, .string ⟨#[]⟩, .slice none 0 0] 24)).block w.heap.size (by simp)).trans hb0
 have j0 : (0 : Int) < (ln : Int) := by omega
 have HOP := hid' hop
 have HN := hid' hn
 have HLN := hid' hln
 have HROWS := hid' hrows
 have HX := hid' hx
 have H0 := hid' h0
 clear hb0 hop hn hs hln hrows hx h0 hv
 go_enter Tryz.func95, Tryz.ntmps95
 go_upto_region 1 with (fail)
 generalize World.alloc _ _ = w1 at *
 have HB0 := hid' hB0
 have HR0 := hid' hr0
 have HC0 := hid' hc0
 obtain ⟨k, kat⟩ : ∃ k, t.ks[0]? = some k := ⟨_, List.getElem?_eq_getElem H0.out⟩
 obtain ⟨kop, kn, ks, kp, klen, kc, kH⟩ := HROWS.out 0 k kat
 have kK := hid' (kH.below hB0)
 have kV := hid' kH.val
 have kLT := hid' kH.lt
 clear kH
 clear hr0 hB0
 obtain ⟨d0, d1, d2, d3⟩ := zza HC0.out
 have KAT := hid' kat
 clear hc0 kat
 have kx0 := kK.out.x0
 have kx1 := kK.out.x1
 have kx2 := kK.out.x2
 have kx3 := kK.out.x3
 simp only [Nat.zero_mul, Nat.add_zero, Nat.one_mul] at kx0 kx1 kx2 kx3
 have eK : t.kid 0 = k := by unfold Co.T.kid; rw [KAT.out]; rfl
 by_cases h : op = 30
 · subst h
   obtain ⟨j, hj⟩ := Co.never_kid HOP.out HX.out
   have eJ : t.kid 1 = j := by unfold Co.T.kid; rw [hj]; rfl
   have hln2 : 2 ≤ ln := by rw [← HLN.out]; exact (List.getElem?_eq_some_iff.1 hj).1
   obtain ⟨jop, jn, js, jp, jlen, jc, jH⟩ := HROWS.out 1 j hj
   have jK := hid' (jH.below HB0.out)
   have jV := hid' jH.val
   clear jH
   have jx0 := jK.out.x0
   have jx1 := jK.out.x1
   have jx2 := jK.out.x2
   have jx3 := jK.out.x3
   simp only [Nat.zero_mul, Nat.add_zero, Nat.one_mul] at jx0 jx1 jx2 jx3
   have HD := hid' (show Co.never t = if (kop == 2 && kn == 0) = true ∧ jop ≠ 23 then some (.mk 30 n ⟨#[]⟩ [k, Co.leaf 23 0]) else none by
     unfold Co.never Co.isBool
     rw [eK, eJ, HOP.out, HN.out, kK.out.op', kK.out.n', jK.out.op']
     by_cases h : (kop == 2 && kn == 0) = true ∧ jop ≠ 23
     · rw [if_pos h, if_pos ⟨rfl, h⟩]
     · rw [if_neg h, if_neg (fun h' => h h'.2)])
   have j1 : (1 : Int) < (ln : Int) := by omega
   clear eK eJ hj hln2
   cases hg : (kop == 2 && kn == 0) with
   | false =>
     have HF := hid' (show Co.never t = none by rw [HD.out, hg]; simp)
     go_wp2_with fail
     refine (zqc _ _ 0 _ _ _ _ _).mono ?_
     rintro e w2 ⟨rfl, b2⟩
     rw [hg]
     have HB2 := hid' (Below.more HB0.out b2)
     have HR2 := hid' ((b2.block _ (zzc HR0.out)).trans HR0.out)
     have HC2 := hid' ((b2.block _ (zzc HC0.out)).trans HC0.out)
     clear b2 d0 d1 d2 d3
     obtain ⟨d0, d1, d2, d3⟩ := zza HC2.out
     have HS := hid' (set4 HR2.out (.int .i64 30) (.int .i64 n) (.string s) (.slice (some ⟨bl, off, none⟩) ln c))
     obtain ⟨r0, r1, r2, r3⟩ := zza HR2.out
     have f0 : ∀ o, w2.frozen? ⟨w.heap.size + 1, o, none⟩ = false := fun o => Rw.frozen_of HR2.out
     go_wp2_with fail
     obtain ⟨hbx, hbl⟩ := HS.out
     generalize World.setCell _ _ _ = w9 at *
     obtain ⟨y0, y1, y2, y3⟩ := zza hbx
     refine bodyPost_ret (v := .tuple #[.agg #[.int .i64 30, .int .i64 n, .string s, .slice (some ⟨bl, off, none⟩) ln c], .bool false]) (by simp [results, Tryz.results95, go_sem, y0, y1, y2, y3]) rfl ?_
     have hbb := HB2.out.trans (hbl w.heap.size (by omega))
     exact ⟨hbb, t, _, by rw [HF.out]; rfl, (HV.out.under hbb).old, fun x h => by rw [HF.out] at h; cases h⟩
   | true =>
     go_wp2_with fail
     refine (zqc _ _ 0 _ _ _ _ _).mono ?_
     rintro e w2 ⟨rfl, b2⟩
     rw [hg]
     have HB2 := hid' (Below.more HB0.out b2)
     have HR2 := hid' ((b2.block _ (zzc HR0.out)).trans HR0.out)
     have HC2 := hid' ((b2.block _ (zzc HC0.out)).trans HC0.out)
     have kK2 := hid' (kK.out.below b2)
     have jK2 := hid' (jK.out.below b2)
     clear b2 d0 d1 d2 d3 kx0 kx1 kx2 kx3 jx0 jx1 jx2 jx3
     obtain ⟨d0, d1, d2, d3⟩ := zza HC2.out
     have kx0 := kK2.out.x0
     have kx1 := kK2.out.x1
     have kx2 := kK2.out.x2
     have kx3 := kK2.out.x3
     simp only [Nat.zero_mul, Nat.add_zero, Nat.one_mul] at kx0 kx1 kx2 kx3
     have jx0 := jK2.out.x0
     have jx1 := jK2.out.x1
     have jx2 := jK2.out.x2
     have jx3 := jK2.out.x3
     simp only [Nat.zero_mul, Nat.add_zero, Nat.one_mul] at jx0 jx1 jx2 jx3
     by_cases h23 : jop = 23
     · have HF := hid' (show Co.never t = none by rw [HD.out, hg]; simp [h23])
       subst h23
       have HS := hid' (set4 HR2.out (.int .i64 30) (.int .i64 n) (.string s) (.slice (some ⟨bl, off, none⟩) ln c))
       obtain ⟨r0, r1, r2, r3⟩ := zza HR2.out
       have f0 : ∀ o, w2.frozen? ⟨w.heap.size + 1, o, none⟩ = false := fun o => Rw.frozen_of HR2.out
       go_wp2_with fail
       obtain ⟨hbx, hbl⟩ := HS.out
       generalize World.setCell _ _ _ = w9 at *
       obtain ⟨y0, y1, y2, y3⟩ := zza hbx
       refine bodyPost_ret (v := .tuple #[.agg #[.int .i64 30, .int .i64 n, .string s, .slice (some ⟨bl, off, none⟩) ln c], .bool false]) (by simp [results, Tryz.results95, go_sem, y0, y1, y2, y3]) rfl ?_
       have hbb := HB2.out.trans (hbl w.heap.size (by omega))
       exact ⟨hbb, t, _, by rw [HF.out]; rfl, (HV.out.under hbb).old, fun x h => by rw [HF.out] at h; cases h⟩
     · have HF := hid' (show Co.never t = some (.mk 30 n ⟨#[]⟩ [k, Co.leaf 23 0]) by rw [HD.out, hg]; simp [h23])
       have g23 : (jop == 23) = false := by simpa using h23
       clear h23
       go_wp2_with fail
       obtain ⟨r0, r1, r2, r3⟩ := zza HR2.out
       have f0 : ∀ o, w2.frozen? ⟨w.heap.size + 1, o, none⟩ = false := fun o => Rw.frozen_of HR2.out
       have n0 := World.new_ne w2 _ d1
       have n1 := World.new_ne w2 _ d3
       have n2 := World.new_ne w2 _ kx0
       have n3 := World.new_ne w2 _ kx1
       have n4 := World.new_ne w2 _ kx2
       have n5 := World.new_ne w2 _ kx3
       have n6 := World.new_ne w2 _ r0
       have n7 : bl ≠ w.heap.size + 1 := by have := kLT.out; omega
       have n8 : w.heap.size + 1 ≠ bl := fun e => n7 e.symm
       have n9 : (w.heap.size + 1 = bl) = False := eq_false n8
       have j0n : 0 < ln := by omega
       have HA := fun (ob : Obj) => ((Below.refl w2.heap.size w2).alloc (Nat.le_refl _) ob).block (w.heap.size + 1) (zzc HR2.out) |>.trans HR2.out
       have f1 : ∀ (ob : Obj) o, (w2.alloc ob).frozen? ⟨w.heap.size + 1, o, none⟩ = false := fun ob o => Rw.frozen_of (HA ob)
       have f2 : ∀ (ob : Obj) o, (w2.alloc ob).drew.frozen? ⟨w.heap.size + 1, o, none⟩ = false := fun ob o => Rw.frozen_of (HA ob)
       have g0 : ∀ (ob : Obj), (w2.alloc ob).cell? ⟨w.heap.size + 1, 0, none⟩ = some (.int .i64 0) := fun ob => (zza (HA ob)).1
       have g1 : ∀ (ob : Obj), (w2.alloc ob).cell? ⟨w.heap.size + 1, 1, none⟩ = some (.int .i64 0) := fun ob => (zza (HA ob)).2.1
       have g2 : ∀ (ob : Obj), (w2.alloc ob).cell? ⟨w.heap.size + 1, 2, none⟩ = some (.string ⟨#[]⟩) := fun ob => (zza (HA ob)).2.2.1
       have g3 : ∀ (ob : Obj), (w2.alloc ob).cell? ⟨w.heap.size + 1, 3, none⟩ = some (.slice none 0 0) := fun ob => (zza (HA ob)).2.2.2
       have HHA := hid' HA
       clear HA
       go_region_held3 (fun w' => w'.cell? ⟨w.heap.size, 1, none⟩ = some (.int .i64 n) ∧ w'.cell? ⟨w.heap.size, 3, none⟩ = some (.slice (some ⟨bl, off, none⟩) ln c) ∧ w'.cell? ⟨bl, off, none⟩ = some (.int .i64 kop) ∧ w'.cell? ⟨bl, off + 1, none⟩ = some (.int .i64 kn) ∧ w'.cell? ⟨bl, off + 2, none⟩ = some (.string ks) ∧ w'.cell? ⟨bl, off + 3, none⟩ = some (.slice kp klen kc))
         (first | exact ⟨zqk d1, zqk d3, zqk kx0, zqk kx1, zqk kx2, zqk kx3⟩ | go_keep | simp [*]) (fail)
       all_goals go_wp2_with fail
       clear f1 f2 g0 g1 g2 g3
       have HS := set4 (HHA.out (.cells #[.int .i64 kop, .int .i64 kn, .string ks, .slice kp klen kc, .int .i64 23, .int .i64 0, .string ⟨#[]⟩, .slice none 0 0] 24)) (.int .i64 30) (.int .i64 n) (.string ⟨#[]⟩) (.slice (some ⟨w2.heap.size, 0, none⟩) 2 2)
       have HG := (grown4 (w2.alloc (.cells #[.int .i64 kop, .int .i64 kn, .string ks, .slice kp klen kc, .int .i64 23, .int .i64 0, .string ⟨#[]⟩, .slice none 0 0] 24)) (w.heap.size + 1) (.int .i64 30) (.int .i64 n) (.string ⟨#[]⟩) (.slice (some ⟨w2.heap.size, 0, none⟩) 2 2)).block w2.heap.size (by simp) (fun e => by simp at e; have := zzc HR2.out; omega)
       rw [heap_alloc_new] at HG
       have HAB : Below w2.heap.size w2 (w2.alloc (.cells #[.int .i64 kop, .int .i64 kn, .string ks, .slice kp klen kc, .int .i64 23, .int .i64 0, .string ⟨#[]⟩, .slice none 0 0] 24)) := (Below.refl _ _).alloc (Nat.le_refl _) _
       obtain ⟨hbx, hbl⟩ := HS
       have hbb0 := HB2.out.trans ((HAB.mono HB2.out.size).trans (hbl w.heap.size (by omega)))
       clear hbl HAB HHA
       generalize World.setCell _ _ _ = w9 at *
       have hbb : Below w.heap.size w w9.drew := hbb0.drew
       obtain ⟨y0, y1, y2, y3⟩ := zza hbx
       refine bodyPost_ret (v := .tuple #[.agg #[.int .i64 30, .int .i64 n, .string ⟨#[]⟩, .slice (some ⟨w2.heap.size, 0, none⟩) 2 2], .bool true]) (by simp [results, Tryz.results95, go_sem, y0, y1, y2, y3]) rfl ?_
       refine ⟨hbb, _, _, by rw [HF.out]; rfl, ?_, fun x h => by rw [HF.out] at h; cases h; rfl⟩
       exact never_value HG ((kV.out.under hbb).old) (by obtain ⟨-, -, -, -, -, h, -⟩ := HV.out.open; rw [HN.out] at h; exact h) (.inr HB2.out.size)
 · have HF := hid' (show Co.never t = none by unfold Co.never; rw [HOP.out]; exact if_neg (fun h' => h h'.1))
   have gk : (op != 30) = true := by simpa using h
   clear h eK
   have HS := hid' (set4 HR0.out (.int .i64 op) (.int .i64 n) (.string s) (.slice (some ⟨bl, off, none⟩) ln c))
   obtain ⟨r0, r1, r2, r3⟩ := zza HR0.out
   have f0 : ∀ o, w1.frozen? ⟨w.heap.size + 1, o, none⟩ = false := fun o => Rw.frozen_of HR0.out
   go_wp2_with fail
   obtain ⟨hbx, hbl⟩ := HS.out
   generalize World.setCell _ _ _ = w9 at *
   obtain ⟨y0, y1, y2, y3⟩ := zza hbx
   refine bodyPost_ret (v := .tuple #[.agg #[.int .i64 op, .int .i64 n, .string s, .slice (some ⟨bl, off, none⟩) ln c], .bool false]) (by simp [results, Tryz.results95, go_sem, y0, y1, y2, y3]) rfl ?_
   have hbb := HB0.out.trans (hbl w.heap.size (by omega))
   exact ⟨hbb, t, _, by rw [HF.out]; rfl, (HV.out.under hbb).old, fun x h => by rw [HF.out] at h; cases h⟩
end
section
open Go.RowKit
set_option maxRecDepth 100000
def ruleF (i : Nat) : Nat := match i with
 | 0 => 89
 | 1 => 90
 | 2 => 91
 | 3 => 92
 | 4 => 93
 | 5 => 94
 | _ => 95
def ruleV (i : Nat) : Value := .func (.func (ruleF i)) #[] #[]
structure RuleAsk (t : Co.T) : Prop where
 letter : t.letter ≠ 0
 some' : 0 < t.ks.length
theorem Co.kids_len {t : Co.T} (h : t.letter ≠ 0) : t.ks.length ≤ 3 := by
 obtain ⟨op, n, s, ks⟩ := t
 by_cases h22 : op = 22
 · subst h22
   obtain ⟨a, b, c, rfl, -⟩ := (Co.letter_22 h).1 rfl
   exact Nat.le_refl 3
 · obtain ⟨hw, -⟩ := Co.letter_inv rfl h h22
   have hl : ks.length = (ks.map Co.T.letter).length := (List.length_map ..).symm
   show ks.length ≤ 3
   rw [hl]
   generalize ks.map Co.T.letter = l at *
   generalize (Co.T.mk op n s ks).letter = x at *
   rcases Co.op_cases (Co.want_in hw) with rfl | rfl | rfl | rfl | rfl | rfl | rfl | rfl | rfl | rfl | rfl | rfl | rfl | rfl | rfl | rfl | rfl | rfl | rfl | rfl | rfl | rfl | rfl | rfl | rfl | rfl | rfl | rfl | rfl | rfl | rfl
   all_goals simp only [Co.want_1, Co.want_2, Co.want_3, Co.want_4, Co.want_5, Co.want_6, Co.want_7, Co.want_8, Co.want_9, Co.want_10, Co.want_11, Co.want_12, Co.want_13, Co.want_14, Co.want_15, Co.want_16, Co.want_17, Co.want_18, Co.want_19, Co.want_20, Co.want_21, Co.want_22, Co.want_23, Co.want_24, Co.want_25, Co.want_26, Co.want_27, Co.want_28, Co.want_29, Co.want_30, Co.want_31, Option.some.injEq, Prod.mk.injEq] at hw
   all_goals
     obtain ⟨rfl, -⟩ := hw
     decide
theorem Co.n_range {t : Co.T} (h : t.letter ≠ 0) : -1000000000000000 ≤ t.n ∧ t.n ≤ 1000000000000000 := by
 obtain ⟨op, n, s, ks⟩ := t
 by_cases h22 : op = 22
 · subst h22
   obtain ⟨a, b, c, rfl, -, -, -, -, hf⟩ := (Co.letter_22 h).1 rfl
   exact Co.fields_range hf
 · exact Co.fields_range (Co.letter_inv rfl h h22).2
theorem rule_any (ok : Nat → Prop) (i : Nat) (hi : i < 7) (t : Co.T) (v : Value) (w : World) (hv : CoreIn ok w t v) (h : RuleAsk t) : Calls Tryz.prog (ruleF i) #[v] w (TermOut ok (Co.rule i t) w) := by
 rcases (by omega : i = 0 ∨ i = 1 ∨ i = 2 ∨ i = 3 ∨ i = 4 ∨ i = 5 ∨ i = 6) with rfl | rfl | rfl | rfl | rfl | rfl | rfl
 · exact optFold_any ok t v w hv (Co.kids_len h.letter) (fun k hk => Co.n_range (by obtain ⟨o, n, s, ks⟩ := t; exact Co.kids_ne h.letter k hk))
 · exact optTwice_any ok t v w hv h.letter h.some'
 · exact optIdle_any ok t v w hv h.letter h.some'
 · exact optSettled_any ok t v w hv h.letter h.some'
 · exact optLater_any ok t v w hv h.letter h.some'
 · exact optChosen_any ok t v w hv h.letter h.some'
 · exact optNever_any ok t v w hv h.letter h.some'
def ruleC : Array Value := #[.int .i64 1, ruleV 0, .int .i64 2, ruleV 1, .int .i64 2, ruleV 2, .int .i64 2, ruleV 3, .int .i64 2, ruleV 4, .int .i64 4, ruleV 5, .int .i64 4, ruleV 6]
def RulesAt (W : World) (b : Nat) : Prop := W.heap[b]? = some (.cells ruleC 131 (0, 0))
theorem rules_any (w : World) : Calls Tryz.prog 46 #[] w fun e w' => e = .returned (.slice (some ⟨w.heap.size, 0, none⟩) 7 7) ∧ Below w.heap.size w w' ∧ RulesAt w' w.heap.size := by
 go_enter Tryz.func46, Tryz.ntmps46
 go_wp2_with fail
 go_ret
 refine ⟨rfl, (Below.refl _ _).alloc (Nat.le_refl _) _, heap_alloc_new w _⟩
theorem mask_on (p : Int) (i : Nat) (hi : i < 7) (hp : 0 ≤ p ∧ p ≤ 15) : (bits BinOp.and IntKind.i64 p (Co.bit i) == 0) = !Co.on p i := by
 obtain ⟨h1, h2⟩ := hp
 rcases (by omega : p = 0 ∨ p = 1 ∨ p = 2 ∨ p = 3 ∨ p = 4 ∨ p = 5 ∨ p = 6 ∨ p = 7 ∨ p = 8 ∨ p = 9 ∨ p = 10 ∨ p = 11 ∨ p = 12 ∨ p = 13 ∨ p = 14 ∨ p = 15) with rfl | rfl | rfl | rfl | rfl | rfl | rfl | rfl | rfl | rfl | rfl | rfl | rfl | rfl | rfl | rfl
 all_goals
   rcases (by omega : i = 0 ∨ i = 1 ∨ i = 2 ∨ i = 3 ∨ i = 4 ∨ i = 5 ∨ i = 6) with rfl | rfl | rfl | rfl | rfl | rfl | rfl
   all_goals kernel_rfl
set_option maxHeartbeats 4000000 in
theorem closure_one (ok : Nat → Prop) (i : Nat) (hi : i < 7) (pass p : Int) (hpass : pass = Co.bit i) (hp : 0 ≤ p ∧ p ≤ 15) (t : Co.T) (v : Value) (pb : Nat) (w : World) (hok : ∀ b, ok b → b < w.heap.size) (hv : CoreIn ok w t v) (h : RuleAsk t) (hb : w.cell? ⟨pb, 0, none⟩ = some (.int .i64 p)) :
   Calls Tryz.prog 88 #[.agg #[.int .i64 pass, ruleV i], v, .pointer (some ⟨pb, 0, none⟩)] w (TermOut ok (Co.try1 p i t) w) := by
 obtain ⟨op, n, s, q, ln, c, rfl, hop, hn, hs, hln⟩ := zzu hv
 have HV := hid' hv
 have hx0 := (((Below.refl _ w).alloc (Nat.le_refl _) (.cells #[.int .i64 pass, ruleV i] 131)))
 have hx1 := hx0.alloc (by simp) (.cells #[.int .i64 op, .int .i64 n, .string s, .slice q ln c] 24)
 have hx2 := hx1.alloc (by simp; omega) (.cells #[.int .i64 0, .int .i64 0, .string ⟨#[]⟩, .slice none 0 0] 24)
 have y0 := heap_alloc_new w (.cells #[.int .i64 pass, ruleV i] 131)
 have y1 := heap_alloc_new (w.alloc (.cells #[.int .i64 pass, ruleV i] 131)) (.cells #[.int .i64 op, .int .i64 n, .string s, .slice q ln c] 24)
 have y2 := heap_alloc_new ((w.alloc (.cells #[.int .i64 pass, ruleV i] 131)).alloc (.cells #[.int .i64 op, .int .i64 n, .string s, .slice q ln c] 24)) (.cells #[.int .i64 0, .int .i64 0, .string ⟨#[]⟩, .slice none 0 0] 24)
 have z1 : ∀ (W : World) (o : Obj) (k : Nat) (x : Obj), W.heap[k]? = some x → (W.alloc o).heap[k]? = some x := fun W o k x h => (((Below.refl W.heap.size W).alloc (Nat.le_refl _) o).block k (zzc h)).trans h
 replace y0 := z1 _ (.cells #[.int .i64 0, .int .i64 0, .string ⟨#[]⟩, .slice none 0 0] 24) _ _ (z1 _ (.cells #[.int .i64 op, .int .i64 n, .string s, .slice q ln c] 24) _ _ y0)
 replace y1 := z1 _ (.cells #[.int .i64 0, .int .i64 0, .string ⟨#[]⟩, .slice none 0 0] 24) _ _ y1
 simp only [World.size_alloc] at y1 y2
 have hp1 := (hx2.cell (p := ⟨pb, 0, none⟩) (World.block_lt_of_cell? w _ hb)).trans hb
 have HP := hid' hpass
 have HPP := hid' hp
 have HA := hid' h
 clear hx0 hx1 z1 hpass hp h hop hn hs hln hv hb
 go_enter Tryz.func88, Tryz.ntmps88
 go_upto_region 1 with (fail)
 generalize World.alloc _ _ = w1 at *
 have HY := hid' (And.intro y0 (And.intro y1 y2))
 have HX := hid' hx2
 have r0 : w1.cell? ⟨w.heap.size, 0, none⟩ = some (.int .i64 pass) := by simp [World.cell?, y0]
 have r1 : w1.cell? ⟨w.heap.size, 1, none⟩ = some (ruleV i) := by simp [World.cell?, y0]
 obtain ⟨c0, c1, c2, c3⟩ := zza y1
 obtain ⟨e0, e1, e2, e3⟩ := zza y2
 have f0 : ∀ o, w1.frozen? ⟨w.heap.size + 1 + 1, o, none⟩ = false := fun o => Rw.frozen_of HY.out.2.2
 have HS := hid' (set4 HY.out.2.2 (.int .i64 op) (.int .i64 n) (.string s) (.slice q ln c))
 clear y0 y1 y2 hx2
 cases hon : Co.on p i with
 | false =>
   have g0 : (bits BinOp.and IntKind.i64 p pass == 0) = true := by rw [HP.out, mask_on p i hi HPP.out, hon]; rfl
   have HF := hid' (show Co.try1 p i t = none by unfold Co.try1; rw [hon]; rfl)
   go_wp2_with fail
   obtain ⟨hbx, hbl⟩ := HS.out
   generalize World.setCell _ _ _ = w9 at *
   obtain ⟨y0, y1, y2, y3⟩ := zza hbx
   refine bodyPost_ret (v := .tuple #[.agg #[.int .i64 op, .int .i64 n, .string s, .slice q ln c], .bool false]) (by simp [results, Tryz.results88, go_sem, y0, y1, y2, y3]) rfl ?_
   have hbb := HX.out.trans (hbl w.heap.size (by omega))
   exact ⟨hbb, t, _, by rw [HF.out]; rfl, (HV.out.under hbb).old, fun x h => by rw [HF.out] at h; cases h⟩
 | true =>
   have g0 : (bits BinOp.and IntKind.i64 p pass == 0) = false := by rw [HP.out, mask_on p i hi HPP.out, hon]; rfl
   have HF := hid' (show Co.try1 p i t = Co.rule i t by unfold Co.try1; rw [hon]; rfl)
   have HRULE := hid' (fun W (hb : Below w.heap.size w W) => rule_any ok i hi t _ W (HV.out.under hb) HA.out)
   obtain ⟨ro, hro⟩ : ∃ ro, Hid (Co.rule i t = ro) := ⟨_, hid' rfl⟩
   rw [hro.out] at HRULE HF
   have HOK := hid' hok
   clear HS hok
   rcases (by omega : i = 0 ∨ i = 1 ∨ i = 2 ∨ i = 3 ∨ i = 4 ∨ i = 5 ∨ i = 6) with rfl | rfl | rfl | rfl | rfl | rfl | rfl
   all_goals
     simp only [ruleV, ruleF] at r1
     go_wp2_with fail
     refine (HRULE.out _ HX.out).mono ?_
     rintro e w5 ⟨b5, u, vv, rfl, hu, hux⟩
     obtain ⟨uop, un, us, up, ul, uc, rfl, -, -, -, -⟩ := zzu hu
     have HR5 := hid' ((b5.block _ (zzc HY.out.2.2)).trans HY.out.2.2)
     have HB5 := hid' (HX.out.trans (b5.mono HX.out.size))
     have HU := hid' hu
     have HUX := hid' hux
     clear r0 r1 c0 c1 c2 c3 e0 e1 e2 e3 f0 hp1
     obtain ⟨e0, e1, e2, e3⟩ := zza HR5.out
     have f0 : ∀ o, w5.frozen? ⟨w.heap.size + 1 + 1, o, none⟩ = false := fun o => Rw.frozen_of HR5.out
     have HS := hid' (And.intro (set4 HR5.out (.int .i64 uop) (.int .i64 un) (.string us) (.slice up ul uc)) (grown4 w5 (w.heap.size + 1 + 1) (.int .i64 uop) (.int .i64 un) (.string us) (.slice up ul uc)))
     clear b5 hu hux
     obtain ⟨bo, hbo⟩ : ∃ bo, Hid (ro.isSome = bo) := ⟨_, hid' rfl⟩
     rw [hbo.out]
     go_wp2_with fail
     obtain ⟨⟨hbx, hbl⟩, hg⟩ := HS.out
     generalize World.setCell _ _ _ = w9 at *
     obtain ⟨y0, y1, y2, y3⟩ := zza hbx
     refine bodyPost_ret (v := .tuple #[.agg #[.int .i64 uop, .int .i64 un, .string us, .slice up ul uc], .bool bo]) (by simp [results, Tryz.results88, go_sem, y0, y1, y2, y3]) rfl ?_
     refine ⟨HB5.out.trans (hbl w.heap.size (by omega)), u, _, by rw [HF.out, hbo.out], HU.out.keep (fun b hb hl => ⟨?_, hg.block b hl (fun e => ?_)⟩), fun x h => HUX.out x (by rw [← HF.out]; exact h)⟩
     · exact hb.imp id (fun h => Nat.le_trans HX.out.size h)
     · obtain rfl : w.heap.size + 1 + 1 = b := by simpa using e.symm
       rcases hb with hb | hb
       · have := HOK.out _ hb; omega
       · have := zzc HY.out.2.2; omega
end
section
open Go.RowKit
set_option maxRecDepth 100000
attribute [local go_sem] zzo
theorem ruleC_at (i : Nat) (hi : i < 7) : ruleC[i * 2]? = some (.int .i64 (Co.bit i)) ∧ ruleC[i * 2 + 1]? = some (ruleV i) := by
 rcases (by omega : i = 0 ∨ i = 1 ∨ i = 2 ∨ i = 3 ∨ i = 4 ∨ i = 5 ∨ i = 6) with rfl | rfl | rfl | rfl | rfl | rfl | rfl
 all_goals exact ⟨rfl, rfl⟩
structure FirstIt (w : World) (C : Array Value) (p : Int) (t : Co.T) (F : Option Co.T) (i : Nat) (wr : World) : Prop where
 below : Below w.heap.size w wr
 c : wr.heap[w.heap.size]? = some (.cells C 24 (0, 0))
 r : wr.heap[w.heap.size + 1]? = some (.cells #[.int .i64 0, .int .i64 0, .string ⟨#[]⟩, .slice none 0 0] 24 (0, 0))
 rest : Co.fitFrom p t (7 - i) i = F
theorem FirstIt.more {w : World} {C : Array Value} {p : Int} {t : Co.T} {F : Option Co.T} {i j : Nat} {W W' : World} (h : FirstIt w C p t F i W) (hb : Below W.heap.size W W') (hr : Co.fitFrom p t (7 - j) j = F) : FirstIt w C p t F j W' :=
 ⟨h.below.trans (hb.mono h.below.size), (hb.block _ (zzc h.c)).trans h.c, (hb.block _ (zzc h.r)).trans h.r, hr⟩
set_option maxHeartbeats 4000000 in
theorem first_any (ok : Nat → Prop) (t : Co.T) (v : Value) (rb pb : Nat) (p : Int) (w : World) (hok : ∀ b, ok b → b < w.heap.size) (hv : CoreIn ok w t v) (h : RuleAsk t) (hp : 0 ≤ p ∧ p ≤ 15) (hb : w.cell? ⟨pb, 0, none⟩ = some (.int .i64 p)) (hr : RulesAt w rb) :
   Calls Tryz.prog 87 #[.slice (some ⟨rb, 0, none⟩) 7 7, v, .func (.func 88) #[] #[.pointer (some ⟨pb, 0, none⟩)]] w (TermOut ok (Co.fit p t) w) := by
 obtain ⟨op, n, s, q, ln, c, rfl, hop, hn, hs, hln⟩ := zzu hv
 have HV := hid' hv
 obtain ⟨F, hF⟩ : ∃ F, Hid (Co.fit p t = F) := ⟨_, hid' rfl⟩
 rw [hF.out]
 have hx0 := ((Below.refl _ w).alloc (Nat.le_refl _) (.cells #[.int .i64 op, .int .i64 n, .string s, .slice q ln c] 24))
 have hx1 := hx0.alloc (by simp) (.cells #[.int .i64 0, .int .i64 0, .string ⟨#[]⟩, .slice none 0 0] 24)
 have y0 := heap_alloc_new w (.cells #[.int .i64 op, .int .i64 n, .string s, .slice q ln c] 24)
 have y1 := heap_alloc_new (w.alloc (.cells #[.int .i64 op, .int .i64 n, .string s, .slice q ln c] 24)) (.cells #[.int .i64 0, .int .i64 0, .string ⟨#[]⟩, .slice none 0 0] 24)
 have z1 : ∀ (W : World) (o : Obj) (k : Nat) (x : Obj), W.heap[k]? = some x → (W.alloc o).heap[k]? = some x := fun W o k x h => (((Below.refl W.heap.size W).alloc (Nat.le_refl _) o).block k (zzc h)).trans h
 replace y0 := z1 _ (.cells #[.int .i64 0, .int .i64 0, .string ⟨#[]⟩, .slice none 0 0] 24) _ _ y0
 simp only [World.size_alloc] at y1
 have HI := hid' (FirstIt.mk (p := p) (t := t) (F := F) (i := 0) hx1 y0 y1 hF.out)
 have HOK := hid' hok
 have HA := hid' h
 have HP := hid' hp
 have HPB := hid' hb
 have HRL := hid' hr
 clear hx0 hx1 y0 y1 z1 hok h hp hb hr hop hn hs hln hv
 go_enter Tryz.func87, Tryz.ntmps87
 go_upto_region 1 with (fail)
 generalize World.alloc _ _ = w1 at *
 go_wp2_with fail
 go_loopw [15] (fun iv wr => ∃ (i : Nat), iv = .int .i64 (i : Int) ∧ i ≤ 7 ∧ Hid (FirstIt w #[.int .i64 op, .int .i64 n, .string s, .slice q ln c] p t F i wr)) (fun iv _ => 7 - (intOf iv).toNat)
 case atStart => exact ⟨0, rfl, by omega, HI⟩
 case round =>
   obtain ⟨i, rfl, hi, HJ⟩ := hrel
   by_cases hik : i < 7
   · have g0 : decide ((i : Int) < 7) = true := by simp; omega
     have j1 : (0 : Int) ≤ (i : Int) := by omega
     have j2 : (i : Int) < 7 := by omega
     have hiw : IntKind.i64.wrap ((i : Int) + 1) = (i : Int) + 1 := IntWalk.i64_in _ (by omega)
     obtain ⟨q0, q1⟩ := ruleC_at i hik
     have HR1 : wr.heap[rb]? = some (.cells ruleC 131 (0, 0)) := (HJ.out.below.block rb (zzc HRL.out)).trans HRL.out
     have r0 : wr.cell? ⟨rb, i * 2, none⟩ = some (.int .i64 (Co.bit i)) := by unfold World.cell?; simp only [HR1]; exact q0
     have r1 : wr.cell? ⟨rb, i * 2 + 1, none⟩ = some (.func (.func (ruleF i)) #[] #[]) := by unfold World.cell?; simp only [HR1]; exact q1
     obtain ⟨c0, c1, c2, c3⟩ := zza HJ.out.c
     clear q0 q1 HR1
     go_upto_region 4 with (fail)
     have hbn := (Below.refl wr.heap.size wr).alloc (Nat.le_refl _) (.cells #[.int .i64 (Co.bit i), .func (.func (ruleF i)) #[] #[]] 131)
     have hnb := heap_alloc_new wr (.cells #[.int .i64 (Co.bit i), .func (.func (ruleF i)) #[] #[]] 131)
     obtain ⟨kb, hkb⟩ : ∃ kb, kb = wr.heap.size := ⟨_, rfl⟩
     rw [← hkb] at hnb ⊢
     have HKB := hid' hkb
     have HRB := hid' hnb
     have HC2 := hid' ((hbn.block _ (zzc HJ.out.c)).trans HJ.out.c)
     have HR2 := hid' ((hbn.block _ (zzc HJ.out.r)).trans HJ.out.r)
     have HB2 := hid' (HJ.out.below.trans (hbn.mono HJ.out.below.size))
     have HBN := hid' hbn
     clear hbn hnb hkb r0 r1 c0 c1 c2 c3
     generalize World.alloc wr _ = w2 at *
     have r0 : w2.cell? ⟨kb, 0, none⟩ = some (.int .i64 (Co.bit i)) := by simp [World.cell?, HRB.out]
     have r1 : w2.cell? ⟨kb, 1, none⟩ = some (.func (.func (ruleF i)) #[] #[]) := by simp [World.cell?, HRB.out]
     obtain ⟨c0, c1, c2, c3⟩ := zza HC2.out
     go_wp2_with fail
     have hpb2 := (HB2.out.cell (p := ⟨pb, 0, none⟩) (World.block_lt_of_cell? w _ HPB.out)).trans HPB.out
     refine (closure_one ok i hik _ p rfl HP.out t _ pb w2 (fun b h => Nat.lt_of_lt_of_le (HOK.out b h) HB2.out.size) (HV.out.under HB2.out) HA.out hpb2).mono ?_
     rintro e w5 ⟨b5, u, vv, rfl, hu, hux⟩
     obtain ⟨uop, un, us, up, ul, uc, rfl, -, -, -, -⟩ := zzu hu
     have hstep : Co.fitFrom p t (7 - i) i = (match Co.try1 p i t with | some u => some u | none => Co.fitFrom p t (7 - (i + 1)) (i + 1)) := by
       rw [show 7 - i = (7 - (i + 1)) + 1 by omega, Co.fitFrom]
       cases Co.try1 p i t <;> rfl
     rw [HJ.out.rest] at hstep
     have HSTEP := hid' hstep
     have HJ5 := hid' (And.intro b5 (And.intro hu hux))
     have hr5 := (b5.block _ (zzc HR2.out)).trans HR2.out
     have HR5 := hid' hr5
     have HC5 := hid' ((b5.block _ (zzc HC2.out)).trans HC2.out)
     clear b5 hu hux hpb2 hstep hr5 r0 r1 c0 c1 c2 c3
     obtain ⟨bo, hbo⟩ : ∃ bo, Hid ((Co.try1 p i t).isSome = bo) := ⟨_, hid' rfl⟩
     rw [hbo.out]
     have hba := (Below.refl w5.heap.size w5).alloc (Nat.le_refl _) (.cells #[.int .i64 uop, .int .i64 un, .string us, .slice up ul uc] 24)
     have HBA := hid' hba
     have HR6 := hid' ((hba.block _ (zzc HR5.out)).trans HR5.out)
     have HC6 := hid' ((hba.block _ (zzc HC5.out)).trans HC5.out)
     have HN6 := hid' (heap_alloc_new w5 (.cells #[.int .i64 uop, .int .i64 un, .string us, .slice up ul uc] 24))
     clear hba
     cases bo with
     | true =>
       obtain ⟨x, hx⟩ : ∃ x, Co.try1 p i t = some x := Option.isSome_iff_exists.1 hbo.out
       have HFX := hid' (show F = some x by rw [HSTEP.out, hx])
       obtain rfl : u = x := HJ5.out.2.2 x hx
       have HS := hid' (And.intro (set4 HR6.out (.int .i64 uop) (.int .i64 un) (.string us) (.slice up ul uc)) (grown4 (w5.alloc (.cells #[.int .i64 uop, .int .i64 un, .string us, .slice up ul uc] 24)) (w.heap.size + 1) (.int .i64 uop) (.int .i64 un) (.string us) (.slice up ul uc)))
       obtain ⟨e0, e1, e2, e3⟩ := zza HR6.out
       obtain ⟨n0, n1, n2, n3⟩ := zza HN6.out
       have f0 : ∀ o, (w5.alloc (.cells #[.int .i64 uop, .int .i64 un, .string us, .slice up ul uc] 24)).frozen? ⟨w.heap.size + 1, o, none⟩ = false := fun o => Rw.frozen_of HR6.out
       clear hx
       go_wp2_with fail
       obtain ⟨⟨hbx, hbl⟩, hg⟩ := HS.out
       generalize World.setCell _ _ _ = w9 at *
       obtain ⟨y0, y1, y2, y3⟩ := zza hbx
       refine bodyPost_ret (v := .tuple #[.agg #[.int .i64 uop, .int .i64 un, .string us, .slice up ul uc], .bool true]) (by simp [results, Tryz.results87, go_sem, y0, y1, y2, y3]) rfl ?_
       refine ⟨((HB2.out.trans (HJ5.out.1.mono HB2.out.size)).trans (HBA.out.mono (Nat.le_trans HB2.out.size HJ5.out.1.size))).trans (hbl w.heap.size (by omega)), u, _, by rw [HFX.out]; rfl, HJ5.out.2.1.keep (fun b hb hl => ⟨?_, (hg.block b ?_ (fun e => ?_)).trans (HBA.out.block b hl)⟩), fun x h => by rw [HFX.out] at h; cases h; rfl⟩
       · exact hb.imp id (fun h => Nat.le_trans HB2.out.size h)
       · exact Nat.lt_of_lt_of_le hl HBA.out.size
       · obtain rfl : w.heap.size + 1 = b := by simpa using e.symm
         rcases hb with hb | hb
         · have := HOK.out _ hb; omega
         · have := zzc HR2.out; omega
     | false =>
       have hx : Co.try1 p i t = none := by simpa using hbo.out
       have HNX := hid' (HJ.out.more (HBN.out.trans ((HJ5.out.1.trans (HBA.out.mono HJ5.out.1.size)).mono HBN.out.size)) (j := i + 1) (by rw [HSTEP.out, hx]))
       clear hx
       go_wp2_with fail
       go_roundw
       case rel => exact ⟨i + 1, by go_num, by omega, HNX⟩
       case measure => simp only [intOf]; omega
   · obtain rfl : i = 7 := by omega
     have HFN := hid' (show F = none by rw [← HJ.out.rest]; rfl)
     have hba := (Below.refl wr.heap.size wr).alloc (Nat.le_refl _) (.cells #[.int .i64 0, .int .i64 0, .string ⟨#[]⟩, .slice none 0 0] 24)
     have HBA := hid' hba
     have HR6 := hid' ((hba.block _ (zzc HJ.out.r)).trans HJ.out.r)
     have HS := hid' (set4 HR6.out (.int .i64 0) (.int .i64 0) (.string ⟨#[]⟩) (.slice none 0 0))
     obtain ⟨e0, e1, e2, e3⟩ := zza HR6.out
     have f0 : ∀ o, (wr.alloc (.cells #[.int .i64 0, .int .i64 0, .string ⟨#[]⟩, .slice none 0 0] 24)).frozen? ⟨w.heap.size + 1, o, none⟩ = false := fun o => Rw.frozen_of HR6.out
     clear hba hik
     go_wp2_with fail
     obtain ⟨hbx, hbl⟩ := HS.out
     generalize World.setCell _ _ _ = w9 at *
     obtain ⟨y0, y1, y2, y3⟩ := zza hbx
     refine bodyPost_ret (v := .tuple #[.agg #[.int .i64 0, .int .i64 0, .string ⟨#[]⟩, .slice none 0 0], .bool false]) (by simp [results, Tryz.results87, go_sem, y0, y1, y2, y3]) rfl ?_
     exact ⟨(HJ.out.below.trans (HBA.out.mono HJ.out.below.size)).trans (hbl w.heap.size (by omega)), Co.leaf 0 0, _, by rw [HFN.out]; rfl, coreAt_leaf (by unfold I64; omega) (by unfold I64; omega), fun x h => by rw [HFN.out] at h; cases h⟩
end
end Go.Proofs.YtanlmbbalamgkaaGreatDoor

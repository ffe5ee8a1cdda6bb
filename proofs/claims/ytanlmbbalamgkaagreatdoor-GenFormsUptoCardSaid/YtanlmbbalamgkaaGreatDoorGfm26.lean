/- Proved: lemmas and contracts of the functions that the law reaches, part 26 of 31: OptRewrite, OptDo, OptRef1, OptRef4, OptRef5. Conditions: as each states. -/
import Derived.Laws.OwnMore
import Derived.Test.YtanlmbbalamgkaaGreatDoorGfm12
import Derived.Test.YtanlmbbalamgkaaGreatDoorGfm19
import Derived.Test.YtanlmbbalamgkaaGreatDoorGfm20
import Derived.Test.YtanlmbbalamgkaaGreatDoorGfm24
namespace Go.Proofs.YtanlmbbalamgkaaGreatDoor
set_option linter.unusedVariables false
set_option linter.unusedSimpArgs false
section
open Go.RowKit
set_option maxRecDepth 100000
def TermGives (ok : Nat → Prop) (u : Co.T) (w : World) (e : Ending) (w' : World) : Prop := Below w.heap.size w w' ∧ ∃ v, e = .returned v ∧ CoreIn (fun b => ok b ∨ w.heap.size ≤ b) w' u v
structure RwBox (w : World) (C : Array Value) (p : Int) (W : World) : Prop where
 below : Below w.heap.size w W
 c : W.heap[w.heap.size]? = some (.cells C 24 (0, 0))
 p : W.heap[w.heap.size + 1]? = some (.cells #[.int .i64 p] 3 (0, 0))
 r : W.heap[w.heap.size + 1 + 1]? = some (.cells #[.int .i64 0, .int .i64 0, .string ⟨#[]⟩, .slice none 0 0] 24 (0, 0))
theorem RwBox.keep {w : World} {C : Array Value} {p : Int} {W W' : World} (h : RwBox w C p W) (hb : Below w.heap.size w W') (hk : ∀ b, w.heap.size ≤ b → b < w.heap.size + 3 → W'.heap[b]? = W.heap[b]?) : RwBox w C p W' :=
 ⟨hb, (hk _ (by omega) (by omega)).trans h.c, (hk _ (by omega) (by omega)).trans h.p, (hk _ (by omega) (by omega)).trans h.r⟩
theorem RwBox.more {w : World} {C : Array Value} {p : Int} {W W' : World} (h : RwBox w C p W) (hb : Below W.heap.size W W') : RwBox w C p W' :=
 h.keep (h.below.trans (hb.mono h.below.size)) (fun b _ hl => hb.block b (by have := zzc h.r; omega))
structure RwIt (ok : Nat → Prop) (w : World) (ob : Nat) (C : Array Value) (p op n : Int) (s : ByteArray) (us : List Co.T) (kv : Value) (W : World) : Prop where
 box : RwBox w C p W
 o : W.heap[ob]? = some (.cells #[.int .i64 op, .int .i64 n, .string s, kv] 24 (0, 0))
 own : KidsOwn ok (ob + 1) us kv W
theorem RwIt.more {ok : Nat → Prop} {w : World} {ob : Nat} {C : Array Value} {p op n : Int} {s : ByteArray} {us : List Co.T} {kv : Value} {W W' : World} (h : RwIt ok w ob C p op n s us kv W) (hb : Below W.heap.size W W') : RwIt ok w ob C p op n s us kv W' :=
 ⟨h.box.more hb, (hb.block _ (zzc h.o)).trans h.o, h.own.keep fun b _ hl => hb.block b hl⟩
structure RwFit (ok : Nat → Prop) (w : World) (ob : Nat) (C : Array Value) (p : Int) (F cur : Co.T) (W : World) : Prop where
 box : RwBox w C p W
 o : ∃ x y z u, W.heap[ob]? = some (.cells #[x, y, z, u] 24 (0, 0)) ∧ CoreIn (fun b => ok b ∨ ob + 1 ≤ b) W cur (.agg #[x, y, z, u])
 x : cur.letter ≠ 0
 f : Co.settle p cur = F
set_option maxHeartbeats 8000000 in
theorem rewrite_any (p : Int) (hp : 0 ≤ p ∧ p ≤ 15) (t : Co.T) : ∀ (ok : Nat → Prop) (v : Value) (rb : Nat) (w : World), (∀ b, ok b → b < w.heap.size) → CoreIn ok w t v → t.letter ≠ 0 → RulesAt w rb →
   Calls Tryz.prog 45 #[v, .int .i64 p, .slice (some ⟨rb, 0, none⟩) 7 7] w (TermGives ok (t.rw p) w) := by
 induction t using Co.T.ind with | h op n s ks ih => ?_
 intro ok v rb w hok hv hx hr
 obtain ⟨q, c, rfl, hc, ho, hn, hs, hk⟩ := hv.open
 simp only [Co.T.op, Co.T.n, Co.T.s, Co.T.ks] at hc ho hn hs hk hv ⊢
 have HIH := hid' (fun k hk ok v rb w h1 h2 h3 => ih k hk ok v rb w h1 h2 (Co.kids_ne hx k hk) h3)
 have HV := hid' hv
 have HK := hid' hk
 have HOK := hid' hok
 have HX := hid' hx
 have HRL := hid' hr
 have HP := hid' hp
 have HON := hid' (And.intro ho (And.intro hn hs))
 have hl3 : ks.length ≤ 3 := Co.kids_len (t := .mk op n s ks) hx
 have HL3 := hid' hl3
 have z1 : ∀ (W : World) (o : Obj) (k : Nat) (x : Obj), W.heap[k]? = some x → (W.alloc o).heap[k]? = some x := fun W o k x h => (((Below.refl W.heap.size W).alloc (Nat.le_refl _) o).block k (zzc h)).trans h
 have hbox := hid' (show RwBox w #[.int .i64 op, .int .i64 n, .string s, .slice q ks.length c] p (((w.alloc (.cells #[.int .i64 op, .int .i64 n, .string s, .slice q ks.length c] 24)).alloc (.cells #[.int .i64 p] 3)).alloc (.cells #[.int .i64 0, .int .i64 0, .string ⟨#[]⟩, .slice none 0 0] 24)) from by
   refine ⟨(((Below.refl _ w).alloc (Nat.le_refl _) _).alloc (by simp) _).alloc (by simp; omega) _, z1 _ _ _ _ (z1 _ _ _ _ (heap_alloc_new w _)), z1 _ _ _ _ ?_, ?_⟩
   · have := heap_alloc_new (w.alloc (.cells #[.int .i64 op, .int .i64 n, .string s, .slice q ks.length c] 24)) (.cells #[.int .i64 p] 3)
     simpa only [World.size_alloc] using this
   · have := heap_alloc_new ((w.alloc (.cells #[.int .i64 op, .int .i64 n, .string s, .slice q ks.length c] 24)).alloc (.cells #[.int .i64 p] 3)) (.cells #[.int .i64 0, .int .i64 0, .string ⟨#[]⟩, .slice none 0 0] 24)
     simpa only [World.size_alloc] using this)
 have hsz : (((w.alloc (.cells #[.int .i64 op, .int .i64 n, .string s, .slice q ks.length c] 24)).alloc (.cells #[.int .i64 p] 3)).alloc (.cells #[.int .i64 0, .int .i64 0, .string ⟨#[]⟩, .slice none 0 0] 24)).heap.size = w.heap.size + 3 := by simp
 have HSZ := hid' hsz
 clear z1 hv hk hok hx hr hp ho hn hs hl3 ih hsz
 have HC := hid' hc
 clear hc
 go_enter Tryz.func45, Tryz.ntmps45
 go_upto_region 1 with (fail)
 generalize World.alloc _ _ = w1 at *
 obtain ⟨c0, c1, c2, c3⟩ := zza hbox.out.c
 go_upto_region 2 with (fail)
 have hba := (Below.refl w1.heap.size w1).alloc (Nat.le_refl _) (.cells #[.int .i64 op, .int .i64 n, .string s, .slice q ks.length c] 24)
 have hno := heap_alloc_new w1 (.cells #[.int .i64 op, .int .i64 n, .string s, .slice q ks.length c] 24)
 have hsz2 : (w1.alloc (.cells #[.int .i64 op, .int .i64 n, .string s, .slice q ks.length c] 24)).heap.size = w1.heap.size + 1 := by simp
 have HBX2 := hid' (hbox.out.more hba)
 obtain ⟨ob, hob⟩ : ∃ ob, ob = w1.heap.size := ⟨_, rfl⟩
 rw [← hob] at hno hsz2 ⊢
 have HOB := hid' (show ob = w.heap.size + 3 by rw [hob]; exact HSZ.out)
 have HNO := hid' hno
 have HSZ2 := hid' hsz2
 clear hba hno hsz2 hob c0 c1 c2 c3
 generalize World.alloc w1 _ = w2 at *
 obtain ⟨c0, c1, c2, c3⟩ := zza HBX2.out.c
 obtain ⟨o0, o1, o2, o3⟩ := zza HNO.out
 have fo : w2.frozen? ⟨ob, 3, none⟩ = false := Rw.frozen_of HNO.out
 have n1 : w.heap.size ≠ ob := by have := HOB.out; omega
 have n2 : ob ≠ w.heap.size := fun e => n1 e.symm
 have HIT := hid' (show RwIt ok w ob #[.int .i64 op, .int .i64 n, .string s, .slice q ks.length c] p op n s [] (.slice none 0 0) (w2.setCell ⟨ob, 3, none⟩ (.slice none 0 0)) from by
   have hob := HOB.out
   refine ⟨HBX2.out.keep (HBX2.out.below.setCell (p := ⟨ob, 3, none⟩) (by simp; omega) _) (fun b _ hb => Below.heap_setCell _ _ _ b (by show b ≠ ob; omega)), ?_, .nil _ _ _⟩
   rw [heap_setCell_same _ _ _ _ _ _ HNO.out]
   simp)
 have cc3 : (w2.setCell ⟨ob, 3, none⟩ (.slice none 0 0)).cell? ⟨w.heap.size, 3, none⟩ = some (.slice q ks.length c) := (zza HIT.out.box.c).2.2.2
 go_upto_region 3 with (fail)
 generalize World.setCell _ _ _ = w3 at *
 clear c0 c1 c2 c3 o0 o1 o2 o3 fo
 go_wp2_with fail
 go_loopw [17] (fun iv wr => ∃ (i : Nat) (kv : Value), iv = .int .i64 (i : Int) ∧ i ≤ ks.length ∧ Hid (RwIt ok w ob #[.int .i64 op, .int .i64 n, .string s, .slice q ks.length c] p op n s (Co.rws p (ks.take i)) kv wr)) (fun iv _ => ks.length - (intOf iv).toNat)
 case atStart => exact ⟨0, _, rfl, Nat.zero_le _, HIT⟩
 case round =>
   obtain ⟨i, kv, rfl, hi, HJ⟩ := hrel
   by_cases hik : i < ks.length
   · obtain ⟨k, hkk⟩ : ∃ k, ks[i]? = some k := ⟨_, List.getElem?_eq_getElem hik⟩
     obtain ⟨vk, hrow, hvk⟩ := HK.out i k hkk
     obtain ⟨b, off, x0, y0, z0, u0, e, hlb, hve, r0, r1, r2, r3⟩ := hrow.keep (fun b h hl => ⟨h, HJ.out.box.below.block b hl⟩)
     subst e
     have HKV := hid' hvk
     obtain ⟨pk, ck, rfl, -, -, -, -, -⟩ := hvk.open
     obtain ⟨kop, hkop⟩ : ∃ o, Hid (k.op = o) := ⟨_, hid' rfl⟩
     obtain ⟨kn, hkn⟩ : ∃ o, Hid (k.n = o) := ⟨_, hid' rfl⟩
     obtain ⟨kst, hks⟩ : ∃ o, Hid (k.s = o) := ⟨_, hid' rfl⟩
     obtain ⟨kl, hkl⟩ : ∃ o, Hid (k.ks.length = o) := ⟨_, hid' rfl⟩
     rw [hkop.out, hkn.out, hks.out, hkl.out] at hve HKV
     obtain ⟨rfl, rfl, rfl, rfl⟩ : .int .i64 kop = x0 ∧ .int .i64 kn = y0 ∧ .string kst = z0 ∧ .slice pk kl ck = u0 := by simpa using hve
     have g0 : decide ((i : Int) < (ks.length : Int)) = true := by simp; omega
     have j1 : (0 : Int) ≤ (i : Int) := by omega
     have j2 : (i : Int) < (ks.length : Int) := by omega
     have hiw : IntKind.i64.wrap ((i : Int) + 1) = (i : Int) + 1 := IntWalk.i64_in _ (by have := HL3.out; omega)
     have HKK := hid' hkk
     clear hve hkk hrow hvk
     have hba := (Below.refl wr.heap.size wr).alloc (Nat.le_refl _) (.cells #[.int .i64 kop, .int .i64 kn, .string kst, .slice pk kl ck] 24)
     have hno := heap_alloc_new wr (.cells #[.int .i64 kop, .int .i64 kn, .string kst, .slice pk kl ck] 24)
     go_upto_region 6 with (fail)
     obtain ⟨kb, hkb⟩ : ∃ kb, kb = wr.heap.size := ⟨_, rfl⟩
     rw [← hkb] at hno ⊢
     have HJ2 := hid' (HJ.out.more hba)
     have HKB := hid' hno
     have HB2 := hid' hba
     have HLT := hid' (show ob < kb by rw [hkb]; exact zzc HJ.out.o)
     have HOWN := hid' (show ∀ k, kv.ownBlock = some k → k < kb by
       intro k e
       obtain ⟨_, _, h2, _⟩ := HJ.out.own
       rw [hkb]
       exact (World.ownsRow.lt h2 k e).2)
     have HLE4 := hid' (show kb < (wr.alloc (.cells #[.int .i64 kop, .int .i64 kn, .string kst, .slice pk kl ck] 24)).heap.size by rw [hkb]; simp)
     clear hba hno hkb r0 r1 r2 r3
     generalize World.alloc wr _ = w4 at *
     have HF4 := hid' (show (fun W => W.cell? ⟨ob, 3, none⟩ = some kv ∧ (W.cell? ⟨kb, 0, none⟩ = some (.int .i64 kop) ∧ W.cell? ⟨kb, 1, none⟩ = some (.int .i64 kn) ∧ W.cell? ⟨kb, 2, none⟩ = some (.string kst) ∧ W.cell? ⟨kb, 3, none⟩ = some (.slice pk kl ck)) ∧ W.cell? ⟨w.heap.size + 1, 0, none⟩ = some (.int .i64 p)) w4.drew from ⟨(zza HJ2.out.o).2.2.2, zza HKB.out, by show w4.cell? _ = _; simp [World.cell?, HJ2.out.box.p]⟩)
     go_wp2_with fail
     refine zzt (fun W => W.cell? ⟨ob, 3, none⟩ = some kv ∧ (W.cell? ⟨kb, 0, none⟩ = some (.int .i64 kop) ∧ W.cell? ⟨kb, 1, none⟩ = some (.int .i64 kn) ∧ W.cell? ⟨kb, 2, none⟩ = some (.string kst) ∧ W.cell? ⟨kb, 3, none⟩ = some (.slice pk kl ck)) ∧ W.cell? ⟨w.heap.size + 1, 0, none⟩ = some (.int .i64 p)) 9 [false, false, false, false, false, true, true, true, false, true] (by kernel_rfl) (by kernel_rfl) (by kernel_rfl) HF4.out ?_
     iterate 5
       apply zzp
       · rfl
       · intro W hW
         obtain ⟨h0, ⟨h1, h2, h3, h4⟩, h5⟩ := hW
         first | (go_simp; done) | (go_simp; with_reducible rfl)
       simp only [Act.put, List.setIfInBounds_toArray, List.set_cons_zero, List.set_cons_succ]
     have hent := HJ2.out.box.below.drew
     refine wpChain_call 45 #[.agg #[.int .i64 kop, .int .i64 kn, .string kst, .slice pk kl ck], .int .i64 p, .slice (some ⟨rb, 0, none⟩) 7 7] (fun v w5 => Below w4.drew.heap.size w4.drew w5 ∧ CoreIn (fun b => ok b ∨ w4.drew.heap.size ≤ b) w5 (k.rw p) v) ?_ ?_ ?_ ?_
     · rfl
     · go_simp
     · refine (HIH.out k (List.mem_of_getElem? HKK.out) ok _ rb w4.drew (fun b h => Nat.lt_of_lt_of_le (HOK.out b h) hent.size) (HKV.out.under hent) ?_).mono ?_
       · exact (hent.block rb (zzc HRL.out)).trans HRL.out
       · rintro e w5 ⟨h1, v, h2, h3⟩
         exact ⟨v, h2, h1, h3⟩
     rintro v w5 ⟨b5, hu⟩
     obtain ⟨uop, un, us, up, ul, uc, rfl, -, -, -, -⟩ := zzu hu
     have b45 : Below w4.heap.size w4 w5 := (Below.refl _ w4).drew.trans b5
     have HJ5 := hid' (HJ2.out.more b45)
     have HKB5 := hid' ((b45.block _ (zzc HKB.out)).trans HKB.out)
     have hba := (Below.refl w5.heap.size w5).alloc (Nat.le_refl _) (.cells #[.int .i64 uop, .int .i64 un, .string us, .slice up ul uc] 24)
     have hno := heap_alloc_new w5 (.cells #[.int .i64 uop, .int .i64 un, .string us, .slice up ul uc] 24)
     have HJ6 := hid' (HJ5.out.more hba)
     have HKB6 := hid' ((hba.block _ (zzc HKB5.out)).trans HKB5.out)
     have HU := hid' (hu.under hba)
     have HNO := hid' hno
     have HS6 := hid' (show (w5.alloc (.cells #[.int .i64 uop, .int .i64 un, .string us, .slice up ul uc] 24)).heap.size = w5.heap.size + 1 by simp)
     have H45 := hid' b45
     refine ⟨.inr ⟨(zza HJ5.out.o).2.2.2, zza HKB5.out, by simp [World.cell?, HJ5.out.box.p]⟩, ?_⟩
     simp only [Act.put, List.setIfInBounds_toArray, List.set_cons_zero, List.set_cons_succ]
     refine zzr (v := .slice (some ⟨w5.heap.size, 0, none⟩) 1 1) (w' := w5.alloc (.cells #[.int .i64 uop, .int .i64 un, .string us, .slice up ul uc] 24)) ?_ ?_ ?_ ?_
     · rfl
     · go_simp
     · exact .inr ⟨(zza HJ6.out.o).2.2.2, zza HKB6.out, by simp [World.cell?, HJ6.out.box.p]⟩
     simp only [Act.put, List.setIfInBounds_toArray, List.set_cons_zero, List.set_cons_succ]
     clear b5 hu b45 hba hno
     obtain ⟨b6, hb6⟩ : ∃ b6, b6 = w5.heap.size := ⟨_, rfl⟩
     rw [← hb6] at HNO HS6 ⊢
     have HB6 := hid' hb6
     clear hb6
     generalize World.alloc w5 _ = w6 at *
     obtain ⟨qs, hq1, hq2, hq3⟩ := HJ6.out.own
     obtain ⟨ti, ti1, ti2, ti3, ti4⟩ := Rw.info_split info_core
     have hle : (Co.rws p (ks.take i)).length ≤ 3 := by rw [Co.rws_map, List.length_map]; have := HL3.out; have := List.length_take_le i ks; omega
     refine wpChain_append _ _ 22 rfl rfl (ob + 1) 24 ti _ 4 56 Tryz.underlying22 ti1 ti2 ti3 ti4 rfl (by decide) kv _ _ rfl hq2 ⟨b6, 0, none⟩ 1 1 [.int .i64 uop, .int .i64 un, .string us, .slice up ul uc] rfl rfl
       (fun j u hj => ?_) (fun u hu => ?_) (by decide) (by unfold maxLen; omega) (by omega) (by have := zzc HJ6.out.o; omega) (fun g cap w7 hown hgr hat hlt => ?_)
     · rw [Rw.add_gen, Nat.zero_add]
       unfold World.cell?
       simp only [HNO.out]
       simpa using hj
     · simp only [List.mem_cons, List.not_mem_nil, or_false] at hu
       rcases hu with rfl | rfl | rfl | rfl <;> rfl
     have hge : ∀ k, kv.ownBlock = some k → ob + 1 ≤ k := fun k e => (World.ownsRow.lt hq2 k e).1
     have hkeep : ∀ b, b < ob + 1 → b < w6.heap.size → w7.heap[b]? = w6.heap[b]? := fun b hb hl => hgr.block b hl (fun e => by have := hge b e.symm; omega)
     have ho7 := (hkeep ob (by omega) (zzc HJ6.out.o)).trans HJ6.out.o
     have hk7 := (hgr.block kb (zzc HKB6.out) (fun e => by have := HOWN.out kb e.symm; omega)).trans HKB6.out
     refine ⟨.inr ⟨(zza ho7).2.2.2, zza hk7, by simp [World.cell?, (hkeep (w.heap.size + 1) (by have := HOB.out; omega) (zzc HJ6.out.box.p)).trans HJ6.out.box.p]⟩, ?_⟩
     simp only [Act.put, List.setIfInBounds_toArray, List.set_cons_zero, List.set_cons_succ]
     have HU6 := hid' (show CoreIn (fun b => (ok b ∨ ob + 1 ≤ b) ∧ kv.ownBlock ≠ some b) w6 (k.rw p) (Q4.val (.int .i64 uop, .int .i64 un, .string us, .slice up ul uc)) from HU.out.wk fun b hb => by
       have h1 := HOB.out
       have h2 : kb < w4.heap.size := HLE4.out
       refine ⟨hb.imp id (fun h => by have h3 : w4.heap.size ≤ b := h; have := HLT.out; omega), fun e => ?_⟩
       have h4 := HOWN.out b e
       have h5 := hge b e
       rcases hb with hb | hb
       · have := HOK.out b hb; omega
       · have h3 : w4.heap.size ≤ b := hb
         omega)
     have hpush := KidsOwn.push (u := k.rw p) (q := (.int .i64 uop, .int .i64 un, .string us, .slice up ul uc)) hq1 hq3 HU6.out hown hgr hat
     have hb7 : Below w.heap.size w w7 := HJ6.out.box.below.trans ⟨hgr.os, hgr.tape, hgr.output, hgr.size, fun k hk => hkeep k (by have := HOB.out; omega) (Nat.lt_of_lt_of_le hk HJ6.out.box.below.size)⟩
     have HNX := hid' (show RwIt ok w ob #[.int .i64 op, .int .i64 n, .string s, .slice (some ⟨b, off, none⟩) ks.length c] p op n s (Co.rws p (ks.take (i + 1))) (.slice (some ⟨g, 0, none⟩) ((Co.rws p (ks.take i)).length + 1) cap) (w7.setCell ⟨ob, 3, none⟩ (.slice (some ⟨g, 0, none⟩) ((Co.rws p (ks.take i)).length + 1) cap)) from by
       have h1 := HOB.out
       refine ⟨HJ6.out.box.keep (hb7.setCell (p := ⟨ob, 3, none⟩) (by simp; omega) _) (fun b h2 h3 => (Below.heap_setCell _ _ _ b (by show b ≠ ob; omega)).trans (hkeep b (by omega) (by have := zzc HJ6.out.o; omega))), ?_, ?_⟩
       · rw [heap_setCell_same _ _ _ _ _ _ ho7]
         simp
       · rw [Co.rws_map, take_one HKK.out, List.map_append, ← Co.rws_map]
         refine hpush.keep (fun b hb hl => Below.heap_setCell _ _ _ b ?_)
         show b ≠ ob
         rcases hb with hb | hb
         · have := HOK.out b hb; omega
         · omega)
     obtain ⟨o0, o1, o2, o3⟩ := zza ho7
     have fo : w7.frozen? ⟨ob, 3, none⟩ = false := Rw.frozen_of ho7
     clear hpush hown hgr hat hlt hkeep hge ho7 hk7 hb7 hq1 hq2 hq3 ti1 ti2 ti3 ti4 hle
     apply zzp
     · rfl
     · intro W hW
       obtain ⟨h0, ⟨h1, h2, h3, h4⟩, h5⟩ := hW
       first | (go_simp; done) | (go_simp; with_reducible rfl)
     simp only [Act.put, List.setIfInBounds_toArray, List.set_cons_zero, List.set_cons_succ]
     refine wpChain_put (w' := w7.setCell ⟨ob, 3, none⟩ (.slice (some ⟨g, 0, none⟩) ((Co.rws p (ks.take i)).length + 1) cap)) ?_ ?_ ?_ ?_
     · rfl
     · go_simp
     · exact .inl (Nat.le_refl _)
     refine zqs ?_
     generalize World.setCell _ _ _ = w8 at *
     clear o0 o1 o2 o3 fo
     go_wp2_with fail
     go_roundw
     case rel => exact ⟨i + 1, _, by go_num, by omega, HNX⟩
     case measure => simp only [intOf]; omega
   · obtain rfl : i = ks.length := by omega
     have g0 : decide (ks.length < ks.length) = false := by simp
     clear hik
     rw [List.take_length] at HJ
     have HF0 := hid' (show RwFit ok w ob #[.int .i64 op, .int .i64 n, .string s, .slice q ks.length c] p (Co.T.rw p (.mk op n s ks)) (.mk op n s (Co.rws p ks)) wr from by
       refine ⟨HJ.out.box, ⟨_, _, _, _, HJ.out.o, HJ.out.own.value HON.out.1 HON.out.2.1 HON.out.2.2⟩, ?_, by rw [Co.T.rw]⟩
       have : (Co.T.mk op n s (Co.rws p ks)).letter = (Co.T.mk op n s ks).letter := by
         refine Co.letter_congr ?_
         rw [Co.rws_map, List.map_map]
         exact List.map_congr_left fun k hk => (Co.rw_spec p k (Co.kids_ne HX.out k hk)).2.letter
       rw [this]
       exact HX.out)
     obtain ⟨F, hF⟩ : ∃ F, Hid (Co.T.rw p (.mk op n s ks) = F) := ⟨_, hid' rfl⟩
     rw [hF.out] at HF0 ⊢
     go_wp2_with fail
     go_loopw [11] (fun _ wr => Hid (∃ cur, RwFit ok w ob #[.int .i64 op, .int .i64 n, .string s, .slice q ks.length c] p F cur wr)) (fun _ wr => least fun m => ∃ cur, RwFit ok w ob #[.int .i64 op, .int .i64 n, .string s, .slice q ks.length c] p F cur wr ∧ Co.meas cur = m)
     case atStart => exact hid' ⟨_, HF0.out⟩
     case round =>
       obtain ⟨cur0, hcur0⟩ := hrel.out
       obtain ⟨cur, hcur, hm⟩ := least_is (P := fun m => ∃ cur, RwFit ok w ob #[.int .i64 op, .int .i64 n, .string s, .slice q ks.length c] p F cur wr ∧ Co.meas cur = m) ⟨cur0, hcur0, rfl⟩
       have HM := hid' hm
       have HCU := hid' hcur
       clear hrel hcur0 hcur hm cur0
       obtain ⟨ox, oy, oz, ou, hob1, hco⟩ := HCU.out.o
       obtain ⟨cop, cn, cst, cp, cl, cc, e, -, -, -, hcl⟩ := zzu hco
       obtain ⟨rfl, rfl, rfl, rfl⟩ : .int .i64 cop = ox ∧ .int .i64 cn = oy ∧ .string cst = oz ∧ .slice cp cl cc = ou := by simpa using e.symm
       have HO := hid' hob1
       have HCO := hid' hco
       have HCL := hid' hcl
       clear e hob1 hco hcl
       obtain ⟨o0, o1, o2, o3⟩ := zza HO.out
       by_cases hz : cl = 0
       · subst hz
         have HFC := hid' (show F = cur by
           rw [← HCU.out.f]
           exact Co.settle_stop (.inl (List.length_eq_zero_iff.1 HCL.out)))
         obtain ⟨e0, e1, e2, e3⟩ := zza HCU.out.box.r
         have f0 : ∀ o, wr.frozen? ⟨w.heap.size + 1 + 1, o, none⟩ = false := fun o => Rw.frozen_of HCU.out.box.r
         have HS := hid' (And.intro (set4 HCU.out.box.r (.int .i64 cop) (.int .i64 cn) (.string cst) (.slice cp 0 cc)) (grown4 wr (w.heap.size + 1 + 1) (.int .i64 cop) (.int .i64 cn) (.string cst) (.slice cp 0 cc)))
         go_wp2_with fail
         obtain ⟨hbx, hbl⟩ := HS.out.1
         have hg := HS.out.2
         generalize World.setCell _ _ _ = w9 at *
         obtain ⟨y0, y1, y2, y3⟩ := zza hbx
         refine bodyPost_ret (v := .agg #[.int .i64 cop, .int .i64 cn, .string cst, .slice cp 0 cc]) (by simp [results, Tryz.results45, go_sem, y0, y1, y2, y3]) rfl ?_
         refine ⟨HCU.out.box.below.trans (hbl w.heap.size (by omega)), _, rfl, ?_⟩
         rw [hF.out, HFC.out]
         refine HCO.out.keep (fun b hb hl => ⟨hb.imp id (fun h => by have := HOB.out; omega), hg.block b hl (fun e => ?_)⟩)
         obtain rfl : w.heap.size + 1 + 1 = b := by simpa using e.symm
         rcases hb with hb | hb
         · have := HOK.out _ hb; omega
         · have := HOB.out; omega
       · have g1 : decide ((0 : Int) < (cl : Int)) = true := by simp; omega
         have g2 : decide (0 < cl) = true := by simp; omega
         have g3 : (0 : Int) < (cl : Int) := by omega
         have g4 : 0 < cl := by omega
         have HZ := hid' hz
         clear hz
         have hask : RuleAsk cur := ⟨HCU.out.x, by rw [HCL.out]; have := HZ.out; omega⟩
         have HASK := hid' hask
         have HFIRST := hid' (first_any (fun b => (ok b ∨ ob + 1 ≤ b) ∧ b < wr.heap.size) cur _ rb (w.heap.size + 1) p wr (fun b h => h.2) HCO.out.lt hask HP.out (by simp [World.cell?, HCU.out.box.p]) ((HCU.out.box.below.block rb (zzc HRL.out)).trans HRL.out))
         clear hask
         obtain ⟨bo, hbo⟩ : ∃ bo, Hid ((Co.fit p cur).isSome = bo) := ⟨_, hid' rfl⟩
         go_wp2_with fail
         refine HFIRST.out.mono ?_
         rintro e w5 ⟨b5, u, vv, rfl, hu, hux⟩
         rw [hbo.out]
         obtain ⟨uop, un, us, up, ul, uc, rfl, -, -, -, -⟩ := zzu hu
         have HU := hid' (show CoreIn (fun b => ok b ∨ ob + 1 ≤ b) w5 u _ from hu.wk fun b hb => hb.elim (fun h => h.1) (fun h => .inr (by have := zzc HO.out; omega)))
         have HUX := hid' hux
         have HB5 := hid' b5
         have HCO5 := hid' (HCO.out.under b5)
         have HBX5 := hid' (HCU.out.box.more b5)
         have HO5 := hid' ((b5.block _ (zzc HO.out)).trans HO.out)
         clear b5 hu hux o0 o1 o2 o3
         have hba := (Below.refl w5.heap.size w5).alloc (Nat.le_refl _) (.cells #[.int .i64 uop, .int .i64 un, .string us, .slice up ul uc] 24)
         have HN6 := hid' (heap_alloc_new w5 (.cells #[.int .i64 uop, .int .i64 un, .string us, .slice up ul uc] 24))
         have HU6 := hid' (HU.out.under hba)
         have HCO6 := hid' (HCO5.out.under hba)
         have HBX6 := hid' (HBX5.out.more hba)
         have HO6 := hid' ((hba.block _ (zzc HO5.out)).trans HO5.out)
         have HB56 := hid' hba
         obtain ⟨o0, o1, o2, o3⟩ := zza HO6.out
         obtain ⟨n0, n1', n2', n3⟩ := zza HN6.out
         obtain ⟨e0, e1, e2, e3⟩ := zza HBX6.out.r
         have f0 : ∀ o, (w5.alloc (.cells #[.int .i64 uop, .int .i64 un, .string us, .slice up ul uc] 24)).frozen? ⟨w.heap.size + 1 + 1, o, none⟩ = false := fun o => Rw.frozen_of HBX6.out.r
         have fo : ∀ o, (w5.alloc (.cells #[.int .i64 uop, .int .i64 un, .string us, .slice up ul uc] 24)).frozen? ⟨ob, o, none⟩ = false := fun o => Rw.frozen_of HO6.out
         clear hba
         cases bo with
         | false =>
           have HFC := hid' (show F = cur by
             rw [← HCU.out.f]
             exact Co.settle_stop (.inr (by simpa using hbo.out)))
           have HS := hid' (And.intro (set4 HBX6.out.r (.int .i64 cop) (.int .i64 cn) (.string cst) (.slice cp cl cc)) (grown4 (w5.alloc (.cells #[.int .i64 uop, .int .i64 un, .string us, .slice up ul uc] 24)) (w.heap.size + 1 + 1) (.int .i64 cop) (.int .i64 cn) (.string cst) (.slice cp cl cc)))
           go_wp2_with fail
           obtain ⟨hbx, hbl⟩ := HS.out.1
           have hg := HS.out.2
           generalize World.setCell _ _ _ = w9 at *
           obtain ⟨y0, y1, y2, y3⟩ := zza hbx
           refine bodyPost_ret (v := .agg #[.int .i64 cop, .int .i64 cn, .string cst, .slice cp cl cc]) (by simp [results, Tryz.results45, go_sem, y0, y1, y2, y3]) rfl ?_
           refine ⟨HBX6.out.below.trans (hbl w.heap.size (by omega)), _, rfl, ?_⟩
           rw [hF.out, HFC.out]
           refine HCO6.out.keep (fun b hb hl => ⟨hb.imp id (fun h => by have := HOB.out; omega), hg.block b hl (fun e => ?_)⟩)
           obtain rfl : w.heap.size + 1 + 1 = b := by simpa using e.symm
           rcases hb with hb | hb
           · have := HOK.out _ hb; omega
           · have := HOB.out; omega
         | true =>
           obtain ⟨x, hx⟩ : ∃ x, Co.fit p cur = some x := Option.isSome_iff_exists.1 hbo.out
           obtain rfl : u = x := HUX.out x hx
           have HNX := hid' (show RwFit ok w ob #[.int .i64 op, .int .i64 n, .string s, .slice q ks.length c] p F u (((((w5.alloc (.cells #[.int .i64 uop, .int .i64 un, .string us, .slice up ul uc] 24)).setCell ⟨ob, 0, none⟩ (.int .i64 uop)).setCell ⟨ob, 1, none⟩ (.int .i64 un)).setCell ⟨ob, 2, none⟩ (.string us)).setCell ⟨ob, 3, none⟩ (.slice up ul uc)) from by
             have h1 := HOB.out
             have hs := set4 HO6.out (.int .i64 uop) (.int .i64 un) (.string us) (.slice up ul uc)
             have hg := grown4 (w5.alloc (.cells #[.int .i64 uop, .int .i64 un, .string us, .slice up ul uc] 24)) ob (.int .i64 uop) (.int .i64 un) (.string us) (.slice up ul uc)
             have hst := Co.fit_step hx HCU.out.x
             refine ⟨HBX6.out.keep (HBX6.out.below.trans (hs.2 _ (by omega))) (fun b h2 h3 => hg.block b (by have := zzc HO6.out; omega) (fun e => by cases e; omega)), ⟨_, _, _, _, hs.1, HU6.out.keep (fun b hb hl => ⟨hb, hg.block b hl (fun e => ?_)⟩)⟩, by rw [hst.letter]; exact HCU.out.x, ?_⟩
             · obtain rfl : ob = b := by simpa using e.symm
               rcases hb with hb | hb
               · have := HOK.out _ hb; omega
               · omega
             · rw [← HCU.out.f]
               exact (Co.settle_go HCU.out.x (fun h => by have := HASK.out.some'; rw [h] at this; cases this) hx).symm)
           have HLT := hid' (show Co.meas u < Co.meas cur from (Co.fit_step hx HCU.out.x).meas)
           clear hx
           go_wp2_with fail
           generalize World.setCell _ _ _ = w8 at *
           go_roundw
           case rel => exact hid' ⟨u, HNX.out⟩
           case measure =>
             rw [← HM.out]
             exact Nat.lt_of_le_of_lt (least_le ⟨u, HNX.out, rfl⟩) HLT.out
end
section
open Go.RowKit
set_option maxRecDepth 100000
namespace Co
theorem index_99 (y : UInt8) : (Lib.indexByte [110, 98, 100, 63, 99] y == 4) = (y == 99) := by
 have e : ∀ (b : UInt8) (l : List UInt8), Lib.indexByte (b :: l) y = if (b == y) = true then 0 else if (Lib.indexByte l y == -1) = true then -1 else Lib.indexByte l y + 1 := fun b l => rfl
 have e0 : Lib.indexByte [] y = -1 := rfl
 rw [e, e, e, e, e, e0]
 by_cases h1 : y = 110
 · subst h1; decide
 by_cases h2 : y = 98
 · subst h2; decide
 by_cases h3 : y = 100
 · subst h3; decide
 by_cases h4 : y = 63
 · subst h4; decide
 by_cases h5 : y = 99
 · subst h5; decide
 have f : ∀ b : UInt8, y ≠ b → (b == y) = false := fun b h => by simpa using fun e => h e.symm
 rw [f 110 h1, f 98 h2, f 100 h3, f 63 h4, f 99 h5]
 have : (y == 99) = false := by simpa using h5
 rw [this]
 rfl
theorem check_good (t : T) : t.check = 0 ↔ t.good := by
 unfold T.check T.good T.ty
 cases hr : t.right with
 | false =>
   simp only [Bool.false_and, cond_false]
   constructor
   · intro h; cases h
   · rintro ⟨h1, h2, h3⟩
     unfold T.right at hr
     rw [h1, h2] at hr
     cases hr
 | true =>
   have hs : small t = true := by unfold T.right at hr; rw [Bool.and_eq_true] at hr; exact hr.1
   simp only [Bool.true_and, cond_true, index_99]
   cases hy : (t.letter == 99) with
   | false =>
     simp only [cond_false]
     constructor
     · intro h; cases h
     · rintro ⟨h1, h2, h3⟩
       rw [h2] at hy
       cases hy
   | true =>
     cases ha : t.ahead with
     | true => simp
     | false => simp [hs]; simpa using hy
def fits (t : T) (p : Int) : Bool := t.check == 0 && (decide (0 ≤ p) && decide (p ≤ 15))
def opt (t : T) (p : Int) : T := bif fits t p then t.rw p else leaf 0 0
def optE (t : T) (p : Int) : Int := bif fits t p then 0 else 160
end Co
def DoOut (ok : Nat → Prop) (t : Co.T) (p : Int) (w : World) (e : Ending) (w' : World) : Prop := Below w.heap.size w w' ∧ ∃ v, e = .returned (.tuple #[v, .int .i64 (Co.optE t p)]) ∧ CoreIn (fun b => ok b ∨ w.heap.size ≤ b) w' (Co.opt t p) v
set_option maxHeartbeats 4000000 in
theorem do_any (ok : Nat → Prop) (t : Co.T) (v : Value) (p : Int) (w : World) (hok : ∀ b, ok b → b < w.heap.size) (hv : CoreIn ok w t v) (hsz : t.size ≤ 2000000) :
   Calls Tryz.prog 18 #[v, .int .i64 p] w (DoOut ok t p w) := by
 obtain ⟨op, n, s, q, ln, c, rfl, hop, hn, hs, hln⟩ := zzu hv
 have HV := hid' hv
 have HOK := hid' hok
 have HCK := hid' (fun (W : World) (hb : Below w.heap.size w W) => checkT_any t _ W ((hv.under hb).at' (Nat.le_refl _)) hsz)
 have hx0 := ((Below.refl _ w).alloc (Nat.le_refl _) (.cells #[.int .i64 op, .int .i64 n, .string s, .slice q ln c] 24))
 have hx1 := hx0.alloc (by simp) (.cells #[.int .i64 0, .int .i64 0, .string ⟨#[]⟩, .slice none 0 0] 24)
 have y0 := heap_alloc_new w (.cells #[.int .i64 op, .int .i64 n, .string s, .slice q ln c] 24)
 have y1 := heap_alloc_new (w.alloc (.cells #[.int .i64 op, .int .i64 n, .string s, .slice q ln c] 24)) (.cells #[.int .i64 0, .int .i64 0, .string ⟨#[]⟩, .slice none 0 0] 24)
 have z1 : ∀ (W : World) (o : Obj) (k : Nat) (x : Obj), W.heap[k]? = some x → (W.alloc o).heap[k]? = some x := fun W o k x h => (((Below.refl W.heap.size W).alloc (Nat.le_refl _) o).block k (zzc h)).trans h
 replace y0 := z1 _ (.cells #[.int .i64 0, .int .i64 0, .string ⟨#[]⟩, .slice none 0 0] 24) _ _ y0
 simp only [World.size_alloc] at y1
 obtain ⟨ck, hck⟩ : ∃ ck, Hid (t.check = ck) := ⟨_, hid' rfl⟩
 rw [hck.out] at HCK
 clear hx0 z1 hok hop hn hs hln hv
 go_enter Tryz.func18, Tryz.ntmps18
 go_upto_region 1 with (fail)
 generalize World.alloc _ _ = w1 at *
 have HB := hid' hx1
 have HC := hid' y0
 have HR := hid' y1
 obtain ⟨c0, c1, c2, c3⟩ := zza y0
 clear hx1 y0 y1
 go_wp2_with fail
 refine (HCK.out _ HB.out).mono ?_
 rintro e w2 ⟨rfl, b2⟩
 have HB2 := hid' (Below.more HB.out b2)
 have HC2 := hid' ((b2.block _ (zzc HC.out)).trans HC.out)
 have HR2 := hid' ((b2.block _ (zzc HR.out)).trans HR.out)
 clear b2 c0 c1 c2 c3
 obtain ⟨c0, c1, c2, c3⟩ := zza HC2.out
 obtain ⟨r0, r1, r2, r3⟩ := zza HR2.out
 have f0 : ∀ o, w2.frozen? ⟨w.heap.size + 1, o, none⟩ = false := fun o => Rw.frozen_of HR2.out
 by_cases hfit : ck = 0 ∧ 0 ≤ p ∧ p ≤ 15
 · obtain ⟨rfl, h1, h2⟩ := hfit
   have HF := hid' (show Co.fits t p = true by unfold Co.fits; rw [hck.out]; simp [h1, h2])
   have HP := hid' (And.intro h1 h2)
   have g1 : decide (p < 0) = false := decide_eq_false (by omega)
   have g2 : decide (15 < p) = false := decide_eq_false (by omega)
   clear h1 h2
   go_wp2_with fail
   clear c0 c1 c2 c3 r0 r1 r2 r3 f0
   refine zzt (fun W => W.heap[w.heap.size]? = some (.cells #[.int .i64 op, .int .i64 n, .string s, .slice q ln c] 24 (0, 0)) ∧ W.heap[w.heap.size + 1]? = some (.cells #[.int .i64 0, .int .i64 0, .string ⟨#[]⟩, .slice none 0 0] 24 (0, 0))) 4 [false, false, true, true, true, true] (by kernel_rfl) (by kernel_rfl) (by kernel_rfl) ⟨HC2.out, HR2.out⟩ ?_
   iterate 2
     apply zzp
     · rfl
     · intro W hW
       obtain ⟨d0, d1, d2, d3⟩ := zza hW.1
       first | (go_simp; done) | (go_simp; with_reducible rfl)
     simp only [Act.put, List.setIfInBounds_toArray, List.set_cons_zero, List.set_cons_succ]
   refine wpChain_call 46 #[] (fun v w' => v = .slice (some ⟨w2.drew.heap.size, 0, none⟩) 7 7 ∧ Below w2.drew.heap.size w2.drew w' ∧ RulesAt w' w2.drew.heap.size) ?_ ?_ ?_ ?_
   · rfl
   · go_simp
   · refine (rules_any _).mono ?_
     rintro e w' ⟨h1, h2, h3⟩
     exact ⟨_, h1, rfl, h2, h3⟩
   rintro v w3 ⟨rfl, b3, hr3⟩
   have b23 : Below w2.heap.size w2 w3 := (Below.refl _ w2).drew.trans b3
   have HB3 := hid' (HB2.out.trans (b23.mono HB2.out.size))
   have HC3 := hid' ((b23.block _ (zzc HC2.out)).trans HC2.out)
   have HR3 := hid' ((b23.block _ (zzc HR2.out)).trans HR2.out)
   have HRL := hid' hr3
   refine ⟨.inr ⟨HC3.out, HR3.out⟩, ?_⟩
   simp only [Act.put, List.setIfInBounds_toArray, List.set_cons_zero, List.set_cons_succ]
   clear b3 b23 hr3
   refine wpChain_call 45 #[.agg #[.int .i64 op, .int .i64 n, .string s, .slice q ln c], .int .i64 p, .slice (some ⟨w2.drew.heap.size, 0, none⟩) 7 7] (fun v w' => Below w3.heap.size w3 w' ∧ CoreIn (fun b => ok b ∨ w3.heap.size ≤ b) w' (t.rw p) v) ?_ ?_ ?_ ?_
   · rfl
   · go_simp
   · refine (rewrite_any p HP.out t ok _ w2.drew.heap.size w3 (fun b h => Nat.lt_of_lt_of_le (HOK.out b h) HB3.out.size) (HV.out.under HB3.out) (by have := (Co.check_good t).1 hck.out; rw [this.2.1]; decide) HRL.out).mono ?_
     rintro e w' ⟨h1, v, h2, h3⟩
     exact ⟨v, h2, h1, h3⟩
   rintro v w4 ⟨b4, hu⟩
   obtain ⟨uop, un, us, up, ul, uc, rfl, -, -, -, -⟩ := zzu hu
   have HB4 := hid' (HB3.out.trans (b4.mono HB3.out.size))
   have HC4 := hid' ((b4.block _ (zzc HC3.out)).trans HC3.out)
   have HR4 := hid' ((b4.block _ (zzc HR3.out)).trans HR3.out)
   have HU := hid' hu
   refine ⟨.inr ⟨HC4.out, HR4.out⟩, ?_⟩
   simp only [Act.put, List.setIfInBounds_toArray, List.set_cons_zero, List.set_cons_succ]
   clear b4 hu
   obtain ⟨r0, r1, r2, r3⟩ := zza HR4.out
   have f0 : ∀ o, w4.frozen? ⟨w.heap.size + 1, o, none⟩ = false := fun o => Rw.frozen_of HR4.out
   have HS := hid' (And.intro (set4 HR4.out (.int .i64 uop) (.int .i64 un) (.string us) (.slice up ul uc)) (grown4 w4 (w.heap.size + 1) (.int .i64 uop) (.int .i64 un) (.string us) (.slice up ul uc)))
   refine wpChain_put (w' := ((((w4.setCell ⟨w.heap.size + 1, 0, none⟩ (.int .i64 uop)).setCell ⟨w.heap.size + 1, 1, none⟩ (.int .i64 un)).setCell ⟨w.heap.size + 1, 2, none⟩ (.string us)).setCell ⟨w.heap.size + 1, 3, none⟩ (.slice up ul uc))) ?_ ?_ ?_ ?_
   · rfl
   · go_simp
   · exact .inl (Nat.le_refl _)
   clear r0 r1 r2 r3 f0
   obtain ⟨⟨hbx, hbl⟩, hg⟩ := HS.out
   generalize World.setCell _ _ _ = w9 at *
   refine zzr (v := .int .i64 0) (w' := w9) ?_ ?_ ?_ ?_
   · rfl
   · go_simp
   · exact .inl (by decide)
   simp only [Act.put, List.setIfInBounds_toArray, List.set_cons_zero, List.set_cons_succ]
   refine zqs ?_
   have HBX := hid' (And.intro hbx (And.intro hbl hg))
   clear hbx hbl hg
   go_wp2_with fail
   obtain ⟨hbx, hbl, hg⟩ := HBX.out
   obtain ⟨y0, y1, y2, y3⟩ := zza hbx
   refine bodyPost_ret (v := .tuple #[.agg #[.int .i64 uop, .int .i64 un, .string us, .slice up ul uc], .int .i64 0]) (by simp [results, Tryz.results18, go_sem, y0, y1, y2, y3]) rfl ?_
   refine ⟨HB4.out.trans (hbl w.heap.size (by omega)), _, by unfold Co.optE; rw [HF.out]; rfl, ?_⟩
   unfold Co.opt
   rw [HF.out]
   refine HU.out.keep (fun b hb hl => ⟨hb.imp id (fun h => Nat.le_trans HB3.out.size h), hg.block b hl (fun e => ?_)⟩)
   obtain rfl : w.heap.size + 1 = b := by simpa using e.symm
   rcases hb with hb | hb
   · have := HOK.out _ hb; omega
   · have := zzc HR3.out; omega
 · have HF := hid' (show Co.fits t p = false by
     unfold Co.fits
     rw [hck.out]
     rw [Bool.eq_false_iff]
     intro h
     simp only [Bool.and_eq_true, beq_iff_eq, decide_eq_true_eq] at h
     exact hfit h)
   have HS := hid' (set4 HR2.out (.int .i64 0) (.int .i64 0) (.string ⟨#[]⟩) (.slice none 0 0))
   have hfin : ∀ w9 : World, w9.heap[w.heap.size + 1]? = some (.cells #[.int .i64 0, .int .i64 0, .string ⟨#[]⟩, .slice none 0 0] 24 (0, 0)) → Below w.heap.size w w9 → DoOut ok t p w (.returned (.tuple #[.agg #[.int .i64 0, .int .i64 0, .string ⟨#[]⟩, .slice none 0 0], .int .i64 160])) w9 := by
     intro w9 h9 hb
     refine ⟨hb, _, by unfold Co.optE; rw [HF.out]; rfl, ?_⟩
     unfold Co.opt
     rw [HF.out]
     exact coreAt_leaf (by unfold I64; omega) (by unfold I64; omega)
   have HFIN := hid' hfin
   clear hfin
   by_cases h0 : ck = 0
   · subst h0
     by_cases h1 : p < 0
     · have g1 : decide (p < 0) = true := decide_eq_true h1
       clear h1 hfit
       go_wp2_with fail
       obtain ⟨hbx, hbl⟩ := HS.out
       generalize World.setCell _ _ _ = w9 at *
       obtain ⟨y0, y1, y2, y3⟩ := zza hbx
       refine bodyPost_ret (v := .tuple #[.agg #[.int .i64 0, .int .i64 0, .string ⟨#[]⟩, .slice none 0 0], .int .i64 160]) (by simp [results, Tryz.results18, go_sem, y0, y1, y2, y3]) rfl ?_
       exact HFIN.out w9 hbx (HB2.out.trans (hbl w.heap.size (by omega)))
     · have g1 : decide (p < 0) = false := decide_eq_false h1
       have g2 : decide (15 < p) = true := decide_eq_true (by omega)
       clear h1 hfit
       go_wp2_with fail
       obtain ⟨hbx, hbl⟩ := HS.out
       generalize World.setCell _ _ _ = w9 at *
       obtain ⟨y0, y1, y2, y3⟩ := zza hbx
       refine bodyPost_ret (v := .tuple #[.agg #[.int .i64 0, .int .i64 0, .string ⟨#[]⟩, .slice none 0 0], .int .i64 160]) (by simp [results, Tryz.results18, go_sem, y0, y1, y2, y3]) rfl ?_
       exact HFIN.out w9 hbx (HB2.out.trans (hbl w.heap.size (by omega)))
   · have g0 : (ck != 0) = true := by simpa using h0
     clear h0 hfit
     go_wp2_with fail
     obtain ⟨hbx, hbl⟩ := HS.out
     generalize World.setCell _ _ _ = w9 at *
     obtain ⟨y0, y1, y2, y3⟩ := zza hbx
     refine bodyPost_ret (v := .tuple #[.agg #[.int .i64 0, .int .i64 0, .string ⟨#[]⟩, .slice none 0 0], .int .i64 160]) (by simp [results, Tryz.results18, go_sem, y0, y1, y2, y3]) rfl ?_
     exact HFIN.out w9 hbx (HB2.out.trans (hbl w.heap.size (by omega)))
end
section
open Go.RowKit
set_option maxRecDepth 100000
theorem drop_one {α : Type} {l : List α} {i : Nat} {k : α} (h : l[i]? = some k) : l.drop i = k :: l.drop (i + 1) := by
 obtain ⟨hi, rfl⟩ := List.getElem?_eq_some_iff.1 h
 exact (List.drop_eq_getElem_cons hi)
theorem any_true_of {α : Type} {l : List α} {k : α} {f : α → Bool} (h : k ∈ l) (hf : f k = true) : l.any f = true := List.any_eq_true.2 ⟨k, h, hf⟩
theorem any_take_succ {α : Type} {l : List α} {i : Nat} {k : α} (f : α → Bool) (h : l[i]? = some k) : (l.take (i + 1)).any f = ((l.take i).any f || f k) := by
 rw [take_one h, List.any_append]
 simp
set_option maxHeartbeats 4000000 in
theorem refLeft_any (t : Co.T) : ∀ (m d : Int) (ok : Nat → Prop) (v : Value) (w : World), CoreIn ok w t v → t.size ≤ 2000000 → 0 ≤ m → m ≤ 2000 → 0 ≤ d → d ≤ 201 → Calls Tryz.prog 108 #[v, .int .i64 m, .int .i64 d] w (Gives (.int .i64 (t.left m d)) w) := by
 induction t using Co.T.ind with | h op n s ks ih => ?_
 intro m d ok v w hv hsz hm0 hm1 hd0 hd1
 obtain ⟨q, c, rfl, hc, ho, hn, hs, hk⟩ := hv.open
 simp only [Co.T.op, Co.T.n, Co.T.s, Co.T.ks] at hk ⊢
 have HIH := hid' ih
 have HK := hid' hk
 have HN64 := hid' hn
 have HZS := hid' (show Co.sizes ks ≤ 2000000 by rw [Co.T.size] at hsz; omega)
 have HZ := hid' (show ks.length ≤ 2000000 by rw [Co.T.size] at hsz; have := Co.sizes_len ks; omega)
 have HSZ := hid' (fun k (h : k ∈ ks) => show k.size ≤ 2000000 by have := Co.sizes_mem h; rw [Co.T.size] at hsz; omega)
 have HB := hid' ((Below.refl w.heap.size w).alloc (Nat.le_refl _) (.cells #[.int .i64 op, .int .i64 n, .string s, .slice q ks.length c] 24))
 have HC := hid' (heap_alloc_new w (.cells #[.int .i64 op, .int .i64 n, .string s, .slice q ks.length c] 24))
 obtain ⟨R, hR⟩ : ∃ R, Hid ((Co.T.mk op n s ks).left m d = R) := ⟨_, hid' rfl⟩
 rw [hR.out]
 have HE := hid' (show R = if 200 < d then -1 else Co.lefts ks (m - 1) (d + 1) by rw [← hR.out, Co.T.left])
 have hmw : IntKind.i64.wrap (m - 1) = m - 1 := IntWalk.i64_in _ (by omega)
 have hdw : IntKind.i64.wrap (d + 1) = d + 1 := IntWalk.i64_in _ (by omega)
 have HD := hid' hd0
 have HM1 := hid' (show -1 ≤ m - 1 ∧ m - 1 ≤ 2000 by omega)
 clear ih hk hc ho hn hs hsz hv hm0 hm1 hd0 hd1
 go_enter Tryz.func108, Tryz.ntmps108
 go_upto_region 1 with (fail)
 generalize World.alloc _ _ = w1 at *
 obtain ⟨c0, c1, c2, c3⟩ := zza HC.out
 by_cases h200 : 200 < d
 · have HN := hid' (show R = -1 by rw [HE.out, if_pos h200])
   have g0 : decide (200 < d) = true := decide_eq_true h200
   clear h200
   go_wp2_with fail
   go_ret
   exact ⟨by rw [HN.out]; rfl, HB.out⟩
 · have HE2 := hid' (show R = Co.lefts ks (m - 1) (d + 1) by rw [HE.out, if_neg h200])
   have g0 : decide (200 < d) = false := decide_eq_false h200
   have HD2 := hid' (show 0 ≤ d + 1 ∧ d + 1 ≤ 201 by have := HD.out; omega)
   clear h200
   go_wp2_with fail
   clear g0
   go_loopw [1, 7] (fun mv iv wr => ∃ (i : Nat) (x : Int), iv = .int .i64 (i : Int) ∧ mv = .int .i64 x ∧ i ≤ ks.length ∧ Hid (Below w1.heap.size w1 wr ∧ R = Co.lefts (ks.drop i) x (d + 1) ∧ -1 ≤ x ∧ x ≤ 2000)) (fun _ iv _ => ks.length - (intOf iv).toNat)
   case atStart => exact ⟨0, m - 1, rfl, rfl, Nat.zero_le _, hid' ⟨Below.refl _ _, HE2.out, HM1.out⟩⟩
   case round =>
     obtain ⟨i, x, rfl, rfl, hi, HJ⟩ := hrel
     have hc1 := (HJ.out.1.block _ (zzc HC.out)).trans HC.out
     obtain ⟨d0, d1, d2, d3⟩ := zza hc1
     have HB1 := hid' (HB.out.trans (HJ.out.1.mono HB.out.size))
     clear hc1
     by_cases hik : i < ks.length
     · obtain ⟨k, hkk⟩ : ∃ k, ks[i]? = some k := ⟨_, List.getElem?_eq_getElem hik⟩
       obtain ⟨vk, hrow, hvk⟩ := HK.out i k hkk
       obtain ⟨b, off, x0, y0, z0, u0, e, hlb, hve, r0, r1, r2, r3⟩ := hrow.keep (fun b h hl => ⟨h, HB1.out.block b hl⟩)
       subst e
       have HKV := hid' hvk
       obtain ⟨pk, ck, rfl, -, -, -, -, -⟩ := hvk.open
       obtain ⟨rfl, rfl, rfl, rfl⟩ : .int .i64 k.op = x0 ∧ .int .i64 k.n = y0 ∧ .string k.s = z0 ∧ .slice pk k.ks.length ck = u0 := by simpa using hve
       have g0 : decide ((i : Int) < (ks.length : Int)) = true := by simp; omega
       have j1 : (0 : Int) ≤ (i : Int) := by omega
       have j2 : (i : Int) < (ks.length : Int) := by omega
       have hiw : IntKind.i64.wrap ((i : Int) + 1) = (i : Int) + 1 := IntWalk.i64_in _ (by have := HZ.out; omega)
       have HKK := hid' hkk
       clear hve hrow hvk
       by_cases hx : 0 ≤ x
       · have g1 : decide (0 ≤ x) = true := decide_eq_true hx
         have HNE := hid' (show R = Co.lefts (ks.drop (i + 1)) (k.left x (d + 1)) (d + 1) by rw [HJ.out.2.1, drop_one hkk, Co.lefts, if_pos hx])
         have HSP := hid' (show -1 ≤ k.left x (d + 1) ∧ k.left x (d + 1) ≤ 2000 by
           have h1 := (Co.left_spec k x (d + 1) hx).1
           have h2 := HJ.out.2.2.2
           omega)
         have HX := hid' hx
         clear hx hkk
         go_wp2_with fail
         refine (HIH.out k (List.mem_of_getElem? HKK.out) x (d + 1) ok _ wr (HKV.out.under HB1.out) (HSZ.out k (List.mem_of_getElem? HKK.out)) HX.out HJ.out.2.2.2 HD2.out.1 HD2.out.2).mono ?_
         rintro e w5 ⟨rfl, b5⟩
         have HJ5 := hid' (HJ.out.1.trans (b5.mono HJ.out.1.size))
         clear b5 r0 r1 r2 r3 d0 d1 d2 d3
         have HNX := hid' (show Below w1.heap.size w1 w5 ∧ R = Co.lefts (ks.drop (i + 1)) (k.left x (d + 1)) (d + 1) ∧ -1 ≤ k.left x (d + 1) ∧ k.left x (d + 1) ≤ 2000 from ⟨HJ5.out, HNE.out, HSP.out⟩)
         go_wp2_with fail
         go_roundw
         case rel => exact ⟨i + 1, _, by go_num, rfl, by omega, HNX⟩
         case measure => simp only [intOf]; omega
       · have g1 : decide (0 ≤ x) = false := decide_eq_false hx
         have HY := hid' (show R = x by rw [HJ.out.2.1, Co.lefts_neg _ (by omega)])
         clear hx hkk r0 r1 r2 r3
         go_wp2_with fail
         go_ret
         exact ⟨by rw [HY.out]; rfl, HB1.out⟩
     · obtain rfl : i = ks.length := by omega
       have g0 : decide (ks.length < ks.length) = false := by simp
       have HY := hid' (show R = x by
         rw [HJ.out.2.1, List.drop_eq_nil_of_le (Nat.le_refl _), Co.lefts])
       clear hik
       go_wp2_with fail
       go_ret
       exact ⟨by rw [HY.out]; rfl, HB1.out⟩
theorem refSmall_any (t : Co.T) (ok : Nat → Prop) (v : Value) (w : World) (hv : CoreIn ok w t v) (hsz : t.size ≤ 2000000) : Calls Tryz.prog 53 #[v] w (Gives (.bool (Co.small t)) w) := by
 obtain ⟨op, n, s, q, ln, c, rfl, hop, hn, hs, hln⟩ := zzu hv
 have HV := hid' hv
 have HSZ := hid' hsz
 have HB := hid' ((Below.refl w.heap.size w).alloc (Nat.le_refl _) (.cells #[.int .i64 op, .int .i64 n, .string s, .slice q ln c] 24))
 have HC := hid' (heap_alloc_new w (.cells #[.int .i64 op, .int .i64 n, .string s, .slice q ln c] 24))
 rw [← Co.left_small t]
 clear hop hn hs hln hv hsz
 go_enter Tryz.func53, Tryz.ntmps53
 go_upto_region 1 with (fail)
 generalize World.alloc _ _ = w1 at *
 obtain ⟨c0, c1, c2, c3⟩ := zza HC.out
 go_wp2_with fail
 refine (refLeft_any t 2000 1 ok _ w1 (HV.out.under HB.out) HSZ.out (by decide) (by decide) (by decide) (by decide)).mono ?_
 rintro e w2 ⟨rfl, b2⟩
 have HB2 := hid' (HB.out.trans (b2.mono HB.out.size))
 clear b2
 go_wp2_with fail
 go_ret
 exact ⟨rfl, HB2.out⟩
set_option maxHeartbeats 4000000 in
theorem refAhead_any (t : Co.T) : ∀ (ok : Nat → Prop) (v : Value) (w : World), CoreIn ok w t v → t.size ≤ 2000000 → Calls Tryz.prog 23 #[v] w (Gives (.bool t.ahead) w) := by
 induction t using Co.T.ind with | h op n s ks ih => ?_
 intro ok v w hv hsz
 obtain ⟨q, c, rfl, hc, ho, hn, hs, hk⟩ := hv.open
 simp only [Co.T.op, Co.T.n, Co.T.s, Co.T.ks] at hk ⊢
 have HIH := hid' ih
 have HK := hid' hk
 have HN64 := hid' hn
 have HZS := hid' (show Co.sizes ks ≤ 2000000 by rw [Co.T.size] at hsz; omega)
 have HZ := hid' (show ks.length ≤ 2000000 by rw [Co.T.size] at hsz; have := Co.sizes_len ks; omega)
 have HSZ := hid' (fun k (h : k ∈ ks) => show k.size ≤ 2000000 by have := Co.sizes_mem h; rw [Co.T.size] at hsz; omega)
 have HB := hid' ((Below.refl w.heap.size w).alloc (Nat.le_refl _) (.cells #[.int .i64 op, .int .i64 n, .string s, .slice q ks.length c] 24))
 have HC := hid' (heap_alloc_new w (.cells #[.int .i64 op, .int .i64 n, .string s, .slice q ks.length c] 24))
 obtain ⟨R, hR⟩ : ∃ R, Hid ((Co.T.mk op n s ks).ahead = R) := ⟨_, hid' rfl⟩
 rw [hR.out]
 have HE := hid' (show R = (((op == 4 || op == 5) && decide (n < 0)) || ks.any Co.T.ahead) by rw [← hR.out, Co.ahead_eq])
 clear ih hk hc ho hn hs hsz hv
 go_enter Tryz.func23, Tryz.ntmps23
 go_upto_region 1 with (fail)
 generalize World.alloc _ _ = w1 at *
 obtain ⟨c0, c1, c2, c3⟩ := zza HC.out
 by_cases hn0 : n < 0
 · have gn : decide (n < 0) = true := decide_eq_true hn0
   clear hn0
   by_cases h45 : op = 4 ∨ op = 5
   · have HN := hid' (show R = true by
       rw [HE.out, gn]
       rcases h45 with rfl | rfl <;> simp)
     rcases h45 with rfl | rfl
     all_goals
       go_wp2_with fail
       go_ret
       exact ⟨by rw [HN.out]; rfl, HB.out⟩
   · simp only [not_or] at h45
     have HROOT := hid' (show ((op == 4 || op == 5) && decide (n < 0)) = false by simp [h45.1, h45.2])
     have g4 : (op == 4) = false := by simpa using h45.1
     have g5 : (op == 5) = false := by simpa using h45.2
     clear h45
     go_wp2_with fail
     go_loopw [3] (fun iv wr => ∃ (i : Nat), iv = .int .i64 (i : Int) ∧ i ≤ ks.length ∧ Hid (Below w1.heap.size w1 wr ∧ (ks.take i).any Co.T.ahead = false)) (fun iv _ => ks.length - (intOf iv).toNat)
     case atStart => exact ⟨0, rfl, Nat.zero_le _, hid' ⟨Below.refl _ _, rfl⟩⟩
     case round =>
       obtain ⟨i, rfl, hi, HJ⟩ := hrel
       have hc1 := (HJ.out.1.block _ (zzc HC.out)).trans HC.out
       obtain ⟨d0, d1, d2, d3⟩ := zza hc1
       have HB1 := hid' (HB.out.trans (HJ.out.1.mono HB.out.size))
       clear hc1
       by_cases hik : i < ks.length
       · obtain ⟨k, hkk⟩ : ∃ k, ks[i]? = some k := ⟨_, List.getElem?_eq_getElem hik⟩
         obtain ⟨vk, hrow, hvk⟩ := HK.out i k hkk
         obtain ⟨b, off, x0, y0, z0, u0, e, hlb, hve, r0, r1, r2, r3⟩ := hrow.keep (fun b h hl => ⟨h, HB1.out.block b hl⟩)
         subst e
         have HKV := hid' hvk
         obtain ⟨pk, ck, rfl, -, -, -, -, -⟩ := hvk.open
         obtain ⟨rfl, rfl, rfl, rfl⟩ : .int .i64 k.op = x0 ∧ .int .i64 k.n = y0 ∧ .string k.s = z0 ∧ .slice pk k.ks.length ck = u0 := by simpa using hve
         have g0 : decide ((i : Int) < (ks.length : Int)) = true := by simp; omega
         have j1 : (0 : Int) ≤ (i : Int) := by omega
         have j2 : (i : Int) < (ks.length : Int) := by omega
         have hiw : IntKind.i64.wrap ((i : Int) + 1) = (i : Int) + 1 := IntWalk.i64_in _ (by have := HZ.out; omega)
         have HKK := hid' hkk
         clear hve hkk hrow hvk
         go_wp2_with fail
         refine (HIH.out k (List.mem_of_getElem? HKK.out) ok _ wr (HKV.out.under HB1.out) (HSZ.out k (List.mem_of_getElem? HKK.out))).mono ?_
         rintro e w5 ⟨rfl, b5⟩
         have HW5 := hid' (HB1.out.trans (b5.mono HB1.out.size))
         have HJ5 := hid' (HJ.out.1.trans (b5.mono HJ.out.1.size))
         clear b5 r0 r1 r2 r3 d0 d1 d2 d3
         obtain ⟨g, hg⟩ : ∃ g, Hid (k.ahead = g) := ⟨_, hid' rfl⟩
         rw [hg.out]
         cases g with
         | false =>
           have HNX := hid' (show Below w1.heap.size w1 w5 ∧ (ks.take (i + 1)).any Co.T.ahead = false from ⟨HJ5.out, by rw [any_take_succ _ HKK.out, HJ.out.2, hg.out]; rfl⟩)
           go_wp2_with fail
           go_roundw
           case rel => exact ⟨i + 1, by go_num, by omega, HNX⟩
           case measure => simp only [intOf]; omega
         | true =>
           have HN := hid' (show R = true by rw [HE.out, any_true_of (List.mem_of_getElem? HKK.out) hg.out, Bool.or_true])
           go_wp2_with fail
           go_ret
           exact ⟨by rw [HN.out]; rfl, HW5.out⟩
       · obtain rfl : i = ks.length := by omega
         have g0 : decide (ks.length < ks.length) = false := by simp
         have HY := hid' (show R = false by
           rw [HE.out]
           have h2 := HJ.out.2
           rw [List.take_length] at h2
           rw [h2, HROOT.out]
           rfl)
         clear hik
         go_wp2_with fail
         go_ret
         exact ⟨by rw [HY.out]; rfl, HB1.out⟩
 · have gn : decide (n < 0) = false := decide_eq_false hn0
   have HROOT := hid' (show ((op == 4 || op == 5) && decide (n < 0)) = false by rw [gn, Bool.and_false])
   clear hn0
   rcases (by omega : op = 4 ∨ op = 5 ∨ (op ≠ 4 ∧ op ≠ 5)) with rfl | rfl | ⟨h4, h5⟩
   rotate_right
   · have g4 : (op == 4) = false := by simpa using h4
     have g5 : (op == 5) = false := by simpa using h5
     clear h4 h5
     go_wp2_with fail
     go_loopw [3] (fun iv wr => ∃ (i : Nat), iv = .int .i64 (i : Int) ∧ i ≤ ks.length ∧ Hid (Below w1.heap.size w1 wr ∧ (ks.take i).any Co.T.ahead = false)) (fun iv _ => ks.length - (intOf iv).toNat)
     case atStart => exact ⟨0, rfl, Nat.zero_le _, hid' ⟨Below.refl _ _, rfl⟩⟩
     case round =>
       obtain ⟨i, rfl, hi, HJ⟩ := hrel
       have hc1 := (HJ.out.1.block _ (zzc HC.out)).trans HC.out
       obtain ⟨d0, d1, d2, d3⟩ := zza hc1
       have HB1 := hid' (HB.out.trans (HJ.out.1.mono HB.out.size))
       clear hc1
       by_cases hik : i < ks.length
       · obtain ⟨k, hkk⟩ : ∃ k, ks[i]? = some k := ⟨_, List.getElem?_eq_getElem hik⟩
         obtain ⟨vk, hrow, hvk⟩ := HK.out i k hkk
         obtain ⟨b, off, x0, y0, z0, u0, e, hlb, hve, r0, r1, r2, r3⟩ := hrow.keep (fun b h hl => ⟨h, HB1.out.block b hl⟩)
         subst e
         have HKV := hid' hvk
         obtain ⟨pk, ck, rfl, -, -, -, -, -⟩ := hvk.open
         obtain ⟨rfl, rfl, rfl, rfl⟩ : .int .i64 k.op = x0 ∧ .int .i64 k.n = y0 ∧ .string k.s = z0 ∧ .slice pk k.ks.length ck = u0 := by simpa using hve
         have g0 : decide ((i : Int) < (ks.length : Int)) = true := by simp; omega
         have j1 : (0 : Int) ≤ (i : Int) := by omega
         have j2 : (i : Int) < (ks.length : Int) := by omega
         have hiw : IntKind.i64.wrap ((i : Int) + 1) = (i : Int) + 1 := IntWalk.i64_in _ (by have := HZ.out; omega)
         have HKK := hid' hkk
         clear hve hkk hrow hvk
         go_wp2_with fail
         refine (HIH.out k (List.mem_of_getElem? HKK.out) ok _ wr (HKV.out.under HB1.out) (HSZ.out k (List.mem_of_getElem? HKK.out))).mono ?_
         rintro e w5 ⟨rfl, b5⟩
         have HW5 := hid' (HB1.out.trans (b5.mono HB1.out.size))
         have HJ5 := hid' (HJ.out.1.trans (b5.mono HJ.out.1.size))
         clear b5 r0 r1 r2 r3 d0 d1 d2 d3
         obtain ⟨g, hg⟩ : ∃ g, Hid (k.ahead = g) := ⟨_, hid' rfl⟩
         rw [hg.out]
         cases g with
         | false =>
           have HNX := hid' (show Below w1.heap.size w1 w5 ∧ (ks.take (i + 1)).any Co.T.ahead = false from ⟨HJ5.out, by rw [any_take_succ _ HKK.out, HJ.out.2, hg.out]; rfl⟩)
           go_wp2_with fail
           go_roundw
           case rel => exact ⟨i + 1, by go_num, by omega, HNX⟩
           case measure => simp only [intOf]; omega
         | true =>
           have HN := hid' (show R = true by rw [HE.out, any_true_of (List.mem_of_getElem? HKK.out) hg.out, Bool.or_true])
           go_wp2_with fail
           go_ret
           exact ⟨by rw [HN.out]; rfl, HW5.out⟩
       · obtain rfl : i = ks.length := by omega
         have g0 : decide (ks.length < ks.length) = false := by simp
         have HY := hid' (show R = false by
           rw [HE.out]
           have h2 := HJ.out.2
           rw [List.take_length] at h2
           rw [h2, HROOT.out]
           rfl)
         clear hik
         go_wp2_with fail
         go_ret
         exact ⟨by rw [HY.out]; rfl, HB1.out⟩
   all_goals
     go_wp2_with fail
     go_loopw [3] (fun iv wr => ∃ (i : Nat), iv = .int .i64 (i : Int) ∧ i ≤ ks.length ∧ Hid (Below w1.heap.size w1 wr ∧ (ks.take i).any Co.T.ahead = false)) (fun iv _ => ks.length - (intOf iv).toNat)
     case atStart => exact ⟨0, rfl, Nat.zero_le _, hid' ⟨Below.refl _ _, rfl⟩⟩
     case round =>
       obtain ⟨i, rfl, hi, HJ⟩ := hrel
       have hc1 := (HJ.out.1.block _ (zzc HC.out)).trans HC.out
       obtain ⟨d0, d1, d2, d3⟩ := zza hc1
       have HB1 := hid' (HB.out.trans (HJ.out.1.mono HB.out.size))
       clear hc1
       by_cases hik : i < ks.length
       · obtain ⟨k, hkk⟩ : ∃ k, ks[i]? = some k := ⟨_, List.getElem?_eq_getElem hik⟩
         obtain ⟨vk, hrow, hvk⟩ := HK.out i k hkk
         obtain ⟨b, off, x0, y0, z0, u0, e, hlb, hve, r0, r1, r2, r3⟩ := hrow.keep (fun b h hl => ⟨h, HB1.out.block b hl⟩)
         subst e
         have HKV := hid' hvk
         obtain ⟨pk, ck, rfl, -, -, -, -, -⟩ := hvk.open
         obtain ⟨rfl, rfl, rfl, rfl⟩ : .int .i64 k.op = x0 ∧ .int .i64 k.n = y0 ∧ .string k.s = z0 ∧ .slice pk k.ks.length ck = u0 := by simpa using hve
         have g0 : decide ((i : Int) < (ks.length : Int)) = true := by simp; omega
         have j1 : (0 : Int) ≤ (i : Int) := by omega
         have j2 : (i : Int) < (ks.length : Int) := by omega
         have hiw : IntKind.i64.wrap ((i : Int) + 1) = (i : Int) + 1 := IntWalk.i64_in _ (by have := HZ.out; omega)
         have HKK := hid' hkk
         clear hve hkk hrow hvk
         go_wp2_with fail
         refine (HIH.out k (List.mem_of_getElem? HKK.out) ok _ wr (HKV.out.under HB1.out) (HSZ.out k (List.mem_of_getElem? HKK.out))).mono ?_
         rintro e w5 ⟨rfl, b5⟩
         have HW5 := hid' (HB1.out.trans (b5.mono HB1.out.size))
         have HJ5 := hid' (HJ.out.1.trans (b5.mono HJ.out.1.size))
         clear b5 r0 r1 r2 r3 d0 d1 d2 d3
         obtain ⟨g, hg⟩ : ∃ g, Hid (k.ahead = g) := ⟨_, hid' rfl⟩
         rw [hg.out]
         cases g with
         | false =>
           have HNX := hid' (show Below w1.heap.size w1 w5 ∧ (ks.take (i + 1)).any Co.T.ahead = false from ⟨HJ5.out, by rw [any_take_succ _ HKK.out, HJ.out.2, hg.out]; rfl⟩)
           go_wp2_with fail
           go_roundw
           case rel => exact ⟨i + 1, by go_num, by omega, HNX⟩
           case measure => simp only [intOf]; omega
         | true =>
           have HN := hid' (show R = true by rw [HE.out, any_true_of (List.mem_of_getElem? HKK.out) hg.out, Bool.or_true])
           go_wp2_with fail
           go_ret
           exact ⟨by rw [HN.out]; rfl, HW5.out⟩
       · obtain rfl : i = ks.length := by omega
         have g0 : decide (ks.length < ks.length) = false := by simp
         have HY := hid' (show R = false by
           rw [HE.out]
           have h2 := HJ.out.2
           rw [List.take_length] at h2
           rw [h2, HROOT.out]
           rfl)
         clear hik
         go_wp2_with fail
         go_ret
         exact ⟨by rw [HY.out]; rfl, HB1.out⟩
end
section
open Go.RowKit
open Rw
set_option maxRecDepth 100000
def IntRow (base : Nat) (w : World) (v : Value) (L : List Int) : Prop := w.ownsRow base 3 1 v L.length (L.map (Value.int .i64))
theorem info_int : (Tryz.prog.info? 3).map (fun i => (i.zero, i.size, i.bytes)) = some (some (.int .i64 0), 1, 8) := by kernel_rfl
theorem append_int {w : World} {ops : Array Oper} {rest : List Oper} {o : Oper} {a : Act} {Q : Exit → Act → World → Prop} (hgd : o.guard = none) (s x : Operand)
   (ho : o.op = .call { callee := .builtin .append, args := #[s, x], argTypes := #[88, 88] })
   (base : Nat) (v : Value) (L : List Int) (hs : a.eval s = v) (hown : IntRow base w v L) (y : Int) (hx : a.eval x = .slice (some ⟨w.heap.size, 0, none⟩) 1 1)
   (hbound : L.length + 1 ≤ 1000000) (hbase : base ≤ w.heap.size)
   (h : ∀ v' w', IntRow base w' v' (L ++ [y]) → w.grownBy w' v.ownBlock → wpList Tryz.prog ops Q rest (a.put o.dst v') w') :
   wpList Tryz.prog ops Q (o :: rest) a (w.alloc (.cells #[.int .i64 y] 3)) := by
 obtain ⟨i, hi, hz, hsz, hby⟩ := info_split info_int
 refine wpList_append_own _ hgd s x 88 ho base 3 i _ 1 8 Tryz.underlying88 hi hz hsz hby rfl (by decide) v L.length _ hs (World.ownsRow.alloc hown _) ⟨w.heap.size, 0, none⟩ 1 1 [.int .i64 y] hx rfl
   (fun j u hj => ?_) (fun u hu => ?_) (by unfold maxLen; omega) (by omega) (by simp; omega) (fun v' w' h1 h2 _ => h v' w' ?_ (grown_trans (grown_of_below ((Below.refl _ _).alloc (Nat.le_refl _) _) _) h2))
 · rw [add_gen, World.cell?_alloc_new, Nat.zero_add, ← hj]
   simp
 · simp only [List.mem_cons, List.not_mem_nil, or_false] at hu
   rcases hu with rfl
   rfl
 · show World.ownsRow w' base _ 1 v' (L ++ [y]).length ((L ++ [y]).map (Value.int .i64))
   rw [List.length_append, List.map_append]
   simpa using h1
theorem IntRow.nil (base : Nat) (W : World) : IntRow base W (.slice none 0 0) [] := ⟨by simp, .inl ⟨rfl, rfl⟩⟩
theorem IntRow.ints {base : Nat} {W : World} {v : Value} {L : List Int} (h : IntRow base W v L) : IntsAt W v L := by
 have h' := h
 obtain ⟨h0, ⟨rfl, hz⟩ | ⟨g, cap, cur, rfl, hrest⟩⟩ := h
 · obtain rfl : L = [] := List.eq_nil_of_length_eq_zero hz
   exact IntsAt.nil W
 · refine ⟨_, _, rfl, fun i x hi => ⟨g, 0, rfl, ?_⟩⟩
   rw [Nat.zero_add, World.ownsRow.cellAt h' i (by have := (List.getElem?_eq_some_iff.1 hi).1; omega), List.getElem?_map, hi]
   rfl
theorem IntRow.below {base : Nat} {W W' : World} {v : Value} {L : List Int} (h : IntRow base W v L) (hb : Below W.heap.size W W') : IntRow base W' v L := by
 obtain ⟨h1, h2⟩ := h
 exact ⟨h1, h2.imp id fun ⟨g, cap, cur, hv, hg, hh, r⟩ => ⟨g, cap, cur, hv, hg, (hb.block g (zzc hh)).trans hh, r⟩⟩
def TypedPost (L : UInt8) (w : World) (e : Ending) (w' : World) : Prop := ∃ x : Int, e = .returned (.tuple #[.int .i64 x, .bool (L != 0)]) ∧ (L ≠ 0 → x = Co.code L) ∧ Below w.heap.size w w'
theorem below_own {base : Nat} {A W W' : World} {r : Option Nat} (h : Below base A W) (g : W.grownBy W' r) (hr : ∀ k, k < base → some k ≠ r) (hs : base ≤ W.heap.size) : Below base A W' :=
 h.trans ⟨g.os, g.tape, g.output, g.size, fun k hk => g.block k (Nat.lt_of_lt_of_le hk hs) (hr k hk)⟩
set_option maxHeartbeats 8000000 in
theorem refTyped_any (t : Co.T) : ∀ (d : Int) (ok : Nat → Prop) (v : Value) (w : World), CoreIn ok w t v → t.size ≤ 2000000 → 0 ≤ d → d + t.depth ≤ 201 → Calls Tryz.prog 54 #[v, .int .i64 d] w (TypedPost t.letter w) := by
 induction t using Co.T.ind with | h op n s ks ih => ?_
 intro d ok v w hv hsz hd0 hdt
 obtain ⟨q, c, rfl, hc, ho, hn, hs, hk⟩ := hv.open
 simp only [Co.T.op, Co.T.n, Co.T.s, Co.T.ks] at hk ⊢
 have HIH := hid' ih
 have HK := hid' hk
 have HSS := hid' (show s.size ≤ 9223372036854775807 from Nat.le_trans hs (by decide))
 have HSZ := hid' (fun k (h : k ∈ ks) => show k.size ≤ 2000000 by have := Co.sizes_mem h; rw [Co.T.size] at hsz; omega)
 have HDD := hid' (fun k (h : k ∈ ks) => show (d + 1) + k.depth ≤ 201 by have := Co.depths_mem h; rw [Co.T.depth] at hdt; omega)
 have HD := hid' (show 0 ≤ d ∧ d ≤ 200 by have := Co.depth_pos (.mk op n s ks); omega)
 have hdw : IntKind.i64.wrap (d + 1) = d + 1 := IntWalk.i64_in _ (by have := HD.out; omega)
 have g200 : decide (200 < d) = false := decide_eq_false (by have := HD.out; omega)
 have HB := hid' ((Below.refl w.heap.size w).alloc (Nat.le_refl _) (.cells #[.int .i64 op, .int .i64 n, .string s, .slice q ks.length c] 24))
 have HC := hid' (heap_alloc_new w (.cells #[.int .i64 op, .int .i64 n, .string s, .slice q ks.length c] 24))
 clear ih hk hc ho hn hs hsz hv hd0 hdt
 obtain ⟨L, hL⟩ : ∃ L, Hid ((Co.T.mk op n s ks).letter = L) := ⟨_, hid' rfl⟩
 rw [hL.out]
 go_enter Tryz.func54, Tryz.ntmps54
 go_upto_region 1 with (fail)
 generalize World.alloc _ _ = w1 at *
 obtain ⟨c0, c1, c2, c3⟩ := zza HC.out
 go_wp2_with fail
 refine (refFields_any op n s _ _ _ w1 HSS.out).mono ?_
 rintro e w2 ⟨rfl, b2⟩
 have HB2 := hid' (HB.out.trans (b2.mono HB.out.size))
 have HC2 := hid' ((b2.block _ (zzc HC.out)).trans HC.out)
 clear b2 c0 c1 c2 c3
 obtain ⟨c0, c1, c2, c3⟩ := zza HC2.out
 cases hf : Co.fields op n s with
 | false =>
   have HN := hid' (show L = 0 by
     rw [← hL.out]
     by_cases h : (Co.T.mk op n s ks).letter = 0
     · exact h
     · rw [Co.fields_of h] at hf; cases hf)
   go_wp2_with fail
   refine bodyPost_ret (results_tmp2 rfl _ _ _) rfl ?_
   exact ⟨0, by rw [HN.out]; rfl, fun h => absurd HN.out h, HB2.out⟩
 | true =>
   have HF := hid' hf
   clear hf
   by_cases h3 : 3 < ks.length
   · have HN := hid' (show L = 0 by
       rw [← hL.out]
       by_cases h : (Co.T.mk op n s ks).letter = 0
       · exact h
       · have := Co.kids_few h; omega)
     have g3 : decide ((3 : Int) < (ks.length : Int)) = true := by simp; omega
     clear h3
     go_wp2_with fail
     refine bodyPost_ret (results_tmp2 rfl _ _ _) rfl ?_
     exact ⟨0, by rw [HN.out]; rfl, fun h => absurd HN.out h, HB2.out⟩
   · have H3 := hid' (show ks.length ≤ 3 by omega)
     have g3 : decide ((3 : Int) < (ks.length : Int)) = false := by simp; omega
     clear h3
     go_wp2_with fail
     clear g3 g200
     go_loopw [7, 8] (fun lv iv wr => ∃ (i : Nat), iv = .int .i64 (i : Int) ∧ i ≤ ks.length ∧ Hid (Below w.heap.size w wr ∧ wr.heap[w.heap.size]? = some (.cells #[.int .i64 op, .int .i64 n, .string s, .slice q ks.length c] 24 (0, 0)) ∧ IntRow (w.heap.size + 1) wr lv (Co.codes (ks.take i)) ∧ ∀ k ∈ ks.take i, k.letter ≠ 0)) (fun _ iv _ => ks.length - (intOf iv).toNat)
     case atStart => exact ⟨0, rfl, Nat.zero_le _, hid' ⟨HB2.out, HC2.out, IntRow.nil _ _, fun k h => by cases h⟩⟩
     case round =>
       obtain ⟨i, rfl, hi, HJ⟩ := hrel
       obtain ⟨d0, d1, d2, d3⟩ := zza HJ.out.2.1
       by_cases hik : i < ks.length
       · obtain ⟨k, hkk⟩ : ∃ k, ks[i]? = some k := ⟨_, List.getElem?_eq_getElem hik⟩
         obtain ⟨vk, hrow, hvk⟩ := HK.out i k hkk
         obtain ⟨b, off, x0, y0, z0, u0, e, hlb, hve, r0, r1, r2, r3⟩ := hrow.keep (fun b h hl => ⟨h, HJ.out.1.block b hl⟩)
         subst e
         have HKV := hid' hvk
         obtain ⟨pk, ck, rfl, -, -, -, -, -⟩ := hvk.open
         obtain ⟨rfl, rfl, rfl, rfl⟩ : .int .i64 k.op = x0 ∧ .int .i64 k.n = y0 ∧ .string k.s = z0 ∧ .slice pk k.ks.length ck = u0 := by simpa using hve
         have g0 : decide ((i : Int) < (ks.length : Int)) = true := by simp; omega
         have j1 : (0 : Int) ≤ (i : Int) := by omega
         have j2 : (i : Int) < (ks.length : Int) := by omega
         have hiw : IntKind.i64.wrap ((i : Int) + 1) = (i : Int) + 1 := IntWalk.i64_in _ (by have := H3.out; omega)
         have HKK := hid' hkk
         clear hve hkk hrow hvk
         go_wp2_with fail
         refine (HIH.out k (List.mem_of_getElem? HKK.out) (d + 1) ok _ wr (HKV.out.under HJ.out.1) (HSZ.out k (List.mem_of_getElem? HKK.out)) (by have := HD.out; omega) (HDD.out k (List.mem_of_getElem? HKK.out))).mono ?_
         rintro e w5 ⟨x, rfl, hx, b5⟩
         have HJ5 := hid' (show Below w.heap.size w w5 ∧ w5.heap[w.heap.size]? = some (.cells #[.int .i64 op, .int .i64 n, .string s, .slice (some ⟨b, off, none⟩) ks.length c] 24 (0, 0)) from ⟨HJ.out.1.trans (b5.mono HJ.out.1.size), (b5.block _ (zzc HJ.out.2.1)).trans HJ.out.2.1⟩)
         have HR5 := hid' (HJ.out.2.2.1.below b5)
         have HL5 := hid' HJ.out.2.2.2
         clear b5 r0 r1 r2 r3 d0 d1 d2 d3
         obtain ⟨g, hg⟩ : ∃ g, Hid ((k.letter != 0) = g) := ⟨_, hid' rfl⟩
         rw [hg.out]
         cases g with
         | false =>
           have HN := hid' (show L = 0 by
             rw [← hL.out]
             by_cases h : (Co.T.mk op n s ks).letter = 0
             · exact h
             · have h1 := Co.kids_ne h k (List.mem_of_getElem? HKK.out)
               have h2 := hg.out
               rw [bne_eq_false_iff_eq] at h2
               exact absurd h2 h1)
           go_wp2_with fail
           refine bodyPost_ret (results_tmp2 rfl _ _ _) rfl ?_
           exact ⟨0, by rw [HN.out]; rfl, fun h => absurd HN.out h, HJ5.out.1⟩
         | true =>
           have HKN := hid' (show k.letter ≠ 0 by have h2 := hg.out; rwa [bne_iff_ne] at h2)
           obtain rfl := hx HKN.out
           clear hx
           go_wp2_with (refine append_int rfl _ _ rfl (w.heap.size + 1) _ _ rfl HR5.out _ rfl (by rw [Co.codes_length, List.length_take]; have := H3.out; omega) (zzc HJ5.out.2) (fun v' w' h1 h2 => ?_); refine halt' ?_)
           refine hid' ?_
           have HNX := hid' (show Below w.heap.size w w' ∧ w'.heap[w.heap.size]? = some (.cells #[.int .i64 op, .int .i64 n, .string s, .slice (some ⟨b, off, none⟩) ks.length c] 24 (0, 0)) ∧ IntRow (w.heap.size + 1) w' v' (Co.codes (ks.take (i + 1))) ∧ ∀ k ∈ ks.take (i + 1), k.letter ≠ 0 by
             refine ⟨below_own HJ5.out.1 h2 (fun k hk => (own_lt HR5.out (by omega)).symm) HJ5.out.1.size, ?_, by rw [Co.codes_take_one HKK.out]; exact h1, fun k' hk' => ?_⟩
             · exact (h2.block _ (zzc HJ5.out.2) (own_lt HR5.out (by omega)).symm).trans HJ5.out.2
             · rw [take_one HKK.out] at hk'
               rcases List.mem_append.1 hk' with h | h
               · exact HL5.out k' h
               · rw [List.mem_singleton.1 h]; exact HKN.out)
           clear h1 h2 HR5 HL5 HJ5
           go_wp2_with fail
           go_roundw
           case rel => exact ⟨i + 1, by go_num, by omega, HNX⟩
           case measure => simp only [intOf]; omega
       · obtain rfl : i = ks.length := by omega
         have g0 : decide (ks.length < ks.length) = false := by simp
         obtain ⟨lv, hlv⟩ : ∃ lv, lv = u7 := ⟨_, rfl⟩
         have HI := hid' (show IntsAt wr u7 (Co.codes ks) by have h := HJ.out.2.2.1.ints; rwa [List.take_length] at h)
         have HL := hid' (show ∀ k ∈ ks, k.letter ≠ 0 by have h := HJ.out.2.2.2; rwa [List.take_length] at h)
         have HBW := hid' HJ.out.1
         have HN3 := hid' (show (Co.codes ks).length ≤ 3 by rw [Co.codes_length]; exact H3.out)
         clear hik HJ
         by_cases h22 : op = 22
         · subst h22
           have HCK := hid' (Co.letter_ck HF.out HL.out)
           rw [hL.out] at HCK
           obtain ⟨l, hl⟩ : ∃ l, Hid (Co.codes ks = l) := ⟨_, hid' rfl⟩
           rw [hl.out] at HI HN3 HCK
           match l, HN3, HCK, HI, hl with
           | [], HN3, HCK, HI, hl =>
             obtain ⟨p, cc, rfl, -⟩ := HI.out
             have HLS := hid' (fun (m : Nat) => refLast_nil p cc (wr.drewN m))
             clear HIH HK HSZ HDD
             have HV := hid' (show (L != 0) = false by rw [HCK.out.1]; rfl)
             go_upto_region 13 with (fail)
             go_quiet ((go_at_call 110; exact Calls.quiet_of_same (HLS.out _)))
             go_wp2_with fail
             refine bodyPost_ret (results_tmp2 rfl _ _ _) rfl ?_
             exact ⟨0, by rw [HV.out]; rfl, fun h => absurd (by simpa using HV.out) h, Below.drewn HBW.out _⟩
           | [x], HN3, HCK, HI, hl =>
             obtain ⟨p, cc, rfl, -⟩ := HI.out
             have HLS := hid' (fun (m : Nat) => refLast_any _ [] x (wr.drewN m) (HI.out.kept (Below.drewn (Below.refl _ _) m)) (by simp))
             clear HIH HK HSZ HDD
             have HV := hid' (show (L != 0) = false by rw [HCK.out.1]; rfl)
             go_upto_region 13 with (fail)
             go_quiet ((go_at_call 110; exact Calls.quiet_of_same (HLS.out _)))
             go_wp2_with fail
             refine bodyPost_ret (results_tmp2 rfl _ _ _) rfl ?_
             exact ⟨x, by rw [HV.out]; rfl, fun h => absurd (by simpa using HV.out) h, Below.drewn HBW.out _⟩
           | [x, y], HN3, HCK, HI, hl =>
             obtain ⟨p, cc, rfl, -⟩ := HI.out
             have HLS := hid' (fun (m : Nat) => refLast_any _ [x] y (wr.drewN m) (HI.out.kept (Below.drewn (Below.refl _ _) m)) (by simp))
             clear HIH HK HSZ HDD
             have HV := hid' (show (L != 0) = false by rw [HCK.out.1]; rfl)
             go_upto_region 13 with (fail)
             go_quiet ((go_at_call 110; exact Calls.quiet_of_same (HLS.out _)))
             go_wp2_with fail
             refine bodyPost_ret (results_tmp2 rfl _ _ _) rfl ?_
             exact ⟨y, by rw [HV.out]; rfl, fun h => absurd (by simpa using HV.out) h, Below.drewn HBW.out _⟩
           | [x, y, z], HN3, HCK, HI, hl =>
             obtain ⟨p, cc, rfl, hcell⟩ := HI.out
             obtain ⟨b, off, rfl, e0⟩ := hcell 0 x rfl
             obtain ⟨b1, off1, h1, e1⟩ := hcell 1 y rfl
             obtain ⟨b2, off2, h2, e2⟩ := hcell 2 z rfl
             cases h1
             cases h2
             have HLS := hid' (fun (m : Nat) => refLast_any _ [x, y] z (wr.drewN m) (HI.out.kept (Below.drewn (Below.refl _ _) m)) (by simp))
             have HZ := hid' (show L ≠ 0 → z = Co.code L by
               intro h
               obtain ⟨a, b, c, rfl, e⟩ := HCK.out.2 h
               have := hl.out
               simp [Co.codes] at this
               rw [← e]
               exact this.2.2.symm)
             rw [Nat.add_zero] at e0
             clear hcell HIH HK HSZ HDD
             by_cases hx : x = 1
             · subst hx
               by_cases hyz : y = z
               · subst hyz
                 by_cases hy4 : y = 4
                 · subst hy4
                   have HV := hid' (show (L != 0) = false by rw [HCK.out.1]; rfl)
                   go_upto_region 13 with (fail)
                   go_quiet ((go_at_call 110; exact Calls.quiet_of_same (HLS.out _)))
                   go_wp2_with fail
                   refine bodyPost_ret (results_tmp2 rfl _ _ _) rfl ?_
                   exact ⟨4, by rw [HV.out]; rfl, fun h => absurd (by simpa using HV.out) h, Below.drewn HBW.out _⟩
                 · have g4 : (y == 4) = false := by simpa using hy4
                   have HH := hid' hy4
                   clear hy4
                   have HV := hid' (show (L != 0) = (y != 4) by rw [HCK.out.1]; simp [Co.ck])
                   go_upto_region 13 with (fail)
                   go_quiet ((go_at_call 110; exact Calls.quiet_of_same (HLS.out _)))
                   go_wp2_with fail
                   refine bodyPost_ret (results_tmp2 rfl _ _ _) rfl ?_
                   exact ⟨y, by rw [HV.out]; rfl, HZ.out, Below.drewn HBW.out _⟩
               · have g4 : (y == z) = false := by simpa using hyz
                 have HH := hid' hyz
                 clear hyz
                 have HV := hid' (show (L != 0) = false by rw [HCK.out.1]; simp [Co.ck, HH.out])
                 go_upto_region 13 with (fail)
                 go_quiet ((go_at_call 110; exact Calls.quiet_of_same (HLS.out _)))
                 go_wp2_with fail
                 refine bodyPost_ret (results_tmp2 rfl _ _ _) rfl ?_
                 exact ⟨z, by rw [HV.out]; rfl, HZ.out, Below.drewn HBW.out _⟩
             · have g4 : (x == 1) = false := by simpa using hx
               have HH := hid' hx
               clear hx
               have HV := hid' (show (L != 0) = false by rw [HCK.out.1]; simp [Co.ck, HH.out])
               go_upto_region 13 with (fail)
               go_quiet ((go_at_call 110; exact Calls.quiet_of_same (HLS.out _)))
               go_wp2_with fail
               refine bodyPost_ret (results_tmp2 rfl _ _ _) rfl ?_
               exact ⟨z, by rw [HV.out]; rfl, HZ.out, Below.drewn HBW.out _⟩
           | _ :: _ :: _ :: _ :: _, HN3, HCK, HI, hl => exact absurd HN3.out (by simp)
         · have HRK := hid' (Co.letter_rk h22 HF.out HL.out)
           rw [hL.out] at HRK
           have g22 : (op == 22) = false := by simpa using h22
           have HKS := hid' (refKids_any op wr)
           clear HIH HK HSZ HDD h22
           obtain ⟨⟨kl, ty, is⟩, hX⟩ : ∃ X, Hid (Co.rk op = X) := ⟨_, hid' rfl⟩
           rw [hX.out] at HRK HKS
           obtain ⟨l, hl⟩ : ∃ l, Hid (Co.codes ks = l) := ⟨_, hid' rfl⟩
           rw [hl.out] at HI HN3 HRK
           obtain ⟨p, cc, rfl, -⟩ := HI.out
           go_wp2_with fail
           refine HKS.out.mono ?_
           rintro e w6 ⟨kv, rfl, b6, hk6⟩
           have HB6 := hid' (HBW.out.trans (b6.mono HBW.out.size))
           have HI6 := hid' (HI.out.kept b6)
           have HK6 := hid' hk6
           obtain ⟨p6, c6, rfl, -⟩ := hk6
           clear b6
           cases is with
           | false =>
             have HV := hid' (show (L != 0) = false by rw [HRK.out.1]; rfl)
             go_wp2_with fail
             refine bodyPost_ret (results_tmp2 rfl _ _ _) rfl ?_
             exact ⟨0, by rw [HV.out]; rfl, fun h => absurd (by simpa using HV.out) h, HB6.out⟩
           | true =>
             by_cases hlen : kl.length = l.length
             · have gl : ((kl.length : Int) != (l.length : Int)) = false := by simp [hlen]
               have HLEN := hid' hlen
               clear hlen
               go_wp2_with fail
               clear gl
               go_loopw [14] (fun iv wx => ∃ (i : Nat), iv = .int .i64 (i : Int) ∧ i ≤ l.length ∧ Hid (Below w6.heap.size w6 wx ∧ l.take i = kl.take i)) (fun iv _ => l.length - (intOf iv).toNat)
               case atStart => exact ⟨0, rfl, Nat.zero_le _, hid' ⟨Below.refl _ _, rfl⟩⟩
               case round =>
                 rename_i wx _ _
                 obtain ⟨i, rfl, hi, HJ⟩ := hrel
                 have HBX := hid' (HB6.out.trans (HJ.out.1.mono HB6.out.size))
                 by_cases hik : i < l.length
                 · obtain ⟨x, hx⟩ : ∃ x, l[i]? = some x := ⟨_, List.getElem?_eq_getElem hik⟩
                   obtain ⟨y, hy⟩ : ∃ y, kl[i]? = some y := ⟨_, List.getElem?_eq_getElem (by have := HLEN.out; omega)⟩
                   obtain ⟨p1, c1', e1, hc1⟩ := HI6.out.kept HJ.out.1
                   obtain ⟨p2, c2', e2, hc2⟩ := HK6.out.kept HJ.out.1
                   cases e1
                   cases e2
                   obtain ⟨ba, oa, rfl, a1⟩ := hc1 i x hx
                   obtain ⟨bb, ob, rfl, a2⟩ := hc2 i y hy
                   have g0 : decide ((i : Int) < (l.length : Int)) = true := by simp; omega
                   have j1 : (0 : Int) ≤ (i : Int) := by omega
                   have j2 : (i : Int) < (l.length : Int) := by omega
                   have j3 : (i : Int) < (kl.length : Int) := by have := HLEN.out; omega
                   have hiw : IntKind.i64.wrap ((i : Int) + 1) = (i : Int) + 1 := IntWalk.i64_in _ (by have := HN3.out; omega)
                   have HXY := hid' (show l.take (i + 1) = l.take i ++ [x] ∧ kl.take (i + 1) = kl.take i ++ [y] from ⟨take_one hx, take_one hy⟩)
                   clear hx hy hc1 hc2
                   by_cases hxy : x = y
                   · subst hxy
                     have HTK := hid' (show l.take (i + 1) = kl.take (i + 1) by rw [HXY.out.1, HXY.out.2, HJ.out.2])
                     go_wp2_with fail
                     go_quiet (fail)
                     go_wp2_with fail
                     go_roundw
                     case rel => exact ⟨i + 1, by go_num, by omega, hid' ⟨Below.drewn HJ.out.1 _, HTK.out⟩⟩
                     case measure => simp only [intOf]; omega
                   · have gx : (x != y) = true := by simpa using hxy
                     have HV := hid' (show (L != 0) = false by
                       rw [HRK.out.1, decide_eq_false (fun e : l = kl => hxy ?_)]
                       · rfl
                       · subst e
                         have h := HXY.out.1.symm.trans HXY.out.2
                         simpa using h)
                     clear hxy
                     go_wp2_with fail
                     go_quiet (fail)
                     go_wp2_with fail
                     refine bodyPost_ret (results_tmp2 rfl _ _ _) rfl ?_
                     exact ⟨0, by rw [HV.out]; rfl, fun h => absurd (by simpa using HV.out) h, Below.drewn HBX.out _⟩
                 · obtain rfl : i = l.length := by omega
                   have g0 : decide (l.length < l.length) = false := by simp
                   have HEQ := hid' (show l = kl by
                     have h := HJ.out.2
                     rw [List.take_length, ← HLEN.out, List.take_length] at h
                     exact h)
                   have HV := hid' (show (L != 0) = true by
                     rw [HRK.out.1, decide_eq_true HEQ.out]
                     rfl)
                   clear hik
                   go_wp2_with fail
                   refine bodyPost_ret (results_tmp2 rfl _ _ _) rfl ?_
                   exact ⟨ty, by rw [HV.out]; rfl, HRK.out.2, HBX.out⟩
             · have gl : ((kl.length : Int) != (l.length : Int)) = true := by simp; omega
               have HV := hid' (show (L != 0) = false by
                 rw [HRK.out.1, decide_eq_false (fun e : l = kl => hlen (by rw [e]))]
                 rfl)
               clear hlen
               go_wp2_with fail
               refine bodyPost_ret (results_tmp2 rfl _ _ _) rfl ?_
               exact ⟨0, by rw [HV.out]; rfl, fun h => absurd (by simpa using HV.out) h, HB6.out⟩
end
section
open Go.RowKit
set_option maxRecDepth 100000
namespace Co
def T.typed (t : T) : Bool := small t && (t.letter != 0)
def T.rcheck (t : T) : Int := if t.typed = true ∧ t.letter = 99 then (if t.ahead = true then 141 else 0) else 140
theorem rcheck_good (t : T) : t.rcheck = 0 ↔ t.good := by
 unfold T.rcheck T.good T.typed
 by_cases h : (small t && (t.letter != 0)) = true ∧ t.letter = 99
 · rw [if_pos h]
   have h1 : small t = true := by
     have := h.1
     rw [Bool.and_eq_true] at this
     exact this.1
   by_cases ha : t.ahead = true
   · rw [if_pos ha]
     simp [ha]
   · rw [if_neg ha]
     simp [h1, h.2, ha]
 · rw [if_neg h]
   constructor
   · intro h'; cases h'
   · rintro ⟨h1, h2, -⟩
     exact absurd ⟨by rw [h1, h2]; rfl, h2⟩ h
end Co
def TypePost (R : Bool) (L : UInt8) (w : World) (e : Ending) (w' : World) : Prop := ∃ x : Int, e = .returned (.tuple #[.int .i64 x, .bool R]) ∧ (R = true → x = Co.code L) ∧ Below w.heap.size w w'
theorem refType_any (t : Co.T) (ok : Nat → Prop) (v : Value) (w : World) (hv : CoreIn ok w t v) (hsz : t.size ≤ 2000000) : Calls Tryz.prog 22 #[v] w (TypePost t.typed t.letter w) := by
 obtain ⟨op, n, s, q, ln, c, rfl, hop, hn, hs, hln⟩ := zzu hv
 have HV := hid' hv
 have HSZ := hid' hsz
 have HB := hid' ((Below.refl w.heap.size w).alloc (Nat.le_refl _) (.cells #[.int .i64 op, .int .i64 n, .string s, .slice q ln c] 24))
 have HC := hid' (heap_alloc_new w (.cells #[.int .i64 op, .int .i64 n, .string s, .slice q ln c] 24))
 obtain ⟨R, hR⟩ : ∃ R, Hid (t.typed = R) := ⟨_, hid' rfl⟩
 obtain ⟨L, hL⟩ : ∃ L, Hid (t.letter = L) := ⟨_, hid' rfl⟩
 rw [hR.out, hL.out]
 have HE := hid' (show R = (Co.small t && (L != 0)) by rw [← hR.out, ← hL.out]; rfl)
 clear hop hn hs hln hv hsz
 go_enter Tryz.func22, Tryz.ntmps22
 go_upto_region 1 with (fail)
 generalize World.alloc _ _ = w1 at *
 obtain ⟨c0, c1, c2, c3⟩ := zza HC.out
 go_wp2_with fail
 refine (refSmall_any t ok _ w1 (HV.out.under HB.out) HSZ.out).mono ?_
 rintro e w2 ⟨rfl, b2⟩
 have HB2 := hid' (HB.out.trans (b2.mono HB.out.size))
 have HC2 := hid' ((b2.block _ (zzc HC.out)).trans HC.out)
 clear b2 c0 c1 c2 c3
 obtain ⟨c0, c1, c2, c3⟩ := zza HC2.out
 cases hsm : Co.small t with
 | false =>
   have HN := hid' (show R = false by rw [HE.out, hsm]; rfl)
   go_wp2_with fail
   refine bodyPost_ret (results_tmp2 rfl _ _ _) rfl ?_
   exact ⟨0, by rw [HN.out]; rfl, fun h => absurd (HN.out.symm.trans h) (by decide), HB2.out⟩
 | true =>
   have HD := hid' (show (1 : Int) + t.depth ≤ 201 by have := (Co.small_iff t).1 hsm; omega)
   have HN := hid' (show R = (L != 0) by rw [HE.out, hsm]; rfl)
   clear hsm
   go_wp2_with fail
   refine (refTyped_any t 1 ok _ w2 (HV.out.under HB2.out) HSZ.out (by decide) HD.out).mono ?_
   rw [hL.out]
   rintro e w3 ⟨x, rfl, hx, b3⟩
   have HB3 := hid' (HB2.out.trans (b3.mono HB2.out.size))
   have HX := hid' (show R = true → x = Co.code L from fun h => hx (by rw [HN.out, bne_iff_ne] at h; exact h))
   clear b3 hx
   rw [← HN.out]
   cases R with
   | false =>
     go_wp2_with fail
     refine bodyPost_ret (results_tmp2 rfl _ _ _) rfl ?_
     exact ⟨0, rfl, fun h => absurd h (by decide), HB3.out⟩
   | true =>
     go_wp2_with fail
     refine bodyPost_ret (results_tmp2 rfl _ _ _) rfl ?_
     exact ⟨x, rfl, fun _ => HX.out trivial, HB3.out⟩
theorem refCheck_any (t : Co.T) (ok : Nat → Prop) (v : Value) (w : World) (hv : CoreIn ok w t v) (hsz : t.size ≤ 2000000) : Calls Tryz.prog 8 #[v] w (Gives (.int .i64 t.rcheck) w) := by
 obtain ⟨op, n, s, q, ln, c, rfl, hop, hn, hs, hln⟩ := zzu hv
 have HV := hid' hv
 have HSZ := hid' hsz
 have HB := hid' ((Below.refl w.heap.size w).alloc (Nat.le_refl _) (.cells #[.int .i64 op, .int .i64 n, .string s, .slice q ln c] 24))
 have HC := hid' (heap_alloc_new w (.cells #[.int .i64 op, .int .i64 n, .string s, .slice q ln c] 24))
 obtain ⟨R, hR⟩ : ∃ R, Hid (t.typed = R) := ⟨_, hid' rfl⟩
 obtain ⟨L, hL⟩ : ∃ L, Hid (t.letter = L) := ⟨_, hid' rfl⟩
 obtain ⟨Z, hZ⟩ : ∃ Z, Hid (t.rcheck = Z) := ⟨_, hid' rfl⟩
 rw [hZ.out]
 have HE := hid' (show Z = if R = true ∧ L = 99 then (if t.ahead = true then 141 else 0) else 140 by rw [← hZ.out, ← hR.out, ← hL.out]; rfl)
 have HT := hid' (fun w' (h : Below w.heap.size w w') => refType_any t ok _ w' (hv.under h) hsz)
 rw [hR.out, hL.out] at HT
 have HL := hid' (show R = true → Co.four L by
   intro h
   rw [← hL.out]
   rw [← hR.out] at h
   refine Co.four_of ?_
   unfold Co.T.typed at h
   rw [Bool.and_eq_true, bne_iff_ne] at h
   exact h.2)
 clear hop hn hs hln hv hsz
 go_enter Tryz.func8, Tryz.ntmps8
 go_upto_region 1 with (fail)
 generalize World.alloc _ _ = w1 at *
 obtain ⟨c0, c1, c2, c3⟩ := zza HC.out
 go_wp2_with fail
 refine (HT.out w1 HB.out).mono ?_
 rintro e w2 ⟨x, rfl, hx, b2⟩
 have HB2 := hid' (HB.out.trans (b2.mono HB.out.size))
 have HC2 := hid' ((b2.block _ (zzc HC.out)).trans HC.out)
 clear b2 c0 c1 c2 c3
 obtain ⟨c0, c1, c2, c3⟩ := zza HC2.out
 cases R with
 | false =>
   have HN := hid' (show Z = 140 by rw [HE.out, if_neg (fun h => absurd h.1 (by decide))])
   clear hx
   go_wp2_with fail
   go_ret
   exact ⟨by rw [HN.out]; rfl, HB2.out⟩
 | true =>
   obtain rfl := hx rfl
   by_cases h99 : L = 99
   · subst h99
     have HN := hid' (show Z = if t.ahead = true then 141 else 0 by rw [HE.out, if_pos ⟨rfl, rfl⟩])
     rw [show Co.code 99 = 4 by decide]
     clear hx
     go_wp2_with fail
     refine (refAhead_any t ok _ w2 (HV.out.under HB2.out) HSZ.out).mono ?_
     rintro e w3 ⟨rfl, b3⟩
     have HB3 := hid' (HB2.out.trans (b3.mono HB2.out.size))
     clear b3
     cases ha : t.ahead with
     | false =>
       have HN2 := hid' (show Z = 0 by rw [HN.out, ha]; rfl)
       clear ha
       go_wp2_with fail
       go_ret
       exact ⟨by rw [HN2.out]; rfl, HB3.out⟩
     | true =>
       have HN2 := hid' (show Z = 141 by rw [HN.out, ha]; rfl)
       clear ha
       go_wp2_with fail
       go_ret
       exact ⟨by rw [HN2.out]; rfl, HB3.out⟩
   · have HN := hid' (show Z = 140 by rw [HE.out, if_neg (fun h => h99 h.2)])
     obtain ⟨y, hy⟩ : ∃ y, Hid (Co.code L = y) := ⟨_, hid' rfl⟩
     have g4 : (y != 4) = true := by
       rw [← hy.out, bne_iff_ne]
       intro h
       exact h99 ((Co.code_inj (HL.out rfl) (.inr (.inr (.inr rfl)))).1 (h.trans (by decide)))
     rw [hy.out]
     clear h99 hx
     go_wp2_with fail
     go_ret
     exact ⟨by rw [HN.out]; rfl, HB2.out⟩
end
end Go.Proofs.YtanlmbbalamgkaaGreatDoor

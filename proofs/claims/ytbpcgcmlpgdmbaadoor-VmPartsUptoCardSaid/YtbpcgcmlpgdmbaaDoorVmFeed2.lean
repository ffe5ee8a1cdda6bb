/- Proved: vm's feed as a contract. -/
import Derived.Test.YtbpcgcmlpgdmbaaDoorVmFeed
namespace Go.Proofs.YtbpcgcmlpgdmbaaDoor
open Go.RowKit Go.Shelf Go.Lib Go.Sort
open Gen
open Rw
set_option linter.unusedVariables false
set_option linter.unusedSimpArgs false
set_option maxRecDepth 100000
theorem place_sorted {F : List Fd.Feed} (h : Fd.Ok F) (name : ByteArray) : ∀ a b, a ≤ b → b < F.length → (!Fd.lt (Fd.at' F a).1 name) = true → (!Fd.lt (Fd.at' F b).1 name) = true := by
  intro a b hab hb ha
  rcases (by omega : a = b ∨ a < b) with rfl | hlt
  · exact ha
  · cases hc : Fd.lt (Fd.at' F b).1 name with
    | false => rfl
    | true =>
      have := Fd.lt_trans (Fd.rises h b a hlt hb) hc
      rw [this] at ha
      cases ha
theorem upto_sorted {F : List Fd.Feed} (h : Fd.Ok F) {i : Nat} {f : Fd.Feed} (hi : F[i]? = some f) (d : Int) : ∀ a b, a ≤ b → b < f.2.length → decide (d < (Fd.stampAt f.2 a).1) = true → decide (d < (Fd.stampAt f.2 b).1) = true := by
  intro a b hab hb ha
  rcases (by omega : a = b ∨ a < b) with rfl | hlt
  · exact ha
  · have := Fd.risesK h hi b a hlt hb
    have := of_decide_eq_true ha
    exact decide_eq_true (by omega)
def feedOut (o : Option Int) : Value := match o with | some n => .tuple #[.int .i64 n, .bool true] | none => .tuple #[.int .i64 0, .bool false]
theorem feedOut_none : feedOut none = .tuple #[.int .i64 0, .bool false] := rfl
theorem feedOut_some (n : Int) : feedOut (some n) = .tuple #[.int .i64 n, .bool true] := rfl
theorem box3 (W : World) (v : Value) (t : TypeId) : (W.alloc (.cells #[v] t)).cell? ⟨W.heap.size, 0, none⟩ = some v := cell_new_sl W v t
theorem FeedsAt.grown {W : World} {v : Value} {l : List Fd.Feed} (h : FeedsAt W v l) (m : Nat) (os : Array Obj) : FeedsAt (grow (W.drewN m) os) v l := h.below (below_grown_sl W.heap.size W m os (Nat.le_refl _))
theorem StampsAt.grown {W : World} {v : Value} {l : List (Int × Int)} (h : StampsAt W v l) (m : Nat) (os : Array Obj) : StampsAt (grow (W.drewN m) os) v l := h.below (below_grown_sl W.heap.size W m os (Nat.le_refl _))
set_option maxHeartbeats 4000000 in
theorem feed_any (mb : Nat) (F : List Fd.Feed) (hok : Fd.Ok F) (day ago : Int) (name : ByteArray) (hd : 0 ≤ day ∧ day ≤ 73048) (ha : 0 ≤ ago ∧ ago ≤ 3660) (vf : Value) (w : World) (hm3 : w.cell? ⟨mb, 3, none⟩ = some (.int .i64 day)) (hm4 : w.cell? ⟨mb, 4, none⟩ = some vf) (hF : FeedsAt w vf F) :
    Calls Tryd.prog 25 #[.pointer (some ⟨mb, 0, none⟩), .string name, .int .i64 ago] w (Gives (feedOut (Fd.tells F day name ago)) w) := by
  have hFl : F.length ≤ 64 := hok.1
  obtain ⟨W3, hW3⟩ : ∃ W3, W3 = ((w.alloc (.cells #[.pointer (some ⟨mb, 0, none⟩)] 52)).alloc (.cells #[.string name] 9)).alloc (.cells #[.int .i64 ago] 2) := ⟨_, rfl⟩
  have hsz : W3.heap.size = w.heap.size + 1 + 1 + 1 := by rw [hW3]; simp
  have B3 : Below w.heap.size w W3 := by rw [hW3]; exact (((Below.refl _ w).alloc (Nat.le_refl _) _).alloc (by simp) _).alloc (by simp; omega) _
  have c3 : W3.cell? ⟨w.heap.size, 0, none⟩ = some (.pointer (some ⟨mb, 0, none⟩)) := by rw [hW3]; exact alloc_cell (alloc_cell (box3 w _ _) _) _
  have c4 : W3.cell? ⟨w.heap.size + 1, 0, none⟩ = some (.string name) := by rw [hW3]; have := alloc_cell (box3 (w.alloc (.cells #[.pointer (some ⟨mb, 0, none⟩)] 52)) (.string name) 9) (.cells #[.int .i64 ago] 2); rwa [World.size_alloc] at this
  have c5 : W3.cell? ⟨w.heap.size + 1 + 1, 0, none⟩ = some (.int .i64 ago) := by
    rw [hW3]
    have := box3 ((w.alloc (.cells #[.pointer (some ⟨mb, 0, none⟩)] 52)).alloc (.cells #[.string name] 9)) (.int .i64 ago) 2
    rwa [World.size_alloc, World.size_alloc] at this
  have m3 := keep_all B3 _ _ hm3
  have m4 := keep_all B3 _ _ hm4
  have F3 := hF.below B3
  have hmb : mb < w.heap.size := World.block_lt_of_cell? _ _ hm3
  have eg1 : ∀ args w, (callFunc 39 args).run Tryd.prog w = .ok (.enter 39 args) w := enters_of Tryd.func39 (by kernel_rfl) rfl
  have eg2 : ∀ args w, (callFunc 40 args).run Tryd.prog w = .ok (.enter 40 args) w := enters_of Tryd.func40 (by kernel_rfl) rfl
  have hS := Any.sort_Search Tryd.search 39 #[.pointer (some ⟨w.heap.size, 0, none⟩), .pointer (some ⟨w.heap.size + 1, 0, none⟩)] F.length (fun i => !Fd.lt (Fd.at' F i).1 name) W3 eg1 (by omega)
    (fun m os i hi => (feed1_any w.heap.size (w.heap.size + 1) mb i F name vf _ (cell_grown (by show w.heap.size < _; omega) c3 m os) (cell_grown (by show w.heap.size + 1 < _; omega) c4 m os) (cell_grown (by show mb < _; omega) m4 m os) (F3.grown m os) hi).mono
      fun _ _ ⟨he, q, hq⟩ => ⟨he, q, #[], by rw [hq, grow_empty]⟩) (place_sorted hok name)
  change Calls Tryd.prog 38 _ _ _ at hS
  have hpl := Fd.place_le F name
  have HT1 := fun h => hid' (Fd.tells_none (F := F) (s := name) h day ago)
  have HP := hid' (show (List.range F.length).countP (fun i => !(!Fd.lt (Fd.at' F i).1 name)) = Fd.place F name from rfl)
  rw [HP.out] at hS
  have HS := hid' hS
  have HW3 := hid' hW3
  clear hW3
  have C3 := hid' c3
  have C4 := hid' c4
  have C5 := hid' c5
  have M3 := hid' m3
  have M4 := hid' m4
  have FF3 := hid' F3
  have HB3 := hid' B3
  have HSZ := hid' hsz
  have HE2 := hid' eg2
  have HD := hid' hd
  have HA := hid' ha
  have HPL := hid' hpl
  have HOK := hid' hok
  have HMB := hid' hmb
  clear c3 c4 c5 hS hm3 hm4 hF F3 B3 hsz eg1 eg2 hd ha HP hpl hok hmb m3 hFl HT1
  obtain ⟨P, hP⟩ : ∃ P, Hid (P = Fd.place F name) := ⟨_, rfl⟩
  rw [← hP.out] at HS HPL
  go_enter Tryd.func25, Tryd.ntmps25
  obtain ⟨vfp, vfc, hvf, -, -⟩ := FF3.out
  subst hvf
  go_upto_region 1 with (fail)
  rw [← HW3.out]
  have c3 := C3.out
  have m4' := m4
  go_upto_region 2 with (go_at_call 38; refine HS.out.mono ?_; rintro e w4 ⟨rfl, q, os, hw4⟩)
  have B34 := below_grown_sl W3.heap.size W3 q os (Nat.le_refl _)
  rw [← hw4] at B34 ⊢
  clear hw4 HS c3 m4 m4'
  have B04 := hid' (Below.more HB3.out B34)
  have F4 := hid' (FF3.out.below B34)
  have c3 := keep_all B34 _ _ C3.out
  have c4 := keep_all B34 _ _ C4.out
  have m4 := keep_all B34 _ _ M4.out
  have C5' := hid' (keep_all B34 _ _ C5.out)
  have M3' := hid' (keep_all B34 _ _ M3.out)
  have C3' := hid' c3
  clear C3 C4 C5 M3 M4 B34 FF3
  by_cases hPn : P = F.length
  · subst hPn
    have e := hid' (Fd.tells_none (F := F) (s := name) (by rw [← hP.out]; exact List.getElem?_eq_none (Nat.le_refl _)) day ago)
    have g : ((F.length : Int) == (F.length : Int)) = true := beq_self_eq_true _
    clear hP
    go_quiet (fail)
    go_wp2_with fail
    go_ret2
    exact ⟨by rw [e.out]; rfl, Below.drewn B04.out _⟩
  · have hlt : P < F.length := by have := HPL.out; omega
    obtain ⟨x, hx⟩ : ∃ x, F[P]? = some x := ⟨_, List.getElem?_eq_getElem hlt⟩
    have hx' : F[Fd.place F name]? = some x := by rw [← hP.out]; exact hx
    obtain ⟨fp, fc, efp, ⟨hl1, hl2⟩, hf⟩ := F4.out
    obtain ⟨fb, fo, sv, efb, hfb, ⟨x0, x1⟩, hst, hxs⟩ := hf P x hx
    obtain ⟨rfl, rfl⟩ : vfp = fp ∧ vfc = fc := by simpa using efp
    subst efb
    have g : ((P : Int) == (F.length : Int)) = false := by rw [beq_eq_false_iff_ne]; omega
    have j1 : (0 : Int) ≤ (P : Int) := by omega
    have j2 : (P : Int) < (F.length : Int) := by omega
    have HST := hid' hst
    have HX := hid' hx
    clear hPn efp hl1 hl2 hf hxs hst hfb hx
    by_cases hn : x.1 = name
    · rw [hn] at x0
      have g2 : (name.toList == name.toList) = true := beq_self_eq_true _
      have TE := fun h => hid' (Fd.tells_early hx' hn (day := day) (ago := ago) h)
      have TS := fun k h => hid' (Fd.tells_some hx' hn (day := day) (ago := ago) (k := k) h)
      have HTE := hid' TE
      have HTS := hid' TS
      clear TE TS hx' hn
      go_quiet (fail)
      clear c4
      have B4 := hid' (Below.drewn B04.out nq)
      have ST := hid' (HST.out.below (Below.drewn (Below.refl _ w4) nq))
      have MM3 := hid' (show (w4.drewN nq).cell? ⟨mb, 3, none⟩ = some (.int .i64 day) from M3'.out)
      have CC5 := hid' (show (w4.drewN nq).cell? ⟨w.heap.size + 1 + 1, 0, none⟩ = some (.int .i64 ago) from C5'.out)
      have CC3 := hid' (show (w4.drewN nq).cell? ⟨w.heap.size, 0, none⟩ = some (.pointer (some ⟨mb, 0, none⟩)) from C3'.out)
      replace c3 := CC3.out
      replace m4 := (show (w4.drewN nq).cell? ⟨mb, 4, none⟩ = _ from m4)
      replace x1 := (show (w4.drewN nq).cell? ⟨fb, fo + P * 2 + 1, none⟩ = _ from x1)
      clear x0 B04 M3' C5' C3' F4 HST
      generalize w4.drewN nq = w5 at *
      obtain ⟨sp, sc, rfl, ⟨hs1, hs2⟩, -⟩ := id ST.out
      clear hs1 hs2
      obtain ⟨w6, hw6⟩ : ∃ w6, w6 = w5.alloc (.cells #[.slice sp x.2.length sc] 67) := ⟨_, rfl⟩
      have B56 : Below w5.heap.size w5 w6 := by rw [hw6]; exact (Below.refl _ _).alloc (Nat.le_refl _) _
      have c9 : w6.cell? ⟨w5.heap.size, 0, none⟩ = some (.slice sp x.2.length sc) := by rw [hw6]; exact box3 w5 _ _
      have hsz6 : w6.heap.size = w5.heap.size + 1 := by rw [hw6]; simp
      have q3 := keep_all B56 _ _ CC3.out
      have q5 := keep_all B56 _ _ CC5.out
      have qm := keep_all B56 _ _ MM3.out
      have ST6 := ST.out.below B56
      have h5 := World.block_lt_of_cell? _ _ CC5.out
      have h5' : w.heap.size + 1 + 1 < w5.heap.size := h5
      have hmb := HMB.out
      have hlen := ((HOK.out).2 P x HX.out).len
      have hS := Any.sort_Search Tryd.search 40 #[.pointer (some ⟨w5.heap.size, 0, none⟩), .pointer (some ⟨w.heap.size, 0, none⟩), .pointer (some ⟨w.heap.size + 1 + 1, 0, none⟩)] x.2.length (fun k => decide (day - ago < (Fd.stampAt x.2 k).1)) w6 HE2.out (by omega)
        (fun m os k hk => (feed2_any w5.heap.size w.heap.size (w.heap.size + 1 + 1) mb k x.2 (.slice sp x.2.length sc) day ago HD.out HA.out _ (cell_grown (by show w5.heap.size < _; omega) c9 m os) (cell_grown (by show w.heap.size < _; omega) q3 m os) (cell_grown (by show w.heap.size + 1 + 1 < _; omega) q5 m os) (cell_grown (by show mb < _; omega) qm m os) (ST6.grown m os) hk).mono
          fun _ _ ⟨he, q, hq⟩ => ⟨he, q, #[], by rw [hq, grow_empty]⟩) (upto_sorted HOK.out HX.out (day - ago))
      change Calls Tryd.prog 38 _ _ _ at hS
      rw [show (List.range x.2.length).countP (fun k => !(decide (day - ago < (Fd.stampAt x.2 k).1))) = Fd.upto x.2 (day - ago) from rfl] at hS
      have hul := Fd.upto_le x.2 (day - ago)
      obtain ⟨U, hU⟩ : ∃ U, Fd.upto x.2 (day - ago) = U := ⟨_, rfl⟩
      rw [hU] at hS HTE HTS hul
      clear hU q3 q5 qm h5 h5' hmb
      have HS2 := hid' hS
      have HW6 := hid' hw6
      have HS6 := hid' (keep_all B56)
      have C9 := hid' c9
      have B6 := hid' (Below.more B4.out B56)
      have S6 := hid' ST6
      clear hw6 hS B56 ST6 hsz6 B4 MM3 CC5 CC3
      go_upto_region 5 with (fail)
      rw [← HW6.out]
      clear x1 m4 c3 HW6
      go_upto_region 6 with (go_at_call 38; refine HS2.out.mono ?_; rintro e w7 ⟨rfl, q', os', hw7⟩)
      have B67 := below_grown_sl w6.heap.size w6 q' os' (Nat.le_refl _)
      rw [← hw7] at B67 ⊢
      have B7 := hid' (Below.more B6.out B67)
      have S7 := hid' (S6.out.below B67)
      have c9' := keep_all B67 _ _ C9.out
      clear hw7 B67 S6 C9 c9 HS2 B6
      cases U with
      | zero =>
        have e := hid' (HTE.out rfl).out
        clear HTE HTS
        go_wp2_with fail
        go_ret2
        exact ⟨by rw [e.out]; rfl, B7.out⟩
      | succ k =>
        have e := hid' (HTS.out k rfl).out
        clear HTE HTS
        have hk : x.2[k]? = some (Fd.stampAt x.2 k) := by unfold Fd.stampAt; rw [List.getElem?_eq_getElem (by omega)]; rfl
        obtain ⟨sp', sc', e2, -, hss⟩ := S7.out
        obtain ⟨rfl, rfl⟩ : sp = sp' ∧ sc = sc' := by simpa using e2
        obtain ⟨sb, so, rfl, -, ⟨y0, y1⟩, -, -⟩ := hss k _ hk
        generalize Fd.stampAt x.2 k = y at *
        have g0 : (((k + 1 : Nat) : Int) == 0) = false := by rw [beq_eq_false_iff_ne]; omega
        have v1 : IntKind.i64.wrap (((k + 1 : Nat) : Int) - 1) = (k : Int) := by rw [IntWalk.i64_in _ (by omega)]; omega
        have v2 : (0 : Int) ≤ (k : Int) := by omega
        have v3 : (k : Int) < (x.2.length : Int) := by omega
        clear e2 hss hk y0
        go_wp2_with fail
        go_ret2
        exact ⟨by rw [e.out]; rfl, B7.out⟩
    · have e := hid' (Fd.tells_other hx' hn day ago)
      have g2 : (x.1.toList == name.toList) = false := by
        rw [beq_eq_false_iff_ne]
        intro e2
        apply hn
        apply ba_ext
        rw [ByteArray.toList_eq, ByteArray.toList_eq] at e2
        exact e2
      clear hx' hn hlt
      go_quiet (fail)
      go_wp2_with fail
      go_ret2
      exact ⟨by rw [e.out]; rfl, Below.drewn B04.out _⟩
end Go.Proofs.YtbpcgcmlpgdmbaaDoor

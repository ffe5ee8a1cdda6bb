/- Proved: gen.Fuel and gen.Encode, as contracts. -/
import Derived.Test.YtiejoapnljkjdaaGreatDoorGenPut
namespace Go.Proofs.YtiejoapnljkjdaaGreatDoor
open Go.RowKit
set_option linter.unusedVariables false
set_option linter.unusedSimpArgs false
set_option maxRecDepth 100000
theorem fuel_any (v : Value) (c : Gen.Cd) (w : World) (h : CdAt w v c) : Calls Tryz.prog 11 #[v] w (Gives (.int .i64 (bif Gen.right c then (c.ins.length : Int) else 0)) w) := by
  have hcd := h
  obtain ⟨vw, vi, rfl, ⟨pw, cw, rfl, -⟩, ⟨pi, ci, rfl, -⟩, hr⟩ := h
  have B0 := (Below.refl w.heap.size w).alloc (Nat.le_refl _) (.cells #[.int .i64 c.regs, .slice pw c.waits.length cw, .slice pi c.ins.length ci] 25)
  have HS := hid' (show RSt w w.heap.size _ _ c _ from ⟨B0, heap_alloc_new w _, hcd.below B0⟩)
  have c0 := bcells HS.out.cb 0 _ rfl
  have c1 := bcells HS.out.cb 1 _ rfl
  have c2 := bcells HS.out.cb 2 _ rfl
  clear hcd B0
  obtain ⟨ok, hok⟩ : ∃ ok, Hid (Gen.right c = ok) := ⟨_, hid' rfl⟩
  have HR := hid' (genRight_any _ c _ HS.out.cd)
  rw [hok.out] at HR ⊢
  go_enter Tryz.func11, Tryz.ntmps11
  go_wp2_with fail
  refine HR.out.mono ?_
  rintro e w2 ⟨rfl, b2⟩
  have H2 := hid' (HS.out.below b2)
  have d2 := bcells H2.out.cb 2 _ rfl
  clear c0 c1 c2 b2
  cases ok with
  | true =>
    go_wp2_with fail
    go_ret
    exact ⟨rfl, H2.out.bel⟩
  | false =>
    go_wp2_with fail
    go_ret
    exact ⟨rfl, H2.out.bel⟩
theorem CdAt.insAll {W : World} {r : Int} {vw : Value} {pi : Option Addr} {n ci : Nat} {c : Gen.Cd} (h : CdAt W (.agg #[.int .i64 r, vw, .slice pi n ci]) c) {i : Nat} {x : Gen.Ix} (hx : c.ins[i]? = some x) : ∃ b off, pi = some ⟨b, off, none⟩ ∧ (W.cell? ⟨b, off + i * 7, none⟩ = some (.int .i64 x.op) ∧ W.cell? ⟨b, off + i * 7 + 1, none⟩ = some (.int .i64 x.a) ∧ W.cell? ⟨b, off + i * 7 + 2, none⟩ = some (.int .i64 x.b) ∧ W.cell? ⟨b, off + i * 7 + 3, none⟩ = some (.int .i64 x.c) ∧ W.cell? ⟨b, off + i * 7 + 4, none⟩ = some (.int .i64 x.n) ∧ W.cell? ⟨b, off + i * 7 + 5, none⟩ = some (.string x.s) ∧ W.cell? ⟨b, off + i * 7 + 6, none⟩ = some (.int .i64 x.to)) ∧ IxFits x := by
  obtain ⟨vw', vi', e, hw, ⟨p', c', e2, _, hi⟩, hr⟩ := h
  obtain ⟨b, off, h1, h2, h3, h4⟩ := hi i x hx
  simp only [Value.agg.injEq, Array.mk.injEq, List.cons.injEq] at e
  obtain ⟨-, -, rfl, -⟩ := e
  simp only [Value.slice.injEq] at e2
  exact ⟨b, off, e2.1.trans h1, h3, h4⟩
/-- What Encode has: the bytecode's box, and the bytes so far. -/
structure EncSt (w : World) (b0 B : Nat) (vw vi : Value) (c : Gen.Cd) (l : List UInt8) (W : World) : Prop where
  bel : Below w.heap.size w W
  cb : CdBox W b0 c.regs vw vi
  out : BoxOut B l W
  lt : w.heap.size ≤ b0 ∧ b0 < B
theorem EncSt.below {w : World} {b0 B : Nat} {vw vi : Value} {c : Gen.Cd} {l : List UInt8} {W W' : World} (h : EncSt w b0 B vw vi c l W) (b : Below W.heap.size W W') : EncSt w b0 B vw vi c l W' :=
  ⟨Below.more h.bel b, box_below b h.cb, h.out.below b, h.lt⟩
theorem EncSt.grown {w : World} {b0 B : Nat} {vw vi : Value} {c : Gen.Cd} {l m : List UInt8} {W W' : World} (h : EncSt w b0 B vw vi c l W) (g : W.grownBy W' (some B)) (o : BoxOut B m W') : EncSt w b0 B vw vi c m W' :=
  ⟨below_grown h.bel g (by have := h.lt; omega) h.bel.size, (g.block b0 (lt_of_block h.cb) (fun e => by have := h.lt; cases e; omega)).trans h.cb, o, h.lt⟩
theorem box_grown {W W' : World} {b B : Nat} {o : Obj} (g : W.grownBy W' (some B)) (hne : b ≠ B) (h : W.heap[b]? = some o) : W'.heap[b]? = some o := (g.block b (lt_of_block h) (fun e => by cases e; exact hne rfl)).trans h
theorem EncSt.put {w : World} {b0 B : Nat} {vw vi : Value} {c : Gen.Cd} {l : List UInt8} {W : World} (h : EncSt w b0 B vw vi c l W) (ns : List Int) (hn : ∀ n ∈ ns, -9223372036854775808 ≤ n ∧ n ≤ 9223372036854775807) (hl : l.length + 10 * ns.length ≤ 140737488355300) :
    Calls Tryz.prog 19 #[.slice (some ⟨W.heap.size, 0, none⟩) ns.length ns.length, .pointer (some ⟨B, 0, none⟩)] (W.alloc (.cells (ns.map (Value.int .i64)).toArray 3)) fun e w' =>
      (∃ v, e = .returned v) ∧ EncSt w b0 B vw vi c (l ++ putAll ns) w' ∧ W.grownBy w' (some B) := by
  have b1 := (Below.refl W.heap.size W).alloc (Nat.le_refl _) (.cells (ns.map (Value.int .i64)).toArray 3)
  obtain ⟨v0, hv0, -⟩ := h.out
  refine (put_any B W.heap.size ns l _ (h.out.below b1) (by have := lt_of_block hv0; omega) (fun i n hi => new_cell rfl (by simp [hi])) hn hl).mono ?_
  rintro e w' ⟨he, ho, hg⟩
  exact ⟨he, (h.below b1).grown hg ho, grown_trans (grown_of_below b1 _) hg⟩
theorem EncSt.text {w : World} {b0 B : Nat} {vw vi : Value} {c : Gen.Cd} {l : List UInt8} {W W' : World} {s : ByteArray} {e : Ending} (h : EncSt w b0 B vw vi c l W) (f : Fresh W (nums l ++ (nums (Wire.vbytes (Wire.zig (s.size : Int))) ++ nums s.data.toList)) e W') :
    ∃ p n c', e = .returned (.slice p n c') ∧ Below W.heap.size W W' ∧ EncSt w b0 B vw vi c (l ++ Wire.putText s.data.toList) (W'.setCell ⟨B, 0, none⟩ (.slice p n c')) ∧ W.grownBy (W'.setCell ⟨B, 0, none⟩ (.slice p n c')) (some B) := by
  obtain ⟨v', rfl, ho, hb⟩ := f
  rw [putText_nums] at ho
  obtain ⟨p, n, c', rfl⟩ : ∃ p n c', v' = .slice p n c' := by
    rcases ho.shape with ⟨rfl, hz⟩ | ⟨g, cap, hv, _⟩
    · exact ⟨none, 0, 0, rfl⟩
    · exact ⟨_, _, _, hv⟩
  obtain ⟨q1, q2⟩ := h.out.put hb ho
  exact ⟨p, n, c', rfl, hb, h.grown q2 q1, q2⟩
namespace Gen
open Wire
def hdr (c : Cd) : List UInt8 := putInt c.regs ++ putInt c.waits.length
def pW (c : Cd) (i : Nat) : List UInt8 := hdr c ++ (c.waits.take i).flatMap encW
def pI (c : Cd) (i : Nat) : List UInt8 := pW c c.waits.length ++ putInt c.ins.length ++ (c.ins.take i).flatMap encI
theorem pW_zero (c : Cd) : pW c 0 = hdr c := by unfold pW; simp
theorem pI_zero (c : Cd) : pI c 0 = pW c c.waits.length ++ putInt c.ins.length := by unfold pI; simp
theorem pW_step (c : Cd) (i : Nat) (x : Wt) (h : c.waits[i]? = some x) : pW c (i + 1) = pW c i ++ putAll [x.entry, x.day] ++ putText x.label.data.toList ++ putAll [x.first, x.second] := by
  unfold pW
  rw [take_snoc c.waits i x h, List.flatMap_append]
  simp [putAll, encW]
theorem pI_step (c : Cd) (i : Nat) (x : Ix) (h : c.ins[i]? = some x) : pI c (i + 1) = pI c i ++ putAll [x.op, x.a, x.b, x.c, x.n] ++ putText x.s.data.toList ++ putAll [x.to] := by
  unfold pI
  rw [take_snoc c.ins i x h, List.flatMap_append]
  simp [putAll, encI]
theorem pI_all (c : Cd) : pI c c.ins.length = enc c := by
  unfold pI pW hdr enc
  simp
theorem text_len (s : ByteArray) (h : s.size ≤ 2000000) : (putText s.data.toList).length ≤ 2000010 := by
  have h1 : s.data.toList.length ≤ 2000000 := by rw [Array.length_toList]; exact h
  have := putInt_len s.data.toList.length (by omega) (by omega)
  unfold putText
  rw [List.length_append]; omega
theorem flat_len {α : Type} (f : α → List UInt8) (m : Nat) (l : List α) (h : ∀ x ∈ l, (f x).length ≤ m) : (l.flatMap f).length ≤ m * l.length := by
  induction l with
  | nil => simp
  | cons a t ih =>
    have h1 := ih (fun x hx => h x (List.mem_cons_of_mem _ hx))
    have h2 := h a (List.mem_cons_self ..)
    rw [List.flatMap_cons, List.length_append, List.length_cons, Nat.mul_succ]
    omega
theorem encW_len (x : Wt) (h : WtFits x) : (encW x).length ≤ 2000060 := by
  have h1 := putInt_len x.entry h.entry.1 h.entry.2
  have h2 := putInt_len x.day h.day.1 h.day.2
  have h3 := putInt_len x.first h.first.1 h.first.2
  have h4 := putInt_len x.second h.second.1 h.second.2
  have h5 := text_len x.label h.label
  unfold encW
  simp only [List.length_append]
  omega
theorem encI_len (x : Ix) (h : IxFits x) : (encI x).length ≤ 2000080 := by
  have h1 := putInt_len x.op h.op.1 h.op.2
  have h2 := putInt_len x.a h.a.1 h.a.2
  have h3 := putInt_len x.b h.b.1 h.b.2
  have h4 := putInt_len x.c h.c.1 h.c.2
  have h6 := putInt_len x.n h.n.1 h.n.2
  have h7 := putInt_len x.to h.to.1 h.to.2
  have h5 := text_len x.s h.s
  unfold encI
  simp only [List.length_append]
  omega
/-- A bytecode whose numbers are such that it can stand in memory. -/
structure CdFits (c : Cd) : Prop where
  regs : I64 c.regs
  waits : ∀ x ∈ c.waits, WtFits x
  ins : ∀ x ∈ c.ins, IxFits x
theorem pW_len (c : Cd) (i : Nat) (h : CdFits c) (hw : c.waits.length ≤ 250) : (pW c i).length ≤ 500020000 := by
  have h1 := putInt_len c.regs h.regs.1 h.regs.2
  have h2 := putInt_len (c.waits.length : Int) (by omega) (by omega)
  have h3 := flat_len encW 2000060 (c.waits.take i) (fun x hx => encW_len x (h.waits x (List.mem_of_mem_take hx)))
  have h4 : (c.waits.take i).length ≤ 250 := by rw [List.length_take]; omega
  unfold pW hdr
  simp only [List.length_append]
  omega
theorem pI_len (c : Cd) (i : Nat) (h : CdFits c) (hw : c.waits.length ≤ 250) (hn : c.ins.length ≤ 16384) : (pI c i).length ≤ 40000000000 := by
  have h0 := pW_len c c.waits.length h hw
  have h2 := putInt_len (c.ins.length : Int) (by omega) (by omega)
  have h3 := flat_len encI 2000080 (c.ins.take i) (fun x hx => encI_len x (h.ins x (List.mem_of_mem_take hx)))
  have h4 : (c.ins.take i).length ≤ 16384 := by rw [List.length_take]; omega
  unfold pI
  simp only [List.length_append]
  omega
end Gen
open Gen in
theorem CdAt.fits {W : World} {v : Value} {c : Gen.Cd} (h : CdAt W v c) : CdFits c := by
  obtain ⟨vw, vi, -, ⟨pw, cw, -, -, hw⟩, ⟨pi, ci, -, -, hi⟩, hr⟩ := h
  refine ⟨hr, fun x hx => ?_, fun x hx => ?_⟩
  · obtain ⟨i, hi⟩ := List.getElem?_of_mem hx
    obtain ⟨_, _, -, -, -, h⟩ := hw i x hi
    exact h
  · obtain ⟨i, hx⟩ := List.getElem?_of_mem hx
    obtain ⟨_, _, -, -, -, h⟩ := hi i x hx
    exact h
theorem right_small {c : Gen.Cd} (h : Gen.right c = true) : c.waits.length ≤ 250 ∧ 1 ≤ c.ins.length ∧ c.ins.length ≤ 16384 := by
  unfold Gen.right at h
  simp only [Bool.and_eq_true, decide_eq_true_eq] at h
  exact ⟨h.2.1, h.2.2.1, h.2.2.2.1⟩
def GenEncPost (c : Gen.Cd) (w : World) (e : Ending) (w' : World) : Prop := ∃ v, e = .returned (.tuple #[v, .int .i64 (bif Gen.right c then 0 else 170)]) ∧ Reads w' v (nums (bif Gen.right c then Gen.enc c else [])) ∧ Below w.heap.size w w'
set_option maxHeartbeats 4000000 in
theorem encode_any (v : Value) (c : Gen.Cd) (w : World) (h : CdAt w v c) : Calls Tryz.prog 8 #[v] w (GenEncPost c w) := by
  have hcd := h
  obtain ⟨vw, vi, rfl, ⟨pw, cw, rfl, ⟨hw1, hw2⟩, -⟩, ⟨pi, ci, rfl, ⟨hi1, hi2⟩, -⟩, hr⟩ := h
  have B0 := (Below.refl w.heap.size w).alloc (Nat.le_refl _) (.cells #[.int .i64 c.regs, .slice pw c.waits.length cw, .slice pi c.ins.length ci] 25)
  have HS := hid' (show RSt w w.heap.size _ _ c _ from ⟨B0, heap_alloc_new w _, hcd.below B0⟩)
  have c0 := bcells HS.out.cb 0 _ rfl
  have c1 := bcells HS.out.cb 1 _ rfl
  have c2 := bcells HS.out.cb 2 _ rfl
  have HCD := hid' hcd
  have HF := hid' hcd.fits
  clear hcd B0
  obtain ⟨ok, hok⟩ : ∃ ok, Hid (Gen.right c = ok) := ⟨_, hid' rfl⟩
  have HR := hid' (genRight_any _ c _ HS.out.cd)
  rw [hok.out] at HR
  unfold GenEncPost
  rw [hok.out]
  go_enter Tryz.func8, Tryz.ntmps8
  go_wp2_with fail
  refine HR.out.mono ?_
  rintro e w3 ⟨rfl, b3⟩
  have H3 := hid' (HS.out.below b3)
  clear c0 c1 c2 b3 HR HS
  cases ok with
  | false =>
    go_wp2_with fail
    refine bodyPost_ret (results_tmp2 rfl _ _ _) rfl ?_
    exact ⟨_, rfl, Reads.nil _, H3.out.bel⟩
  | true =>
    obtain ⟨r1, r2, r3⟩ := right_small hok.out
    have hE0 : EncSt w w.heap.size w3.heap.size _ _ c [] (w3.alloc (.cells #[.slice none 0 0] 28)) :=
      ⟨H3.out.bel.trans ((Below.refl _ _).alloc H3.out.bel.size _), (Below.heap_alloc _ _ _ (lt_of_block H3.out.cb)).trans H3.out.cb, ⟨_, heap_alloc_new _ _, Owns.nilNums _ _⟩, ⟨Nat.le_refl _, lt_of_block H3.out.cb⟩⟩
    have HE0 := hid' hE0
    have c0 := bcells HE0.out.cb 0 _ rfl
    have c1 := bcells HE0.out.cb 1 _ rfl
    have c2 := bcells HE0.out.cb 2 _ rfl
    have e1 : (w3.alloc (.cells #[.slice none 0 0] 28)).heap.size = w3.heap.size + 1 := by simp
    have HP0 := HE0.out.put [c.regs, (c.waits.length : Int)] (by intro n hn; simp at hn; rcases hn with rfl | rfl; exact HF.out.regs; exact ⟨by omega, by omega⟩) (by simp)
    rw [e1] at HP0
    have HP := hid' HP0
    clear HP0 hE0
    go_wp2_with fail
    refine HP.out.mono ?_
    rintro e w5 ⟨⟨rv, rfl⟩, h5, -⟩
    have h5' : EncSt w w.heap.size w3.heap.size (.slice pw c.waits.length cw) (.slice pi c.ins.length ci) c (Gen.pW c 0) w5 := by
      have e : Gen.pW c 0 = [] ++ putAll [c.regs, (c.waits.length : Int)] := by rw [Gen.pW_zero]; unfold Gen.hdr putAll; simp
      rw [e]; exact h5
    have H5 := hid' h5'
    have HOK := hid' (And.intro r1 (And.intro r2 r3))
    clear c0 c1 c2 e1 HP h5 h5' HE0 H3 HF hw2 hi2 r1 r2 r3 hr
    obtain ⟨b0, hb0⟩ : ∃ b0, b0 = w.heap.size := ⟨_, rfl⟩
    rw [← hb0] at H5 ⊢
    clear hb0
    generalize w3.heap.size = B at *
    have c1 := bcells H5.out.cb 1 _ rfl
    go_wp2_with fail
    go_loopw [25] (fun iv wr => ∃ i : Nat, iv = .int .i64 (i : Int) ∧ i ≤ c.waits.length ∧ Hid (EncSt w b0 B (.slice pw c.waits.length cw) (.slice pi c.ins.length ci) c (Gen.pW c i) wr)) (fun iv _ => c.waits.length - (intOf iv).toNat)
    case atStart => exact ⟨0, rfl, Nat.zero_le _, H5⟩
    case round =>
      obtain ⟨i, rfl, hi, HR⟩ := hrel
      clear c1
      by_cases hin : i < c.waits.length
      · obtain ⟨x, hx⟩ : ∃ x, c.waits[i]? = some x := ⟨_, List.getElem?_eq_getElem hin⟩
        obtain ⟨wb, wo, rfl, ⟨y0, y1, y2, y3, y4⟩, hwf⟩ := (HCD.out.below HR.out.bel).waitCells hx
        have hwn := HOK.out.1
        have j1 : (0 : Int) ≤ (i : Int) := by omega
        have j2 : (i : Int) < (c.waits.length : Int) := by omega
        have wi : IntKind.i64.wrap ((i : Int) + 1) = (i : Int) + 1 := IntWalk.i64_in _ (by omega)
        have g8 : decide (i < c.waits.length) = true := decide_eq_true hin
        have HX := hid' (And.intro hx hwf)
        have HI := hid' hin
        have B6 := (Below.refl wr.heap.size wr).alloc (Nat.le_refl _) (.cells #[.int .i64 x.entry, .int .i64 x.day, .string x.label, .int .i64 x.first, .int .i64 x.second] 56)
        have H6 := hid' (show EncSt w b0 B _ _ c (Gen.pW c i) _ ∧ WtBox _ wr.heap.size x from ⟨HR.out.below B6, heap_alloc_new wr _⟩)
        have hPL := Gen.pW_len c i HCD.out.fits hwn
        have hbx : wr.heap.size ≠ B := by obtain ⟨_, hv0, -⟩ := HR.out.out; have := lt_of_block hv0; omega
        clear hx hwf hin B6
        go_upto_region 9 with (fail)
        clear y0 y1 y2 y3 y4 HR
        generalize wr.alloc (.cells #[.int .i64 x.entry, .int .i64 x.day, .string x.label, .int .i64 x.first, .int .i64 x.second] 56) = w6 at *
        generalize wr.heap.size = b6 at *
        have z0 := bcells H6.out.2 0 _ rfl
        have z1 := bcells H6.out.2 1 _ rfl
        have HP := hid' (H6.out.1.put [x.entry, x.day] (by intro n hn; simp at hn; rcases hn with rfl | rfl; exact HX.out.2.entry; exact HX.out.2.day) (by simp; omega))
        go_wp2_with fail
        refine HP.out.mono ?_
        rintro e w7 ⟨⟨rv7, rfl⟩, h7, g7⟩
        have H7 := hid' (show EncSt w b0 B _ _ c (Gen.pW c i ++ putAll [x.entry, x.day]) w7 ∧ WtBox w7 b6 x from ⟨h7, box_grown g7 hbx H6.out.2⟩)
        clear z0 z1 h7 g7 HP H6
        have z2 := bcells H7.out.2 2 _ rfl
        obtain ⟨v7, hv7, ho7⟩ := H7.out.1.out
        have x0 := bcells hv7 0 _ rfl
        have hl7 : (Gen.pW c i ++ putAll [x.entry, x.day]).length ≤ 500020020 := by
          have := putAll_len [x.entry, x.day] (by intro n hn; simp at hn; rcases hn with rfl | rfl; exact HX.out.2.entry; exact HX.out.2.day)
          rw [List.length_append]; simp at this; omega
        have HT := hid' (putText_any v7 _ x.label w7 ho7.reads (by rw [nums_length]; have := HX.out.2.label; omega))
        have hf : w7.frozen? ⟨B, 0, none⟩ = false := by simp [World.frozen?, hv7]
        clear hv7 ho7
        go_wp2_with fail
        refine HT.out.mono ?_
        intro e w8 hfr
        obtain ⟨p8, n8, c8, rfl, b8, h8, g8'⟩ := H7.out.1.text hfr
        have H8 := hid' (And.intro h8 (box_grown g8' hbx H7.out.2))
        have z5 := keep_all b8 _ _ x0
        have z6 : w8.frozen? ⟨B, 0, none⟩ = false := (World.frozen?_of_block (b8.block B (World.block_lt_of_cell? _ _ x0))).trans hf
        have hl8 : (Gen.pW c i ++ putAll [x.entry, x.day] ++ Wire.putText x.label.data.toList).length ≤ 502020040 := by
          have := Gen.text_len x.label HX.out.2.label
          rw [List.length_append]; omega
        clear z2 x0 hf HT hfr b8 h8 g8' H7 hl7
        go_upto_region 11 with (fail)
        clear z5 z6
        generalize World.setCell w8 _ _ = w9 at *
        have z3 := bcells H8.out.2 3 _ rfl
        have z4 := bcells H8.out.2 4 _ rfl
        have HP := hid' (H8.out.1.put [x.first, x.second] (by intro n hn; simp at hn; rcases hn with rfl | rfl; exact HX.out.2.first; exact HX.out.2.second) (by simp only [List.length_cons, List.length_nil]; omega))
        go_wp2_with fail
        refine HP.out.mono ?_
        rintro e w10 ⟨⟨rv10, rfl⟩, h10, -⟩
        rw [← Gen.pW_step c i x HX.out.1] at h10
        have H10 := hid' h10
        clear z3 z4 h10 HP H8 hl8
        go_wp2_with fail
        go_roundw
        case rel => exact ⟨i + 1, by go_num, by have := HI.out; omega, H10⟩
        case measure => have := HI.out; simp [intOf]; omega
      · obtain rfl : i = c.waits.length := by omega
        have g9 : decide (c.waits.length < c.waits.length) = false := by simp
        have c2 := bcells HR.out.cb 2 _ rfl
        have hin3 : (c.ins.length : Int) ≤ 16384 := by have := HOK.out.2.2; omega
        have HP := hid' (HR.out.put [(c.ins.length : Int)] (by intro n hn; simp at hn; rcases hn with rfl; exact ⟨by omega, by omega⟩) (by have := Gen.pW_len c c.waits.length HCD.out.fits HOK.out.1; simp only [List.length_cons, List.length_nil]; omega))
        clear hin H5
        go_wp2_with fail
        refine HP.out.mono ?_
        rintro e w6 ⟨⟨rv6, rfl⟩, h6, -⟩
        have h6' : EncSt w b0 B (.slice pw c.waits.length cw) (.slice pi c.ins.length ci) c (Gen.pI c 0) w6 := by
          have e : Gen.pI c 0 = Gen.pW c c.waits.length ++ putAll [(c.ins.length : Int)] := by rw [Gen.pI_zero]; unfold putAll; simp
          rw [e]; exact h6
        have H6 := hid' h6'
        clear c2 HP h6 h6' HR
        have c2 := bcells H6.out.cb 2 _ rfl
        go_wp2_with fail
        go_loopw [57] (fun iv wr => ∃ i : Nat, iv = .int .i64 (i : Int) ∧ i ≤ c.ins.length ∧ Hid (EncSt w b0 B (.slice pw c.waits.length cw) (.slice pi c.ins.length ci) c (Gen.pI c i) wr)) (fun iv _ => c.ins.length - (intOf iv).toNat)
        case atStart => exact ⟨0, rfl, Nat.zero_le _, H6⟩
        case round =>
          obtain ⟨i, rfl, hi, HR⟩ := hrel
          clear c2 hin3
          by_cases hin : i < c.ins.length
          · obtain ⟨x, hx⟩ : ∃ x, c.ins[i]? = some x := ⟨_, List.getElem?_eq_getElem hin⟩
            have hxf := HCD.out.fits.ins x (List.mem_of_getElem? hx)
            obtain ⟨ib, io, rfl, ⟨y0, y1, y2, y3, y4, y5, y6⟩, -⟩ := (HCD.out.below HR.out.bel).insAll hx
            have hwn := HOK.out.2.2
            have j1 : (0 : Int) ≤ (i : Int) := by omega
            have j2 : (i : Int) < (c.ins.length : Int) := by omega
            have wi : IntKind.i64.wrap ((i : Int) + 1) = (i : Int) + 1 := IntWalk.i64_in _ (by omega)
            have g8 : decide (i < c.ins.length) = true := decide_eq_true hin
            have HX := hid' (And.intro hx hxf)
            have HI := hid' hin
            have B6 := (Below.refl wr.heap.size wr).alloc (Nat.le_refl _) (.cells #[.int .i64 x.op, .int .i64 x.a, .int .i64 x.b, .int .i64 x.c, .int .i64 x.n, .string x.s, .int .i64 x.to] 53)
            have H6 := hid' (show EncSt w b0 B _ _ c (Gen.pI c i) _ ∧ IxBox _ wr.heap.size x from ⟨HR.out.below B6, heap_alloc_new wr _⟩)
            have hPL := Gen.pI_len c i HCD.out.fits HOK.out.1 HOK.out.2.2
            have hbx : wr.heap.size ≠ B := by obtain ⟨_, hv0, -⟩ := HR.out.out; have := lt_of_block hv0; omega
            clear hx hxf hin B6
            go_upto_region 17 with (fail)
            clear y0 y1 y2 y3 y4 y5 y6 HR
            generalize wr.alloc (.cells #[.int .i64 x.op, .int .i64 x.a, .int .i64 x.b, .int .i64 x.c, .int .i64 x.n, .string x.s, .int .i64 x.to] 53) = w6 at *
            generalize wr.heap.size = b6 at *
            have z0 := bcells H6.out.2 0 _ rfl
            have z1 := bcells H6.out.2 1 _ rfl
            have z2 := bcells H6.out.2 2 _ rfl
            have z3 := bcells H6.out.2 3 _ rfl
            have z4 := bcells H6.out.2 4 _ rfl
            have hns : ∀ n ∈ [x.op, x.a, x.b, x.c, x.n], -9223372036854775808 ≤ n ∧ n ≤ 9223372036854775807 := by
              have hq := HX.out.2
              intro n hn; simp at hn
              rcases hn with rfl | rfl | rfl | rfl | rfl
              · exact hq.op
              · exact hq.a
              · exact hq.b
              · exact hq.c
              · exact hq.n
            have HP := hid' (H6.out.1.put [x.op, x.a, x.b, x.c, x.n] hns (by simp only [List.length_cons, List.length_nil]; omega))
            go_wp2_with fail
            refine HP.out.mono ?_
            rintro e w7 ⟨⟨rv7, rfl⟩, h7, g7⟩
            have H7 := hid' (show EncSt w b0 B _ _ c (Gen.pI c i ++ putAll [x.op, x.a, x.b, x.c, x.n]) w7 ∧ IxBox w7 b6 x from ⟨h7, box_grown g7 hbx H6.out.2⟩)
            have hl7 : (Gen.pI c i ++ putAll [x.op, x.a, x.b, x.c, x.n]).length ≤ 40000000050 := by
              have := putAll_len [x.op, x.a, x.b, x.c, x.n] hns
              rw [List.length_append]; simp only [List.length_cons, List.length_nil] at this; omega
            clear z0 z1 z2 z3 z4 h7 g7 HP H6 hns
            have z2 := bcells H7.out.2 5 _ rfl
            obtain ⟨v7, hv7, ho7⟩ := H7.out.1.out
            have x0 := bcells hv7 0 _ rfl
            have HT := hid' (putText_any v7 _ x.s w7 ho7.reads (by rw [nums_length]; have := HX.out.2.s; omega))
            have hf : w7.frozen? ⟨B, 0, none⟩ = false := by simp [World.frozen?, hv7]
            clear hv7 ho7
            go_wp2_with fail
            refine HT.out.mono ?_
            intro e w8 hfr
            obtain ⟨p8, n8, c8, rfl, b8, h8, g8'⟩ := H7.out.1.text hfr
            have H8 := hid' (And.intro h8 (box_grown g8' hbx H7.out.2))
            have z5 := keep_all b8 _ _ x0
            have z6 : w8.frozen? ⟨B, 0, none⟩ = false := (World.frozen?_of_block (b8.block B (World.block_lt_of_cell? _ _ x0))).trans hf
            have hl8 : (Gen.pI c i ++ putAll [x.op, x.a, x.b, x.c, x.n] ++ Wire.putText x.s.data.toList).length ≤ 40002000070 := by
              have := Gen.text_len x.s HX.out.2.s
              rw [List.length_append]; omega
            clear z2 x0 hf HT hfr b8 h8 g8' H7 hl7
            go_upto_region 19 with (fail)
            clear z5 z6
            generalize World.setCell w8 _ _ = w9 at *
            have z3 := bcells H8.out.2 6 _ rfl
            have HP := hid' (H8.out.1.put [x.to] (by intro n hn; simp at hn; rcases hn with rfl; exact HX.out.2.to) (by simp only [List.length_cons, List.length_nil]; omega))
            go_wp2_with fail
            refine HP.out.mono ?_
            rintro e w10 ⟨⟨rv10, rfl⟩, h10, -⟩
            rw [← Gen.pI_step c i x HX.out.1] at h10
            have H10 := hid' h10
            clear z3 h10 HP H8 hl8
            go_wp2_with fail
            go_roundw
            case rel => exact ⟨i + 1, by go_num, by have := HI.out; omega, H10⟩
            case measure => have := HI.out; simp [intOf]; omega
          · obtain rfl : i = c.ins.length := by omega
            have g10 : decide (c.ins.length < c.ins.length) = false := by simp
            clear hin
            have hr := HR.out
            rw [Gen.pI_all] at hr
            obtain ⟨v9, hv9, ho9⟩ := hr.out
            have x0 := bcells hv9 0 _ rfl
            have HO := hid' ho9
            clear hr hv9 ho9
            go_wp2_with fail
            refine bodyPost_ret (results_tmp2 rfl _ _ _) rfl ?_
            exact ⟨_, rfl, HO.out.reads, HR.out.bel⟩
end Go.Proofs.YtiejoapnljkjdaaGreatDoor

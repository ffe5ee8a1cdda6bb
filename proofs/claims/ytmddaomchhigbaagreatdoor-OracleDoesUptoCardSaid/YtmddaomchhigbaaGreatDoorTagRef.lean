/- Proved: the reference's Tag gives the HMAC of the plain law. Conditions: at most 10,000,000 bytes. -/
import Derived.Test.YtmddaomchhigbaaGreatDoorTagP
import Derived.Test.YtmddaomchhigbaaGreatDoorMacRef
import Derived.Lib.ConvBytes
import Derived.Lib.AtoiErrMem
namespace Go.Proofs.YtmddaomchhigbaaGreatDoor
open Go.RowKit
set_option linter.unusedVariables false
set_option maxRecDepth 100000

theorem parts_one (w : World) (s : ByteArray) : PartsAre (w.alloc (.cells #[.string s] 9)) (.slice (some ⟨w.heap.size, 0, none⟩) 1 1) [s] := OwnsS.parts (OwnsS.lit [s] (Nat.le_refl _) (by simp)) (by simp)
theorem cat_one (s : ByteArray) : Sha.nums (cat [s]) = Sha.nums s := by rw [cat_cons, cat_nil, List.append_nil]
theorem keys_below {fr : Nat × Nat × Nat} {w w' : World} (hk : Hid (Keys fr w)) (hb : Below w.heap.size w w') : Hid (Keys fr w') := (hb.block _ hk.out.lt).trans hk.out

/-- '[]byte(s)'. -/
theorem bytes_of_text (w : World) (s : ByteArray) (hs : s.size ≤ 140737488355328) : ∃ v w', (convert 9 24 (.string s)).run Tryz.prog w = .ok v w' ∧ Reads w' v (Sha.nums s) ∧ Below w.heap.size w w' := by
  refine ⟨_, _, Lib.run_convert_string_bytes w 9 24 5 (u := .string) s Tryz.underlying9 Tryz.underlying24 Tryz.underlying5, Or.inr ⟨w.heap.size, 0, grownCap w s.size 0 5, ?_, ?_, ?_, ?_, fun i hi => ?_⟩, Lib.bytesWorld_below _ _ _⟩
  · rw [Sha.nums_length]
  · rw [Lib.bytesWorld_size]
    omega
  · rw [Sha.nums_length]
    exact grownCap_ge _ _ _ _
  · exact grownCap_le_maxLen _ _ _ _ (by unfold maxLen; omega)
  · rw [Sha.nums_length] at hi
    rw [Nat.zero_add, Lib.bytesWorld_cell w 5 s i hi]
    simp [Sha.nums, List.getD_eq_getElem?_getD, hi]

def padAt (k : List Int) (y : Int) (n : Nat) : List Int := (List.range 64).map fun i => if i < n then bits .xor .u8 (k.getD i 0) y else 0
theorem padAt_length (k : List Int) (y : Int) (n : Nat) : (padAt k y n).length = 64 := by simp [padAt]
theorem padAt_all (k : List Int) (y : Int) : padAt k y 64 = Sha.pad k y := by
  unfold padAt Sha.pad
  apply List.map_congr_left
  intro i hi
  rw [if_pos (List.mem_range.1 hi)]
theorem padAt_none (k : List Int) (y : Int) : padAt k y 0 = List.replicate 64 0 := by
  unfold padAt
  rw [List.map_congr_left (g := fun _ => (0 : Int)) (fun i _ => by rw [if_neg (by omega)]), List.map_const', List.length_range]
theorem padAt_step (k : List Int) (y : Int) (n : Nat) (hn : n < 64) : (padAt k y n).set n (bits .xor .u8 (k.getD n 0) y) = padAt k y (n + 1) := by
  apply List.ext_getElem?
  intro i
  by_cases hi : i < 64
  · rw [List.getElem?_set]
    by_cases e : n = i
    · subst e
      rw [if_pos rfl, if_pos (by rw [padAt_length]; omega), padAt, List.getElem?_map, List.getElem?_range hi]
      simp
    · rw [if_neg e, padAt, padAt, List.getElem?_map, List.getElem?_map, List.getElem?_range hi]
      simp only [Option.map_some, Option.some.injEq]
      by_cases e2 : i < n
      · rw [if_pos e2, if_pos (by omega)]
      · rw [if_neg e2, if_neg (by omega)]
  · rw [List.getElem?_eq_none (by rw [List.length_set, padAt_length]; omega), List.getElem?_eq_none (by rw [padAt_length]; omega)]
/-- A made slice with elements. -/
theorem Owns.zeros {base : Nat} {w : World} (hb : base ≤ w.heap.size) (n c : Nat) (hn : n ≤ c) (hm : c ≤ maxLen) : Owns base (w.alloc (.cells (Array.replicate c (.int .u8 0)) 5)) (.slice (some ⟨w.heap.size, 0, none⟩) n c) (List.replicate n 0) := by
  refine ⟨by simp, Or.inr ⟨w.heap.size, c, Array.replicate c (.int .u8 0), by rw [List.length_replicate], hb, heap_alloc_new w _, by rw [List.length_replicate]; exact hn, hm, by simp, ?_⟩⟩
  rw [List.length_replicate, Nat.mul_one, Array.toList_replicate, List.take_replicate, List.map_replicate, Nat.min_eq_left hn]
theorem Owns.stored {base : Nat} {w : World} {g n cap : Nat} {l : List Int} (h : Owns base w (.slice (some ⟨g, 0, none⟩) n cap) l) (hn : l.length = n) (j : Nat) (x : Int) :
    Owns base (w.setCell ⟨g, j, none⟩ (.int .u8 x)) (.slice (some ⟨g, 0, none⟩) n cap) (l.set j x) ∧ w.grownBy (w.setCell ⟨g, j, none⟩ (.int .u8 x)) (some g) := by
  unfold Owns at h ⊢
  rw [hn] at h
  have := World.ownsRow.stored h j (.int .u8 x)
  rw [List.length_set, hn, List.map_set]
  exact this
/-- What holds at the loop's head, so many rounds done. -/
structure PadsAt (w0 wr : World) (k : List Int) (c : Nat) (n : Nat) : Prop where
  bel : Below w0.heap.size w0 wr
  inn : Owns w0.heap.size wr (.slice (some ⟨w0.heap.size, 0, none⟩) 64 c) (padAt k 54 n)
  out : Owns w0.heap.size wr (.slice (some ⟨w0.heap.size + 1, 0, none⟩) 64 96) (padAt k 92 n)
theorem PadsAt.step {w0 wr : World} {k : List Int} {c n : Nat} (P : PadsAt w0 wr k c n) (hn : n < 64) {x y : Int} (hx : x = bits .xor .u8 (k.getD n 0) 54) (hy : y = bits .xor .u8 (k.getD n 0) 92) :
    PadsAt w0 ((wr.setCell ⟨w0.heap.size, n, none⟩ (.int .u8 x)).setCell ⟨w0.heap.size + 1, n, none⟩ (.int .u8 y)) k c (n + 1) := by
  subst hx hy
  obtain ⟨i1, g1⟩ := P.inn.stored (padAt_length _ _ _) n (bits .xor .u8 (k.getD n 0) 54)
  rw [padAt_step k 54 n hn] at i1
  have o1 : Owns w0.heap.size (wr.setCell ⟨w0.heap.size, n, none⟩ (.int .u8 (bits .xor .u8 (k.getD n 0) 54))) (.slice (some ⟨w0.heap.size + 1, 0, none⟩) 64 96) (padAt k 92 n) := World.ownsRow.kept P.out g1 (Or.inr (by simp [Value.ownBlock]))
  obtain ⟨o2, g2⟩ := o1.stored (padAt_length _ _ _) n (bits .xor .u8 (k.getD n 0) 92)
  rw [padAt_step k 92 n hn] at o2
  have i2 := World.ownsRow.kept i1 g2 (Or.inr (by simp [Value.ownBlock]))
  exact ⟨(P.bel.setCell (by simp) _).setCell (by simp) _, i2, o2⟩
theorem PadsAt.cells {w0 wr : World} {k : List Int} {c n : Nat} (P : PadsAt w0 wr k c n) (j : Nat) (hj : j < 64) :
    (∃ x, wr.cell? ⟨w0.heap.size, j, none⟩ = some (.int .u8 x)) ∧ (∃ x, wr.cell? ⟨w0.heap.size + 1, j, none⟩ = some (.int .u8 x)) ∧ wr.frozen? ⟨w0.heap.size, j, none⟩ = false ∧ wr.frozen? ⟨w0.heap.size + 1, j, none⟩ = false := by
  have h1 := P.inn
  have h2 := P.out
  unfold Owns at h1 h2
  rw [padAt_length] at h1 h2
  have c1 := World.ownsRow.cellAt h1 j (by omega)
  have c2 := World.ownsRow.cellAt h2 j (by omega)
  rw [List.getElem?_map, List.getElem?_eq_getElem (by rw [padAt_length]; omega)] at c1 c2
  exact ⟨⟨_, c1⟩, ⟨_, c2⟩, World.ownsRow.frozenAt h1 j, World.ownsRow.frozenAt h2 j⟩
theorem make_inner (w : World) (n : Nat) (hn : n ≤ 100000000000000) : (Instr.makeSlice 24 (.int .i64 64) (.int .i64 (64 + (n : Int)))).run Tryz.prog w = .ok (.slice (some ⟨w.heap.size, 0, none⟩) 64 (64 + n)) (w.alloc (.cells (Array.replicate (64 + n) (.int .u8 0)) 5)) := by
  have e : (64 + (n : Int)) = ((64 + n : Nat) : Int) := by omega
  rw [e]
  exact make_bytes w 64 (64 + n) (by omega) (by omega)
theorem make_outer (w : World) : (Instr.makeSlice 24 (.int .i64 64) (.int .i64 96)).run Tryz.prog w = .ok (.slice (some ⟨w.heap.size, 0, none⟩) 64 96) (w.alloc (.cells (Array.replicate 96 (.int .u8 0)) 5)) :=
  make_bytes w 64 96 (by omega) (by omega)
theorem PadsAt.start (w0 : World) (k : List Int) (n : Nat) (hn : n ≤ 100000000000000) :
    PadsAt w0 ((w0.alloc (.cells (Array.replicate (64 + n) (.int .u8 0)) 5)).alloc (.cells (Array.replicate 96 (.int .u8 0)) 5)) k (64 + n) 0 := by
  refine ⟨((Below.refl _ _).alloc (Nat.le_refl _) _).alloc (by simp) _, ?_, ?_⟩
  · rw [padAt_none]
    exact (Owns.zeros (Nat.le_refl _) 64 (64 + n) (by omega) (by unfold maxLen; omega)).alloc _
  · rw [padAt_none]
    have := Owns.zeros (base := w0.heap.size) (w := w0.alloc (.cells (Array.replicate (64 + n) (.int .u8 0)) 5)) (by simp) 64 96 (by omega) (by unfold maxLen; omega)
    simpa using this

def RefTagPost (w : World) (k l : List Int) (e : Ending) (w' : World) : Prop := ∃ v, e = .returned v ∧ Below w.heap.size w w' ∧ Owns w.heap.size w' v (Sha.tag k l)

set_option maxHeartbeats 2000000 in
theorem reftag_short (w : World) (key : ByteArray) (v : Value) (l : List Int) (hr : Reads w v l) (hl : l.length ≤ 10000000) (hby : ∀ x ∈ l, 0 ≤ x ∧ x ≤ 255) (hkey : key.size ≤ 64) :
    Calls Tryz.prog 29 #[.string key, v] w (RefTagPost w (Sha.nums key) l) := by
  obtain ⟨a, c, rfl⟩ := hr.len
  obtain ⟨kv, w0, hcv, RK, b0⟩ := bytes_of_text w key (by omega)
  have R0 := hid' (hr.below b0)
  have HBY := hid' hby
  have HKEY := hid' (key_short key (by omega))
  have HKL := hid' (Sha.nums_length key)
  generalize Sha.nums key = k at *
  obtain ⟨ka, kc, rfl⟩ := RK.len
  have HRK := hid' RK
  have HB0 := hid' b0
  have hmk1 := fun w => make_inner w l.length (by omega)
  have hmk2 := fun w => make_outer w
  have h64 : ¬ (64 : Int) < (k.length : Int) := by have := HKL.out; omega
  have hk64 : k.length ≤ 64 := by have := HKL.out; omega
  have S0 := PadsAt.start w0 k l.length (by omega)
  clear hr hby RK b0
  go_enter Tryz.func29, Tryz.ntmps29
  go_wp2_with fail
  generalize hW : (w0.alloc _).alloc _ = W1 at *
  clear hW hmk1 hmk2 hcv
  go_loopw [8] (fun v wr => ∃ t : Nat, t ≤ 64 ∧ v = .int .i64 t ∧ PadsAt w0 wr k (64 + l.length) t) (fun v _ => 64 - (intOf v).toNat)
  case atStart => exact ⟨0, by omega, rfl, S0⟩
  case round =>
    clear S0
    obtain ⟨t, ht, rfl, P⟩ := hrel
    by_cases hlt : t < 64
    · have t64 : (t : Int) < 64 := by omega
      obtain ⟨⟨x1, c1⟩, ⟨x2, c2⟩, f1, f2⟩ := P.cells t hlt
      by_cases hk : t < k.length
      · have RK2 := HRK.out.below P.bel
        rcases RK2 with ⟨_, h0⟩ | ⟨b, off, c', hv, hb, _, _, hcell⟩
        · subst h0
          simp at hk
        · obtain ⟨rfl, rfl⟩ : ka = some ⟨b, off, none⟩ ∧ kc = c' := by simpa using hv
          have c3 := hcell t hk
          have tk : (t : Int) < (k.length : Int) := by omega
          clear hcell hv
          go_wp2_with fail
          go_roundw
          case rel => exact ⟨t + 1, by omega, by go_num, P.step hlt (by simp [List.getD_eq_getElem?_getD, hk]) (by simp [List.getD_eq_getElem?_getD, hk])⟩
          case measure => simp [intOf]; omega
      · have tk : ¬ (t : Int) < (k.length : Int) := by omega
        have hk0 : k.getD t 0 = 0 := by rw [List.getD_eq_getElem?_getD, List.getElem?_eq_none (by omega)]; rfl
        go_wp2_with fail
        go_roundw
        case rel => exact ⟨t + 1, by omega, by go_num, P.step hlt (by rw [hk0]) (by rw [hk0])⟩
        case measure => simp [intOf]; omega
    · obtain rfl : t = 64 := by omega
      rw [show ((64 : Nat) : Int) = 64 from rfl]
      have I1 := P.inn
      have O1 := P.out
      have B1 := P.bel
      rw [padAt_all] at I1 O1
      have HI := hid' I1
      have HO := hid' O1
      have HB := hid' B1
      have R1 := hid' (R0.out.below B1)
      have hlp : (Sha.pad k 54).length = 64 := Sha.pad_length _ _
      have hlq : (Sha.pad k 92).length = 64 := Sha.pad_length _ _
      clear P I1 O1 B1 R0 HRK
      go_wp2_with (first
        | (refine append_reads rfl (.tmp 44) (.tmp 45) rfl w0.heap.size (.slice (some ⟨w0.heap.size, 0, none⟩) 64 (64 + l.length)) (Sha.pad k 54) rfl HI.out l R1.out (by omega) HB.out.size (fun v1 w1 g1 gb g2 => ?_); refine halt' ?_)
        | fail)
      have b1 := HB.out.trans gb
      have O2 := hid' (show Owns w0.heap.size w1 (.slice (some ⟨w0.heap.size + 1, 0, none⟩) 64 96) (Sha.pad k 92) from World.ownsRow.kept HO.out g2 (Or.inr (by simp [Value.ownBlock])))
      have hl1 : (Sha.pad k 54 ++ l).length ≤ 100000000000000 := by rw [List.length_append]; omega
      have hy1 : ∀ x ∈ Sha.pad k 54 ++ l, 0 ≤ x ∧ x ≤ 255 := fun x hx => (List.mem_append.1 hx).elim (Sha.pad_byte _ _ x) (HBY.out x)
      have R2 := hid' g1.reads
      have HY1 := hid' hy1
      have HB1 := hid' b1
      have HKY := hid' (show Sha.tag _ l = Sha.sum (Sha.pad k 92 ++ Sha.sum (Sha.pad k 54 ++ l)) by rw [Sha.tag, HKEY.out])
      clear HI HO HB R1 g1 g2 gb hy1 b1
      refine hid' ?_
      go_wp2_with fail
      refine (refsum_any w1 v1 _ R2.out hl1 HY1.out).mono ?_
      rintro e w2 ⟨v2, rfl, b2, O3⟩
      have O4 := hid' (O2.out.below b2)
      have hl2 : (Sha.sum (Sha.pad k 54 ++ l)).length = 32 := Sha.sum_length _
      have HY2 := hid' (fun x hx => Sha.sum_byte (Sha.pad k 54 ++ l) x hx)
      generalize Sha.sum (Sha.pad k 54 ++ l) = m at *
      have R3 := hid' O3.reads
      have HB2 := hid' (HB1.out.trans (b2.mono HB1.out.size))
      clear O2 O3 R2 HB1 b2 hl1 HY1
      go_wp2_with (first
        | (refine append_reads rfl (.tmp 47) (.tmp 49) rfl w0.heap.size (.slice (some ⟨w0.heap.size + 1, 0, none⟩) 64 96) (Sha.pad k 92) rfl O4.out m R3.out (by omega) HB2.out.size (fun v3 w3 g1 gb g2 => ?_); refine halt' ?_)
        | fail)
      have b3 := HB2.out.trans gb
      have hl3 : (Sha.pad k 92 ++ m).length ≤ 100000000000000 := by rw [List.length_append]; omega
      have hy3 : ∀ x ∈ Sha.pad k 92 ++ m, 0 ≤ x ∧ x ≤ 255 := fun x hx => (List.mem_append.1 hx).elim (Sha.pad_byte _ _ x) (HY2.out x)
      have R5 := hid' g1.reads
      have HY3 := hid' hy3
      have HB3 := hid' b3
      clear O4 R3 HB2 g1 g2 gb hy3 b3
      refine hid' ?_
      go_wp2_with fail
      refine (refsum_any w3 v3 _ R5.out hl3 HY3.out).mono ?_
      rintro e w4 ⟨v4, rfl, b4, O5⟩
      rw [← HKY.out] at O5
      have bf := HB0.out.trans ((HB3.out.trans (b4.mono HB3.out.size)).mono HB0.out.size)
      have hs : w.heap.size ≤ w3.heap.size := Nat.le_trans HB0.out.size HB3.out.size
      have HO5 := hid' (O5.mono hs)
      clear O5 b4
      go_wp2_with fail
      go_ret
      exact ⟨_, rfl, bf, HO5.out⟩

set_option maxHeartbeats 2000000 in
theorem reftag_long (w : World) (key : ByteArray) (v : Value) (l : List Int) (hr : Reads w v l) (hl : l.length ≤ 10000000) (hby : ∀ x ∈ l, 0 ≤ x ∧ x ≤ 255) (hkey : 64 < key.size) (hkl : key.size ≤ 10000000) :
    Calls Tryz.prog 29 #[.string key, v] w (RefTagPost w (Sha.nums key) l) := by
  obtain ⟨a, c, rfl⟩ := hr.len
  obtain ⟨kv, wz, hcv, RK, b0⟩ := bytes_of_text w key (by omega)
  have R0 := hid' (hr.below b0)
  have HBY := hid' hby
  have HKEY := hid' (show Sha.key (Sha.nums key) = Sha.sum (Sha.nums key) by rw [Sha.key, if_pos (by rw [Sha.nums_length]; omega)])
  have HKL := hid' (Sha.nums_length key)
  have HKB := hid' (fun x hx => Sha.nums_byte key x hx)
  generalize Sha.nums key = kk at *
  obtain ⟨ka, kc, rfl⟩ := RK.len
  have hmk1 := fun w => make_inner w l.length (by omega)
  have hmk2 := fun w => make_outer w
  have h64' : (64 : Int) < (kk.length : Int) := by have := HKL.out; omega
  have HRKZ := hid' RK
  have HB0Z := hid' b0
  clear hr hby RK b0
  go_enter Tryz.func29, Tryz.ntmps29
  go_wp2_with fail
  refine (refsum_any wz _ kk HRKZ.out (by have := HKL.out; omega) HKB.out).mono ?_
  rintro e w0 ⟨kv, rfl, bz, OZ⟩
  replace R0 := hid' (R0.out.below bz)
  have HRK := hid' OZ.reads
  have HB0 := hid' (HB0Z.out.trans (bz.mono HB0Z.out.size))
  have h64 : (Sha.sum kk).length = 32 := Sha.sum_length _
  have hk64 : (Sha.sum kk).length ≤ 64 := by omega
  clear HRKZ HB0Z OZ bz h64'
  generalize Sha.sum kk = k at *
  obtain ⟨ka, kc, rfl⟩ := HRK.out.len
  have S0 := PadsAt.start w0 k l.length (by omega)
  go_wp2_with fail
  generalize hW : (w0.alloc _).alloc _ = W1 at *
  clear hW hmk1 hmk2 hcv
  go_loopw [8] (fun v wr => ∃ t : Nat, t ≤ 64 ∧ v = .int .i64 t ∧ PadsAt w0 wr k (64 + l.length) t) (fun v _ => 64 - (intOf v).toNat)
  case atStart => exact ⟨0, by omega, rfl, S0⟩
  case round =>
    clear S0
    obtain ⟨t, ht, rfl, P⟩ := hrel
    by_cases hlt : t < 64
    · have t64 : (t : Int) < 64 := by omega
      obtain ⟨⟨x1, c1⟩, ⟨x2, c2⟩, f1, f2⟩ := P.cells t hlt
      by_cases hk : t < k.length
      · have RK2 := HRK.out.below P.bel
        rcases RK2 with ⟨_, h0⟩ | ⟨b, off, c', hv, hb, _, _, hcell⟩
        · subst h0
          simp at hk
        · obtain ⟨rfl, rfl⟩ : ka = some ⟨b, off, none⟩ ∧ kc = c' := by simpa using hv
          have c3 := hcell t hk
          have tk : (t : Int) < (k.length : Int) := by omega
          clear hcell hv
          go_wp2_with fail
          go_roundw
          case rel => exact ⟨t + 1, by omega, by go_num, P.step hlt (by simp [List.getD_eq_getElem?_getD, hk]) (by simp [List.getD_eq_getElem?_getD, hk])⟩
          case measure => simp [intOf]; omega
      · have tk : ¬ (t : Int) < (k.length : Int) := by omega
        have hk0 : k.getD t 0 = 0 := by rw [List.getD_eq_getElem?_getD, List.getElem?_eq_none (by omega)]; rfl
        go_wp2_with fail
        go_roundw
        case rel => exact ⟨t + 1, by omega, by go_num, P.step hlt (by rw [hk0]) (by rw [hk0])⟩
        case measure => simp [intOf]; omega
    · obtain rfl : t = 64 := by omega
      rw [show ((64 : Nat) : Int) = 64 from rfl]
      have I1 := P.inn
      have O1 := P.out
      have B1 := P.bel
      rw [padAt_all] at I1 O1
      have HI := hid' I1
      have HO := hid' O1
      have HB := hid' B1
      have R1 := hid' (R0.out.below B1)
      have hlp : (Sha.pad k 54).length = 64 := Sha.pad_length _ _
      have hlq : (Sha.pad k 92).length = 64 := Sha.pad_length _ _
      clear P I1 O1 B1 R0 HRK
      go_wp2_with (first
        | (refine append_reads rfl (.tmp 44) (.tmp 45) rfl w0.heap.size (.slice (some ⟨w0.heap.size, 0, none⟩) 64 (64 + l.length)) (Sha.pad k 54) rfl HI.out l R1.out (by omega) HB.out.size (fun v1 w1 g1 gb g2 => ?_); refine halt' ?_)
        | fail)
      have b1 := HB.out.trans gb
      have O2 := hid' (show Owns w0.heap.size w1 (.slice (some ⟨w0.heap.size + 1, 0, none⟩) 64 96) (Sha.pad k 92) from World.ownsRow.kept HO.out g2 (Or.inr (by simp [Value.ownBlock])))
      have hl1 : (Sha.pad k 54 ++ l).length ≤ 100000000000000 := by rw [List.length_append]; omega
      have hy1 : ∀ x ∈ Sha.pad k 54 ++ l, 0 ≤ x ∧ x ≤ 255 := fun x hx => (List.mem_append.1 hx).elim (Sha.pad_byte _ _ x) (HBY.out x)
      have R2 := hid' g1.reads
      have HY1 := hid' hy1
      have HB1 := hid' b1
      have HKY := hid' (show Sha.tag _ l = Sha.sum (Sha.pad k 92 ++ Sha.sum (Sha.pad k 54 ++ l)) by rw [Sha.tag, HKEY.out])
      clear HI HO HB R1 g1 g2 gb hy1 b1
      refine hid' ?_
      go_wp2_with fail
      refine (refsum_any w1 v1 _ R2.out hl1 HY1.out).mono ?_
      rintro e w2 ⟨v2, rfl, b2, O3⟩
      have O4 := hid' (O2.out.below b2)
      have hl2 : (Sha.sum (Sha.pad k 54 ++ l)).length = 32 := Sha.sum_length _
      have HY2 := hid' (fun x hx => Sha.sum_byte (Sha.pad k 54 ++ l) x hx)
      generalize Sha.sum (Sha.pad k 54 ++ l) = m at *
      have R3 := hid' O3.reads
      have HB2 := hid' (HB1.out.trans (b2.mono HB1.out.size))
      clear O2 O3 R2 HB1 b2 hl1 HY1
      go_wp2_with (first
        | (refine append_reads rfl (.tmp 47) (.tmp 49) rfl w0.heap.size (.slice (some ⟨w0.heap.size + 1, 0, none⟩) 64 96) (Sha.pad k 92) rfl O4.out m R3.out (by omega) HB2.out.size (fun v3 w3 g1 gb g2 => ?_); refine halt' ?_)
        | fail)
      have b3 := HB2.out.trans gb
      have hl3 : (Sha.pad k 92 ++ m).length ≤ 100000000000000 := by rw [List.length_append]; omega
      have hy3 : ∀ x ∈ Sha.pad k 92 ++ m, 0 ≤ x ∧ x ≤ 255 := fun x hx => (List.mem_append.1 hx).elim (Sha.pad_byte _ _ x) (HY2.out x)
      have R5 := hid' g1.reads
      have HY3 := hid' hy3
      have HB3 := hid' b3
      clear O4 R3 HB2 g1 g2 gb hy3 b3
      refine hid' ?_
      go_wp2_with fail
      refine (refsum_any w3 v3 _ R5.out hl3 HY3.out).mono ?_
      rintro e w4 ⟨v4, rfl, b4, O5⟩
      rw [← HKY.out] at O5
      have bf := HB0.out.trans ((HB3.out.trans (b4.mono HB3.out.size)).mono HB0.out.size)
      have hs : w.heap.size ≤ w3.heap.size := Nat.le_trans HB0.out.size HB3.out.size
      have HO5 := hid' (O5.mono hs)
      clear O5 b4
      go_wp2_with fail
      go_ret
      exact ⟨_, rfl, bf, HO5.out⟩

theorem reftag_any (w : World) (key : ByteArray) (v : Value) (l : List Int) (hr : Reads w v l) (hl : l.length ≤ 10000000) (hby : ∀ x ∈ l, 0 ≤ x ∧ x ≤ 255) (hkl : key.size ≤ 10000000) :
    Calls Tryz.prog 29 #[.string key, v] w (RefTagPost w (Sha.nums key) l) := by
  by_cases h : key.size ≤ 64
  · exact reftag_short w key v l hr hl hby h
  · exact reftag_long w key v l hr hl hby (by omega) hkl

end Go.Proofs.YtmddaomchhigbaaGreatDoor

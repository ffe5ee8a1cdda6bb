/- The program's Tag: HMAC-SHA256 over texts. -/
import Derived.Test.YtmddaomchhigbaaGreatDoorMacPad
namespace Go.Proofs.YtmddaomchhigbaaGreatDoor
open Go.RowKit
set_option linter.unusedVariables false
set_option maxRecDepth 100000

theorem info_string : (Tryz.prog.info? 9).map (fun i => (i.zero, i.size, i.bytes)) = some (some (.string ⟨#[]⟩), 1, 16) := by kernel_rfl
/-- A slice of strings that the call owns. -/
def OwnsS (base : Nat) (w : World) (v : Value) (xs : List ByteArray) : Prop := w.ownsRow base 9 1 v xs.length (xs.map .string)
theorem OwnsS.lit {base : Nat} {w : World} (xs : List ByteArray) (hb : base ≤ w.heap.size) (hl : xs.length ≤ 1000) : OwnsS base (w.alloc (.cells (xs.map Value.string).toArray 9)) (.slice (some ⟨w.heap.size, 0, none⟩) xs.length xs.length) xs := by
  have := World.ownsRow_lit (base := base) (e := 9) (size := 1) w (xs.map Value.string).toArray xs.length hb (by unfold maxLen; omega) (by simp)
  simpa [OwnsS] using this
theorem OwnsS.parts {base : Nat} {w : World} {v : Value} {xs : List ByteArray} (h : OwnsS base w v xs) (hl : xs.length ≤ 140737488355328) : PartsAre w v xs := by
  have h' := h
  obtain ⟨h1, h2⟩ := h
  rcases h2 with ⟨hv, h0⟩ | ⟨g, cap, cur, hv, hg, hh, hc, hm, r⟩
  · have : xs = [] := List.length_eq_zero_iff.1 h0
    subst this
    exact Or.inl ⟨none, 0, hv, rfl, fun _ => rfl⟩
  · refine Or.inr ⟨g, 0, cap, hv, fun j x hj => ?_, lt_of_block hh, hc, hl⟩
    subst hv
    have hjl : j < xs.length := (List.getElem?_eq_some_iff.1 hj).1
    rw [Nat.zero_add, World.ownsRow.cellAt h' j (by omega), List.getElem?_map, hj]
    rfl
/-- 'append(v, x...)' where x is a slice of strings. -/
theorem append_parts {w : World} {ops : Array Oper} {rest : List Oper} {o : Oper} {a : Act} {Q : Exit → Act → World → Prop} (hgd : o.guard = none) (s x : Operand)
    (ho : o.op = .call { callee := .builtin .append, args := #[s, x], argTypes := #[87, 87] })
    (base : Nat) (v : Value) (l : List ByteArray) (hs : a.eval s = v) (hown : OwnsS base w v l) (news : List ByteArray) (hr : PartsAre w (a.eval x) news)
    (hbound : l.length + news.length ≤ 1000000000000) (hbase : base ≤ w.heap.size)
    (h : ∀ v' w', OwnsS base w' v' (l ++ news) → w.grownBy w' v.ownBlock → wpList Tryz.prog ops Q rest (a.put o.dst v') w') : wpList Tryz.prog ops Q (o :: rest) a w := by
  obtain ⟨i, hi, hz, hsz, hby⟩ := info_parts info_string
  have key : ∀ (ad : Addr) (m c : Nat), a.eval x = .slice (some ad) m c → news.length = m → (∀ j u, (news.map Value.string)[j]? = some u → w.cell? (ad.add j) = some u) → wpList Tryz.prog ops Q (o :: rest) a w := by
    intro ad m c hx hm hnews
    subst hm
    refine wpList_append_own w hgd s x 87 ho base 9 i (.string ⟨#[]⟩) 1 16 Tryz.underlying87 hi hz hsz hby rfl (by decide) v l.length _ hs hown ad news.length c (news.map Value.string) hx (by simp) hnews
      (fun u hu => ?_) (by unfold maxLen; omega) (by omega) hbase (fun v' w' h1 h2 _ => h v' w' ?_ h2)
    · simp only [List.mem_map] at hu
      obtain ⟨n, _, rfl⟩ := hu
      rfl
    · show World.ownsRow w' base _ 1 v' (l ++ news).length ((l ++ news).map _)
      rw [List.length_append, List.map_append]
      exact h1
  rcases hr with ⟨ao, c, hx, rfl, hc0⟩ | ⟨b, off, c, hx, hcell, hb, hc, hm⟩
  · cases ao with
    | none =>
      obtain rfl := hc0 rfl
      exact wpList_append_own_none hgd s x 87 ho base 9 i 1 Tryz.underlying87 hi v l.length _ hs hown hx (h v w (by rw [List.append_nil]; exact hown) (World.grownBy.refl _ _))
    | some ad => exact key ad 0 c hx rfl (fun j u hj => by simp at hj)
  · refine key ⟨b, off, none⟩ news.length c hx rfl fun j u hj => ?_
    have hadd : (⟨b, off, none⟩ : Addr).add j = ⟨b, off + j, none⟩ := by unfold Addr.add; split <;> simp_all
    rw [List.getElem?_map] at hj
    cases hx2 : news[j]? with
    | none => rw [hx2] at hj; simp at hj
    | some y =>
      rw [hx2] at hj
      simp at hj
      rw [hadd, ← hj]
      exact hcell j y hx2
theorem PartsAre.below {w w' : World} {v : Value} {xs : List ByteArray} (h : PartsAre w v xs) (hb : Below w.heap.size w w') : PartsAre w' v xs := by
  rcases h with h | ⟨bk, o, c, hv, hc, hl, h1, h2⟩
  · exact Or.inl h
  · exact Or.inr ⟨bk, o, c, hv, fun j x hj => (hb.cell (p := ⟨bk, o + j, none⟩) hl).trans (hc j x hj), Nat.lt_of_lt_of_le hl hb.size, h1, h2⟩
theorem PartsAre.len {w : World} {v : Value} {xs : List ByteArray} (h : PartsAre w v xs) : ∃ a c, v = .slice a xs.length c := by
  rcases h with ⟨a, c, rfl, rfl, _⟩ | ⟨bk, o, c, hv, _⟩
  · exact ⟨a, c, rfl⟩
  · exact ⟨_, c, hv⟩
theorem cat_cons (x : ByteArray) (xs : List ByteArray) : Sha.nums (cat (x :: xs)) = Sha.nums x ++ Sha.nums (cat xs) := by
  simp [Sha.nums, cat]
theorem cat_nil : Sha.nums (cat []) = [] := rfl
theorem cat_size (xs : List ByteArray) : (cat xs).size = (Sha.nums (cat xs)).length := (Sha.nums_length _).symm

theorem cat_append (l m : List ByteArray) : Sha.nums (cat (l ++ m)) = Sha.nums (cat l) ++ Sha.nums (cat m) := by simp [Sha.nums, cat]
theorem cat_take (xs : List ByteArray) (t : Nat) (h : t < xs.length) : Sha.nums (cat (xs.take (t + 1))) = Sha.nums (cat (xs.take t)) ++ Sha.nums xs[t] := by
  rw [List.take_succ_eq_append_getElem h, cat_append]
  congr 1
  simp [Sha.nums, cat]
theorem take_cat (xs : List ByteArray) (t : Nat) (h : t < xs.length) : (Sha.nums (cat (xs.take t))).length + xs[t].size ≤ (cat xs).size := by
  have e : Sha.nums (cat xs) = Sha.nums (cat (xs.take (t + 1))) ++ Sha.nums (cat (xs.drop (t + 1))) := by
    rw [← cat_append, List.take_append_drop]
  rw [cat_size, e, List.length_append, cat_take xs t h, List.length_append, Sha.nums_length xs[t]]
  omega
theorem strOf_nums (s : ByteArray) : strOfNums (Sha.nums s) = s := by
  rw [strOfNums, Sha.nums, List.map_map]
  have : (List.map ((fun n : Int => UInt8.ofNat n.toNat) ∘ fun c : UInt8 => (c.toNat : Int)) s.data.toList) = s.data.toList := by
    conv => rhs; rw [← List.map_id s.data.toList]
    apply List.map_congr_left
    intro c _
    simp
  rw [this]
def TagPost (w : World) (k l : List Int) (e : Ending) (w' : World) : Prop := e = .returned (.string (strOfNums (Sha.tag k l))) ∧ Below w.heap.size w w'
/-- The key as it counts. -/
theorem key_short (key : ByteArray) (h : ¬ 64 < key.size) : Sha.key (Sha.nums key) = Sha.nums key := by
  rw [Sha.key, if_neg (by rw [Sha.nums_length]; omega)]
theorem key_long (key : ByteArray) (h : 64 < key.size) : Sha.nums (strOfNums (Sha.sum (Sha.nums key))) = Sha.key (Sha.nums key) := by
  rw [nums_strOfNums _ (Sha.sum_byte _), Sha.key, if_pos (by rw [Sha.nums_length]; omega)]

set_option maxHeartbeats 2000000 in
theorem tag_tail (fr : Nat × Nat × Nat) (w : World) (key : ByteArray) (v : Value) (xs : List ByteArray) (hp : PartsAre w v xs) (hk64 : key.size ≤ 64) (hx : xs.length ≤ 100000000000) (hlen : (cat xs).size ≤ 10000000000000) (hk : Hid (Keys fr w)) :
    Calls Tryz.prog 38 #[.string key, v] w (TagPost w (Sha.nums key) (Sha.nums (cat xs))) := by
  have hkey := key_short key (by omega)
  have HK := hid' hkey
  have HP := hid' hp
  have k64 : ¬ (64 : Int) < (key.size : Int) := by omega
  clear hkey hp
  go_enter Tryz.func38, Tryz.ntmps38
  go_wp2_with fail
  refine (pad_any key 92 w hk64).mono ?_
  rintro e w1 ⟨rfl, hb1⟩
  go_wp2_with fail
  refine (pad_any key 54 w1 hk64).mono ?_
  rintro e w2 ⟨rfl, hb2⟩
  have q92 : Sha.nums (strOfNums (Sha.pad (Sha.nums key) 92)) = Sha.pad (Sha.key (Sha.nums key)) 92 := by rw [HK.out, nums_strOfNums _ (Sha.pad_byte _ _)]
  have q54 : Sha.nums (strOfNums (Sha.pad (Sha.nums key) 54)) = Sha.pad (Sha.key (Sha.nums key)) 54 := by rw [HK.out, nums_strOfNums _ (Sha.pad_byte _ _)]
  generalize strOfNums (Sha.pad (Sha.nums key) 92) = s92 at *
  generalize strOfNums (Sha.pad (Sha.nums key) 54) = s54 at *
  have Q92 := hid' q92
  have Q54 := hid' q54
  have b2 : Below w.heap.size w w2 := hb1.trans (hb2.mono hb1.size)
  have P2 := HP.out.below b2
  have hr : PartsAre (w2.alloc (.cells #[.string s54] 9)) v xs := P2.below ((Below.refl _ _).alloc (Nat.le_refl _) _)
  have O2 : OwnsS w2.heap.size (w2.alloc (.cells #[.string s54] 9)) (.slice (some ⟨w2.heap.size, 0, none⟩) 1 1) [s54] := OwnsS.lit [s54] (Nat.le_refl _) (by simp)
  have HR := hid' hr
  have HO := hid' O2
  have B2 := hid' b2
  clear q92 q54 HK HP hb1 hb2 P2 hr O2 b2
  go_wp2_with (first
    | (refine append_parts rfl (.tmp 15) (.tmp 16) rfl w2.heap.size _ [s54] rfl HO.out xs HR.out (by simp; omega) (by simp) (fun v3 w3 h1 h2 => ?_); refine halt' ?_)
    | fail)
  have b3 : Below w.heap.size w w3 := (B2.out.alloc B2.out.size _).grown h2 (by have := B2.out.size; simp; omega) (fun k hk => by have := (World.ownsRow.lt HO.out k hk).1; have := B2.out.size; omega)
  have P3 : PartsAre w3 v3 (s54 :: xs) := OwnsS.parts h1 (by simp; omega)
  have hk3 : Hid (Keys fr w3) := (b3.block _ hk.out.lt).trans hk.out
  have hl3 : (cat (s54 :: xs)).size ≤ 100000000000000 := by
    rw [cat_size, cat_cons, List.length_append, Q54.out, Sha.pad_length, ← cat_size]
    omega
  have e3 : Sha.nums (cat (s54 :: xs)) = Sha.pad (Sha.key (Sha.nums key)) 54 ++ Sha.nums (cat xs) := by rw [cat_cons, Q54.out]
  clear h1 h2 HR HO
  refine hid' ?_
  go_wp2_with fail
  refine (sum_any fr w3 v3 (s54 :: xs) P3 hl3 hk3).mono ?_
  rintro e w4 ⟨rfl, hb4⟩
  rw [e3]
  have q4 : Sha.nums (strOfNums (Sha.sum (Sha.pad (Sha.key (Sha.nums key)) 54 ++ Sha.nums (cat xs)))) = Sha.sum (Sha.pad (Sha.key (Sha.nums key)) 54 ++ Sha.nums (cat xs)) := nums_strOfNums _ (Sha.sum_byte _)
  have b4 : Below w.heap.size w w4 := b3.trans (hb4.mono b3.size)
  have hk4 : Hid (Keys fr (w4.alloc (.cells #[.string s92, .string (strOfNums (Sha.sum (Sha.pad (Sha.key (Sha.nums key)) 54 ++ Sha.nums (cat xs))))] 9))) := ((b4.alloc b4.size _).block _ hk.out.lt).trans hk.out
  have P4 : PartsAre (w4.alloc (.cells #[.string s92, .string (strOfNums (Sha.sum (Sha.pad (Sha.key (Sha.nums key)) 54 ++ Sha.nums (cat xs))))] 9)) (.slice (some ⟨w4.heap.size, 0, none⟩) 2 2) [s92, strOfNums (Sha.sum (Sha.pad (Sha.key (Sha.nums key)) 54 ++ Sha.nums (cat xs)))] :=
    OwnsS.parts (OwnsS.lit _ (Nat.le_refl _) (by simp)) (by simp)
  have e4 : Sha.nums (cat [s92, strOfNums (Sha.sum (Sha.pad (Sha.key (Sha.nums key)) 54 ++ Sha.nums (cat xs)))]) = Sha.pad (Sha.key (Sha.nums key)) 92 ++ Sha.sum (Sha.pad (Sha.key (Sha.nums key)) 54 ++ Sha.nums (cat xs)) := by
    rw [cat_cons, cat_cons, cat_nil, Q92.out, q4, List.append_nil]
  have HB := hid' (b4.alloc b4.size (.cells #[.string s92, .string (strOfNums (Sha.sum (Sha.pad (Sha.key (Sha.nums key)) 54 ++ Sha.nums (cat xs))))] 9))
  have E4 := hid' e4
  have HP4 := hid' P4
  clear q4 b3 P3 hk3 hl3 e3 hb4 b4 e4 P4 hk Q92 Q54 B2
  generalize hin : strOfNums (Sha.sum (Sha.pad (Sha.key (Sha.nums key)) 54 ++ Sha.nums (cat xs))) = inn at *
  have HI := hid' hin
  clear hin
  go_wp2_with fail
  refine (sum_any fr _ _ _ HP4.out (by rw [cat_size, E4.out, List.length_append, Sha.pad_length, Sha.sum_length]; omega) hk4).mono ?_
  rintro e w5 ⟨rfl, hb5⟩
  rw [E4.out]
  go_wp2_with fail
  go_ret
  exact ⟨rfl, HB.out.trans (hb5.mono (by have := HB.out.size; simp at this ⊢; omega))⟩
set_option maxHeartbeats 2000000 in
theorem tag_long (fr : Nat × Nat × Nat) (w : World) (key : ByteArray) (v : Value) (xs : List ByteArray) (hp : PartsAre w v xs) (hk64 : 64 < key.size) (hkl : key.size ≤ 10000000000000) (hx : xs.length ≤ 100000000000) (hlen : (cat xs).size ≤ 10000000000000) (hk : Hid (Keys fr w)) :
    Calls Tryz.prog 38 #[.string key, v] w (TagPost w (Sha.nums key) (Sha.nums (cat xs))) := by
  have HP := hid' hp
  have k64 : (64 : Int) < (key.size : Int) := by omega
  have PK : PartsAre (w.alloc (.cells #[.string key] 9)) (.slice (some ⟨w.heap.size, 0, none⟩) 1 1) [key] := OwnsS.parts (OwnsS.lit [key] (Nat.le_refl _) (by simp)) (by simp)
  have e0 : Sha.nums (cat [key]) = Sha.nums key := by rw [cat_cons, cat_nil, List.append_nil]
  have hk0 : Hid (Keys fr (w.alloc (.cells #[.string key] 9))) := (((Below.refl _ _).alloc (Nat.le_refl _) _).block _ hk.out.lt).trans hk.out
  have b0 : Below w.heap.size w (w.alloc (.cells #[.string key] 9)) := (Below.refl _ _).alloc (Nat.le_refl _) _
  have HPK := hid' PK
  have E0 := hid' e0
  clear hp PK e0
  go_enter Tryz.func38, Tryz.ntmps38
  go_wp2_with fail
  refine (sum_any fr _ _ _ HPK.out (by rw [cat_size, E0.out, Sha.nums_length]; omega) hk0).mono ?_
  rintro e w0 ⟨rfl, hb0⟩
  rw [E0.out]
  have hkey := key_long key hk64
  have hb0' : Below w.heap.size w w0 := b0.trans (hb0.mono (by simp))
  have hk64' : (strOfNums (Sha.sum (Sha.nums key))).size ≤ 64 := by rw [strOfNums_size, Sha.sum_length]; omega
  clear hk0 b0 hb0 HPK E0
  generalize strOfNums (Sha.sum (Sha.nums key)) = key2 at *
  have HK := hid' hkey.symm
  clear hkey
  go_wp2_with fail
  refine (pad_any key2 92 w0 hk64').mono ?_
  rintro e w1 ⟨rfl, hb1⟩
  replace hb1 : Below w.heap.size w w1 := hb0'.trans (hb1.mono hb0'.size)
  go_wp2_with fail
  refine (pad_any key2 54 w1 hk64').mono ?_
  rintro e w2 ⟨rfl, hb2⟩
  have q92 : Sha.nums (strOfNums (Sha.pad (Sha.nums key2) 92)) = Sha.pad (Sha.key (Sha.nums key)) 92 := by rw [HK.out, nums_strOfNums _ (Sha.pad_byte _ _)]
  have q54 : Sha.nums (strOfNums (Sha.pad (Sha.nums key2) 54)) = Sha.pad (Sha.key (Sha.nums key)) 54 := by rw [HK.out, nums_strOfNums _ (Sha.pad_byte _ _)]
  generalize strOfNums (Sha.pad (Sha.nums key2) 92) = s92 at *
  generalize strOfNums (Sha.pad (Sha.nums key2) 54) = s54 at *
  have Q92 := hid' q92
  have Q54 := hid' q54
  have b2 : Below w.heap.size w w2 := hb1.trans (hb2.mono hb1.size)
  have P2 := HP.out.below b2
  have hr : PartsAre (w2.alloc (.cells #[.string s54] 9)) v xs := P2.below ((Below.refl _ _).alloc (Nat.le_refl _) _)
  have O2 : OwnsS w2.heap.size (w2.alloc (.cells #[.string s54] 9)) (.slice (some ⟨w2.heap.size, 0, none⟩) 1 1) [s54] := OwnsS.lit [s54] (Nat.le_refl _) (by simp)
  have HR := hid' hr
  have HO := hid' O2
  have B2 := hid' b2
  clear q92 q54 HK HP hb1 hb2 P2 hr O2 b2
  go_wp2_with (first
    | (refine append_parts rfl (.tmp 15) (.tmp 16) rfl w2.heap.size _ [s54] rfl HO.out xs HR.out (by simp; omega) (by simp) (fun v3 w3 h1 h2 => ?_); refine halt' ?_)
    | fail)
  have b3 : Below w.heap.size w w3 := (B2.out.alloc B2.out.size _).grown h2 (by have := B2.out.size; simp; omega) (fun k hk => by have := (World.ownsRow.lt HO.out k hk).1; have := B2.out.size; omega)
  have P3 : PartsAre w3 v3 (s54 :: xs) := OwnsS.parts h1 (by simp; omega)
  have hk3 : Hid (Keys fr w3) := (b3.block _ hk.out.lt).trans hk.out
  have hl3 : (cat (s54 :: xs)).size ≤ 100000000000000 := by
    rw [cat_size, cat_cons, List.length_append, Q54.out, Sha.pad_length, ← cat_size]
    omega
  have e3 : Sha.nums (cat (s54 :: xs)) = Sha.pad (Sha.key (Sha.nums key)) 54 ++ Sha.nums (cat xs) := by rw [cat_cons, Q54.out]
  clear h1 h2 HR HO
  refine hid' ?_
  go_wp2_with fail
  refine (sum_any fr w3 v3 (s54 :: xs) P3 hl3 hk3).mono ?_
  rintro e w4 ⟨rfl, hb4⟩
  rw [e3]
  have q4 : Sha.nums (strOfNums (Sha.sum (Sha.pad (Sha.key (Sha.nums key)) 54 ++ Sha.nums (cat xs)))) = Sha.sum (Sha.pad (Sha.key (Sha.nums key)) 54 ++ Sha.nums (cat xs)) := nums_strOfNums _ (Sha.sum_byte _)
  have b4 : Below w.heap.size w w4 := b3.trans (hb4.mono b3.size)
  have hk4 : Hid (Keys fr (w4.alloc (.cells #[.string s92, .string (strOfNums (Sha.sum (Sha.pad (Sha.key (Sha.nums key)) 54 ++ Sha.nums (cat xs))))] 9))) := ((b4.alloc b4.size _).block _ hk.out.lt).trans hk.out
  have P4 : PartsAre (w4.alloc (.cells #[.string s92, .string (strOfNums (Sha.sum (Sha.pad (Sha.key (Sha.nums key)) 54 ++ Sha.nums (cat xs))))] 9)) (.slice (some ⟨w4.heap.size, 0, none⟩) 2 2) [s92, strOfNums (Sha.sum (Sha.pad (Sha.key (Sha.nums key)) 54 ++ Sha.nums (cat xs)))] :=
    OwnsS.parts (OwnsS.lit _ (Nat.le_refl _) (by simp)) (by simp)
  have e4 : Sha.nums (cat [s92, strOfNums (Sha.sum (Sha.pad (Sha.key (Sha.nums key)) 54 ++ Sha.nums (cat xs)))]) = Sha.pad (Sha.key (Sha.nums key)) 92 ++ Sha.sum (Sha.pad (Sha.key (Sha.nums key)) 54 ++ Sha.nums (cat xs)) := by
    rw [cat_cons, cat_cons, cat_nil, Q92.out, q4, List.append_nil]
  have HB := hid' (b4.alloc b4.size (.cells #[.string s92, .string (strOfNums (Sha.sum (Sha.pad (Sha.key (Sha.nums key)) 54 ++ Sha.nums (cat xs))))] 9))
  have E4 := hid' e4
  have HP4 := hid' P4
  clear q4 b3 P3 hk3 hl3 e3 hb4 b4 e4 P4 hk Q92 Q54 B2
  generalize hin : strOfNums (Sha.sum (Sha.pad (Sha.key (Sha.nums key)) 54 ++ Sha.nums (cat xs))) = inn at *
  have HI := hid' hin
  clear hin
  go_wp2_with fail
  refine (sum_any fr _ _ _ HP4.out (by rw [cat_size, E4.out, List.length_append, Sha.pad_length, Sha.sum_length]; omega) hk4).mono ?_
  rintro e w5 ⟨rfl, hb5⟩
  rw [E4.out]
  go_wp2_with fail
  go_ret
  exact ⟨rfl, HB.out.trans (hb5.mono (by have := HB.out.size; simp at this ⊢; omega))⟩

theorem tag_any (fr : Nat × Nat × Nat) (w : World) (key : ByteArray) (v : Value) (xs : List ByteArray) (hp : PartsAre w v xs) (hkl : key.size ≤ 10000000000000) (hx : xs.length ≤ 100000000000) (hlen : (cat xs).size ≤ 10000000000000) (hk : Hid (Keys fr w)) :
    Calls Tryz.prog 38 #[.string key, v] w (TagPost w (Sha.nums key) (Sha.nums (cat xs))) := by
  by_cases h : key.size ≤ 64
  · exact tag_tail fr w key v xs hp h hx hlen hk
  · exact tag_long fr w key v xs hp (by omega) hkl hx hlen hk
end Go.Proofs.YtmddaomchhigbaaGreatDoor

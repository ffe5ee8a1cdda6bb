/- Proved: lemmas and contracts of the functions that the law reaches, part 21 of 36: CauFields, CauCut, CauFieldsT, CauSort, CauArrow, CoLetter, CoType, CoMore, CauLetterT, CauTypeT, CauCheckT, GenIs, GenRI, GenR, OptRef2. Conditions: as each states. -/
import Derived.Test.YtanlmbbalamgkaaGreatDoorVmi14
import Derived.Test.YtanlmbbalamgkaaGreatDoorVmi15
namespace Go.Proofs.YtanlmbbalamgkaaGreatDoor
set_option linter.unusedVariables false
set_option linter.unusedSimpArgs false
section
open Go.RowKit
set_option maxRecDepth 100000
def sortL:List ByteArray:=[⟨#[]⟩,⟨#[62,110]⟩,⟨#[62,98]⟩,⟨#[62,100]⟩,⟨#[62,110]⟩,⟨#[62,100]⟩,⟨#[110,62,110]⟩,⟨#[110,110,62,110]⟩,⟨#[110,110,62,110]⟩,⟨#[110,110,62,110]⟩,⟨#[110,110,62,110]⟩,⟨#[110,110,62,98]⟩,⟨#[110,110,62,98]⟩,⟨#[110,110,62,98]⟩,⟨#[98,62,98]⟩,⟨#[98,98,62,98]⟩,⟨#[98,98,62,98]⟩,⟨#[100,100,62,98]⟩,⟨#[100,110,62,100]⟩,⟨#[100,110,62,100]⟩,⟨#[100,100,62,110]⟩,⟨#[100,100,62,110]⟩,⟨#[98,120,120,62,120]⟩,⟨#[62,99]⟩,⟨#[62,99]⟩,⟨#[99,62,99]⟩,⟨#[110,99,62,99]⟩,⟨#[99,99,62,99]⟩,⟨#[98,99,99,62,99]⟩,⟨#[99,62,99]⟩,⟨#[98,99,62,99]⟩,⟨#[99,99,62,99]⟩]
def scells:Array Value:=(sortL.map Value.string).toArray
theorem zjk:scells.size=32:=by simp[scells,sortL]
theorem zkl:scells.all (·.oneCell')=true:=by simp[scells,sortL,Value.oneCell']
theorem zps (i:Nat)(t:ByteArray)(h:sortL[i]? = some t)(w:World):Calls Tryz.prog 140 #[.int .i64 (i:Int)] w (zaj (.string t) w):=by
 have hi:i<32:=by have:=(List.getElem?_eq_some_iff.1 h).1; simpa [sortL] using this
 have hc:scells[i]? = some (.string t):=by simp[scells,h]
 have g1:decide ((i:Int)<0)=false:=decide_eq_false (by omega)
 have g2:decide (32≤(i:Int))=false:=decide_eq_false (by omega)
 have g3:(0:Int)≤(i:Int)∧(i:Int)<32:=by omega
 have g4:i<32:=by omega
 clear h
 go_enter Tryz.func140,Tryz.ntmps140
 go_wp2_with (first|(refine wpList_build rfl 181 _ rfl (by kernel_rfl) ?_; refine zlc ?_)|fail)
 refine hid' ?_
 generalize hg:Option.getD (Program.built _ _ _) _=cs
 obtain rfl:cs=scells:=by
  rw[←hg]
  kernel_rfl
 clear hg
 go_wp2_with fail
 rw[zem w scells _ _ 32 zjk rfl zkl]
 generalize hs:World.setRow _ _ _=ws
 have hb:=hid' (show Below w.heap.size w ws by rw[←hs]; exact zez w _ _)
 have hcell:ws.cell? ⟨w.heap.size,i,none⟩=some (.string t):=by rw[←hs,zko]; exact hc
 clear hs hc
 go_wp2_with fail
 go_ret
 exact⟨rfl,hb.out⟩
theorem qdm (x c:UInt8)(w:World):Calls Tryz.prog 161 #[.string ⟨#[c,x]⟩,.string ⟨#[c]⟩] w (zaj (.tuple #[.string ⟨#[]⟩,.string ⟨#[x]⟩,.bool true]) w):=by
 have HI:=hid' (fun w=>Tryz.stringslite_Index_one ⟨#[c,x]⟩ c w)
 have e:Lib.indexByte (⟨#[c,x]⟩:ByteArray).data.toList c=0:=by simp[Lib.indexByte]
 rw[e] at HI
 clear e
 go_enter Tryz.func161,Tryz.ntmps161
 go_wp2_with fail
 refine(HI.out _).mono ?_
 rintro e w' ⟨rfl,rfl⟩
 go_wp2_with fail
 go_region
 all_goals go_wp2_with fail
 all_goals refine bodyPost_ret (results_tmp3 rfl _ _ _) rfl ?_
 all_goals refine⟨?_,by first|exact Below.refl _ _|exact(Below.refl _ _).drew⟩
 all_goals
  have hx:(⟨#[c,x]⟩:ByteArray).extract 1 2=⟨#[x]⟩:=zmo (by simp)
  change Ending.returned (.tuple #[.string ByteArray.empty,.string ((⟨#[c,x]⟩:ByteArray).extract 1 2),.bool true])=_
  rw[hx]
  rfl
theorem zwd (x c:UInt8)(w:World):Calls Tryz.prog 139 #[.string ⟨#[c,x]⟩,.string ⟨#[c]⟩] w (zaj (.tuple #[.string ⟨#[]⟩,.string ⟨#[x]⟩,.bool true]) w):=by
 have HI:=hid' (qdm x c w)
 go_enter Tryz.func139,Tryz.ntmps139
 go_wp2_with fail
 refine HI.out.mono ?_
 rintro e w' ⟨rfl,hb⟩
 go_wp2_with fail
 refine bodyPost_ret (results_tmp3 rfl _ _ _) rfl ?_
 exact⟨rfl,hb⟩
theorem zeg (n low high:Int)(w:World):Calls Tryz.prog 163 #[.int .i64 n,.int .i64 low,.int .i64 high] w (Ret (.bool (Gen.within n low high)) w):=by
 by_cases h1:low≤n
 ·have g1:decide (low≤n)=true:=decide_eq_true h1
  have e:=hid' (show Gen.within n low high=decide (n≤high) by unfold Gen.within; rw[g1,Bool.true_and])
  clear h1
  go_enter Tryz.func163,Tryz.ntmps163
  go_wp2_with fail
  go_ret
  refine⟨?_,rfl⟩
  rw[e.out]
  rfl
 ·have g1:decide (low≤n)=false:=decide_eq_false h1
  have e:=hid' (show Gen.within n low high=false by unfold Gen.within; rw[g1,Bool.false_and])
  clear h1
  go_enter Tryz.func163,Tryz.ntmps163
  go_wp2_with fail
  go_ret
  refine⟨?_,rfl⟩
  rw[e.out]
  rfl
theorem zpn (s:ByteArray)(w:World)(hs:s.size≤9223372036854775807):Calls Tryz.prog 141 #[zbv 4 0 s] w (zaj (.bool (Led.isName s)) w):=by
 unfold zbv
 have hb:=heap_alloc_new w (.cells #[.int .i64 4,.int .i64 0,.string s,.slice none 0 0] 24)
 have HB:=hid' hb
 clear hb
 obtain⟨bn,hbn⟩:∃ bn,Hid (Led.isName s=bn):=⟨_,hid' rfl⟩
 rw[hbn.out]
 have HN:=hid' (fun w=>zkw s w hs)
 rw[hbn.out] at HN
 go_enter Tryz.func141,Tryz.ntmps141
 go_wp2_with fail
 refine(HN.out _).mono ?_
 rintro e w1 ⟨rfl,b1⟩
 have c1:w1.cell? ⟨w.heap.size,1,none⟩=some (.int .i64 0):=(b1.cell (p:=⟨w.heap.size,1,none⟩) (by simp)).trans (zab HB.out).2.1
 have hB:=hid' (Below.more ((Below.refl w.heap.size w).alloc (Nat.le_refl _) _) b1)
 clear b1
 cases bn with
 |true=>
  go_wp2_with fail
  refine(zeg _ _ _ _).mono ?_
  rintro e w2 ⟨rfl,rfl⟩
  go_wp2_with fail
  go_ret
  exact⟨rfl,hB.out⟩
 |false=>
  go_wp2_with fail
  go_ret
  exact⟨rfl,hB.out⟩
theorem zqg (s:ByteArray)(w:World)(hs:s.size≤9223372036854775807):Calls Tryz.prog 141 #[zbv 24 0 s] w (zaj (.bool (Led.isCur s)) w):=by
 unfold zbv
 have hb:=heap_alloc_new w (.cells #[.int .i64 24,.int .i64 0,.string s,.slice none 0 0] 24)
 have HB:=hid' hb
 clear hb
 obtain⟨bn,hbn⟩:∃ bn,Hid (Led.isCur s=bn):=⟨_,hid' rfl⟩
 rw[hbn.out]
 have HN:=hid' (fun w=>zrb s w hs)
 rw[hbn.out] at HN
 go_enter Tryz.func141,Tryz.ntmps141
 go_wp2_with fail
 refine(HN.out _).mono ?_
 rintro e w1 ⟨rfl,b1⟩
 have c1:w1.cell? ⟨w.heap.size,1,none⟩=some (.int .i64 0):=(b1.cell (p:=⟨w.heap.size,1,none⟩) (by simp)).trans (zab HB.out).2.1
 have hB:=hid' (Below.more ((Below.refl w.heap.size w).alloc (Nat.le_refl _) _) b1)
 clear b1
 cases bn with
 |true=>
  go_wp2_with fail
  go_ret
  exact⟨rfl,hB.out⟩
 |false=>
  go_wp2_with fail
  go_ret
  exact⟨rfl,hB.out⟩
def ltr (ok:Bool)(x:Int):Int:=bif ok then x else 0
def tyOf (ok:Bool)(x:Int):Int:=bif ok then x else 0
theorem zut (s:ByteArray)(w:World)(hs:s.size≤9223372036854775807):Calls Tryz.prog 97 #[zbv 4 0 s] w (zaj (.int .u8 (ltr (Led.isName s) 110)) w):=by
 unfold zbv
 have hb:=heap_alloc_new w (.cells #[.int .i64 4,.int .i64 0,.string s,.slice none 0 0] 24)
 have HB:=hid' hb
 clear hb
 have HS:=hid' (fun w=>zps 4 ⟨#[62,110]⟩ rfl w)
 have HC:=hid' (fun w=>zwd 110 62 w)
 have HF:=hid' (fun w=>zpn s w hs)
 obtain⟨bn,hbn⟩:∃ bn,Hid (Led.isName s=bn):=⟨_,hid' rfl⟩
 rw[hbn.out] at HF
 rw[hbn.out]
 go_enter Tryz.func97,Tryz.ntmps97
 go_wp2_with fail
 refine(HS.out _).mono ?_
 rintro e w1 ⟨rfl,b1⟩
 go_wp2_with fail
 refine(HC.out _).mono ?_
 rintro e w2 ⟨rfl,b2⟩
 have h2:=((Below.more b1 b2).block w.heap.size (by simp)).trans HB.out
 obtain⟨c0,c1,c2,c3⟩:=zab h2
 have hB:=hid' (Below.more ((Below.refl w.heap.size w).alloc (Nat.le_refl _) _) (Below.more b1 b2))
 have H2:=hid' h2
 clear b1 b2 h2
 go_wp2_with fail
 refine(HF.out _).mono ?_
 rintro e w3 ⟨rfl,b3⟩
 obtain⟨d0,d1,d2,d3⟩:=zab ((b3.block w.heap.size (zac H2.out)).trans H2.out)
 have hB3:=hid' (Below.more hB.out b3)
 clear b3 c0 c1 c2 c3
 cases bn with
 |false=>
  go_wp2_with fail
  go_ret
  exact⟨rfl,hB3.out⟩
 |true=>
  go_wp2_with fail
  go_loopw [36] (fun iv wr=>iv=.int .i64 0∧wr=w3) (fun _ _=>0)
  case atStart=>exact⟨rfl,rfl⟩
  case round=>
   obtain⟨rfl,rfl⟩:=hrel
   go_wp2_with fail
   go_ret
   exact⟨rfl,hB3.out⟩
theorem zwx (s:ByteArray)(w:World)(hs:s.size≤9223372036854775807):Calls Tryz.prog 97 #[zbv 24 0 s] w (zaj (.int .u8 (ltr (Led.isCur s) 99)) w):=by
 unfold zbv
 have hb:=heap_alloc_new w (.cells #[.int .i64 24,.int .i64 0,.string s,.slice none 0 0] 24)
 have HB:=hid' hb
 clear hb
 have HS:=hid' (fun w=>zps 24 ⟨#[62,99]⟩ rfl w)
 have HC:=hid' (fun w=>zwd 99 62 w)
 have HF:=hid' (fun w=>zqg s w hs)
 obtain⟨bn,hbn⟩:∃ bn,Hid (Led.isCur s=bn):=⟨_,hid' rfl⟩
 rw[hbn.out] at HF
 rw[hbn.out]
 go_enter Tryz.func97,Tryz.ntmps97
 go_wp2_with fail
 refine(HS.out _).mono ?_
 rintro e w1 ⟨rfl,b1⟩
 go_wp2_with fail
 refine(HC.out _).mono ?_
 rintro e w2 ⟨rfl,b2⟩
 have h2:=((Below.more b1 b2).block w.heap.size (by simp)).trans HB.out
 obtain⟨c0,c1,c2,c3⟩:=zab h2
 have hB:=hid' (Below.more ((Below.refl w.heap.size w).alloc (Nat.le_refl _) _) (Below.more b1 b2))
 have H2:=hid' h2
 clear b1 b2 h2
 go_wp2_with fail
 refine(HF.out _).mono ?_
 rintro e w3 ⟨rfl,b3⟩
 obtain⟨d0,d1,d2,d3⟩:=zab ((b3.block w.heap.size (zac H2.out)).trans H2.out)
 have hB3:=hid' (Below.more hB.out b3)
 clear b3 c0 c1 c2 c3
 cases bn with
 |false=>
  go_wp2_with fail
  go_ret
  exact⟨rfl,hB3.out⟩
 |true=>
  go_wp2_with fail
  go_loopw [36] (fun iv wr=>iv=.int .i64 0∧wr=w3) (fun _ _=>0)
  case atStart=>exact⟨rfl,rfl⟩
  case round=>
   obtain⟨rfl,rfl⟩:=hrel
   go_wp2_with fail
   go_ret
   exact⟨rfl,hB3.out⟩
theorem zqq (s:ByteArray)(w:World)(hs:s.size≤9223372036854775807):Calls Tryz.prog 47 #[zbv 4 0 s] w (zaj (.tuple #[.int .i64 (tyOf (Led.isName s) 0),.bool (Led.isName s)]) w):=by
 unfold zbv
 have hb:=heap_alloc_new w (.cells #[.int .i64 4,.int .i64 0,.string s,.slice none 0 0] 24)
 have HB:=hid' hb
 clear hb
 have HL:=hid' (fun w=>zut s w hs)
 have HI:=hid' (fun w=>Tryz.strings_IndexByte ⟨#[110,98,100,63,99]⟩ 110 w)
 obtain⟨bn,hbn⟩:∃ bn,Hid (Led.isName s=bn):=⟨_,hid' rfl⟩
 rw[hbn.out] at HL
 rw[hbn.out]
 go_enter Tryz.func47,Tryz.ntmps47
 go_wp2_with fail
 refine(zll 4 0 s _).mono ?_
 rintro e w1 ⟨rfl,b1⟩
 obtain⟨c0,c1,c2,c3⟩:=zab ((b1.block w.heap.size (by simp)).trans HB.out)
 have hB:=hid' (Below.more ((Below.refl w.heap.size w).alloc (Nat.le_refl _) _) b1)
 clear b1
 go_wp2_with fail
 refine(HL.out _).mono ?_
 rintro e w2 ⟨rfl,b2⟩
 have hB2:=hid' (Below.more hB.out b2)
 clear b2
 cases bn with
 |false=>
  go_wp2_with fail
  refine bodyPost_ret (results_tmp2 rfl _ _ _) rfl ?_
  exact⟨rfl,hB2.out⟩
 |true=>
  go_wp2_with fail
  refine(HI.out _).mono ?_
  rintro e w3 ⟨rfl,rfl⟩
  go_wp2_with fail
  refine bodyPost_ret (results_tmp2 rfl _ _ _) rfl ?_
  exact⟨rfl,hB2.out⟩
theorem qbn (s:ByteArray)(w:World)(hs:s.size≤9223372036854775807):Calls Tryz.prog 47 #[zbv 24 0 s] w (zaj (.tuple #[.int .i64 (tyOf (Led.isCur s) 4),.bool (Led.isCur s)]) w):=by
 unfold zbv
 have hb:=heap_alloc_new w (.cells #[.int .i64 24,.int .i64 0,.string s,.slice none 0 0] 24)
 have HB:=hid' hb
 clear hb
 have HL:=hid' (fun w=>zwx s w hs)
 have HI:=hid' (fun w=>Tryz.strings_IndexByte ⟨#[110,98,100,63,99]⟩ 99 w)
 obtain⟨bn,hbn⟩:∃ bn,Hid (Led.isCur s=bn):=⟨_,hid' rfl⟩
 rw[hbn.out] at HL
 rw[hbn.out]
 go_enter Tryz.func47,Tryz.ntmps47
 go_wp2_with fail
 refine(zll 24 0 s _).mono ?_
 rintro e w1 ⟨rfl,b1⟩
 obtain⟨c0,c1,c2,c3⟩:=zab ((b1.block w.heap.size (by simp)).trans HB.out)
 have hB:=hid' (Below.more ((Below.refl w.heap.size w).alloc (Nat.le_refl _) _) b1)
 clear b1
 go_wp2_with fail
 refine(HL.out _).mono ?_
 rintro e w2 ⟨rfl,b2⟩
 have hB2:=hid' (Below.more hB.out b2)
 clear b2
 cases bn with
 |false=>
  go_wp2_with fail
  refine bodyPost_ret (results_tmp2 rfl _ _ _) rfl ?_
  exact⟨rfl,hB2.out⟩
 |true=>
  go_wp2_with fail
  refine(HI.out _).mono ?_
  rintro e w3 ⟨rfl,rfl⟩
  go_wp2_with fail
  refine bodyPost_ret (results_tmp2 rfl _ _ _) rfl ?_
  exact⟨rfl,hB2.out⟩
end
section
open Go.RowKit
set_option maxRecDepth 100000
theorem zxk (t:ByteArray)(c:UInt8)(i:Nat)(w:World)(hi:Lib.indexByte t.data.toList c=(i:Int))(hl:i+1≤t.size)(hm:t.size≤1000000):Calls Tryz.prog 161 #[.string t,.string ⟨#[c]⟩] w
  (zaj (.tuple #[.string (t.extract 0 i),.string (t.extract (i+1) t.size),.bool true]) w):=by
 have HI:=hid' (fun w=>Tryz.stringslite_Index_one t c w)
 rw[hi] at HI
 clear hi
 have g1:decide ((0:Int)≤(i:Int))=true:=decide_eq_true (by omega)
 have hw:IntKind.i64.wrap ((i:Int)+1)=(i:Int)+1:=IntWalk.i64_in _ (by omega)
 go_enter Tryz.func161,Tryz.ntmps161
 go_wp2_with fail
 refine(HI.out _).mono ?_
 rintro e w' ⟨rfl,rfl⟩
 go_wp2_with fail
 go_region
 all_goals go_wp2_with fail
 all_goals refine bodyPost_ret (results_tmp3 rfl _ _ _) rfl ?_
 all_goals exact⟨rfl,by first|exact Below.refl _ _|exact(Below.refl _ _).drew⟩
theorem ztv (t:ByteArray)(c:UInt8)(w:World)(hi:Lib.indexByte t.data.toList c = -1):Calls Tryz.prog 161 #[.string t,.string ⟨#[c]⟩] w
  (zaj (.tuple #[.string t,.string ⟨#[]⟩,.bool false]) w):=by
 have HI:=hid' (fun w=>Tryz.stringslite_Index_one t c w)
 rw[hi] at HI
 clear hi
 go_enter Tryz.func161,Tryz.ntmps161
 go_wp2_with fail
 refine(HI.out _).mono ?_
 rintro e w' ⟨rfl,rfl⟩
 go_wp2_with fail
 refine bodyPost_ret (results_tmp3 rfl _ _ _) rfl ?_
 exact⟨rfl,Below.refl _ _⟩
theorem qaj (t:ByteArray)(c:UInt8)(i:Nat)(w:World)(hi:Lib.indexByte t.data.toList c=(i:Int))(hl:i+1≤t.size)(hm:t.size≤1000000):Calls Tryz.prog 139 #[.string t,.string ⟨#[c]⟩] w
  (zaj (.tuple #[.string (t.extract 0 i),.string (t.extract (i+1) t.size),.bool true]) w):=by
 have HI:=hid' (zxk t c i w hi hl hm)
 clear hi hl hm
 go_enter Tryz.func139,Tryz.ntmps139
 go_wp2_with fail
 refine HI.out.mono ?_
 rintro e w' ⟨rfl,hb⟩
 go_wp2_with fail
 refine bodyPost_ret (results_tmp3 rfl _ _ _) rfl ?_
 exact⟨rfl,hb⟩
theorem zvh (t:ByteArray)(c:UInt8)(w:World)(hi:Lib.indexByte t.data.toList c = -1):Calls Tryz.prog 139 #[.string t,.string ⟨#[c]⟩] w
  (zaj (.tuple #[.string t,.string ⟨#[]⟩,.bool false]) w):=by
 have HI:=hid' (ztv t c w hi)
 clear hi
 go_enter Tryz.func139,Tryz.ntmps139
 go_wp2_with fail
 refine HI.out.mono ?_
 rintro e w' ⟨rfl,hb⟩
 go_wp2_with fail
 refine bodyPost_ret (results_tmp3 rfl _ _ _) rfl ?_
 exact⟨rfl,hb⟩
end
section
open Go.RowKit
set_option maxRecDepth 100000
namespace Co
def fields (op n:Int)(s:ByteArray):Bool:=
 bif op == 4 then Led.isName s && Gen.within n (-3660) 3660
 else bif op == 31 then Led.isName s && Gen.within n 0 73048
 else bif op == 24 then Led.isCur s && (n == 0)
 else bif op == 1 then s.toList.isEmpty && Gen.within n (-1000000000000000) 1000000000000000
 else bif op == 2 then s.toList.isEmpty && Gen.within n 0 1
 else bif op == 3 || op == 29 || op == 30 then s.toList.isEmpty && Gen.within n 0 73048
 else bif op == 5 then s.toList.isEmpty && Gen.within n (-3660) 3660
 else s.toList.isEmpty && (n == 0)
end Co
theorem zrv (op n:Int)(s:ByteArray)(p:Option Addr)(len c:Nat)(w:World)(h:op≠4∧op≠31∧op≠24):
  Calls Tryz.prog 141 #[.agg #[.int .i64 op,.int .i64 n,.string s,.slice p len c]] w (zaj (.bool (Co.fields op n s)) w):=by
 have hb:=heap_alloc_new w (.cells #[.int .i64 op,.int .i64 n,.string s,.slice p len c] 24)
 obtain⟨x0,x1,x2,x3⟩:=zab hb
 have hB:=hid' ((Below.refl w.heap.size w).alloc (Nat.le_refl _) (.cells #[.int .i64 op,.int .i64 n,.string s,.slice p len c] 24))
 clear hb
 have e4:(op == 4)=false:=by simp[h.1]
 have e31:(op == 31)=false:=by simp[h.2.1]
 have e24:(op == 24)=false:=by simp[h.2.2]
 obtain⟨F,hF⟩:∃ F,Hid (Co.fields op n s=F):=⟨_,hid' rfl⟩
 rw[hF.out]
 have H:=hid' h
 clear h
 go_enter Tryz.func141,Tryz.ntmps141
 go_wp2_with (refine(zeg _ _ _ _).mono ?_; rintro e w' ⟨rfl,rfl⟩)
 all_goals go_ret
 all_goals refine⟨?_,hB.out⟩
 all_goals
  obtain⟨H4,H31,H24⟩:=H.out
  rw[←hF.out]
  simp only[Co.fields,e4,e31,e24, *,cond_true,cond_false,Bool.true_and,Bool.false_and,Bool.or_false,Bool.or_true,Bool.true_or,Bool.false_or,List.isEmpty_iff,List.isEmpty_nil]
  try first|rfl|simp[*]
theorem zzw (n:Int)(s:ByteArray)(p:Option Addr)(len c:Nat)(w:World)(hs:s.size≤9223372036854775807):
  Calls Tryz.prog 141 #[.agg #[.int .i64 4,.int .i64 n,.string s,.slice p len c]] w (zaj (.bool (Co.fields 4 n s)) w):=by
 have hb:=heap_alloc_new w (.cells #[.int .i64 4,.int .i64 n,.string s,.slice p len c] 24)
 have HB:=hid' hb
 clear hb
 obtain⟨bn,hbn⟩:∃ bn,Hid (Led.isName s=bn):=⟨_,hid' rfl⟩
 have hF:=hid' (show Co.fields 4 n s=(bn && Gen.within n (-3660) 3660) by rw[←hbn.out]; rfl)
 rw[hF.out]
 have HN:=hid' (fun w=>zkw s w hs)
 rw[hbn.out] at HN
 go_enter Tryz.func141,Tryz.ntmps141
 go_wp2_with fail
 refine(HN.out _).mono ?_
 rintro e w1 ⟨rfl,b1⟩
 have c1:w1.cell? ⟨w.heap.size,1,none⟩=some (.int .i64 n):=(b1.cell (p:=⟨w.heap.size,1,none⟩) (by simp)).trans (zab HB.out).2.1
 have hB:=hid' (Below.more ((Below.refl w.heap.size w).alloc (Nat.le_refl _) _) b1)
 clear b1
 cases bn with
 |true=>
  go_wp2_with (refine(zeg _ _ _ _).mono ?_; rintro e w2 ⟨rfl,rfl⟩)
  all_goals go_ret
  all_goals refine⟨?_,hB.out⟩
  all_goals simp[*]
 |false=>
  go_wp2_with fail
  go_ret
  exact⟨rfl,hB.out⟩
theorem zxi (n:Int)(s:ByteArray)(p:Option Addr)(len c:Nat)(w:World)(hs:s.size≤9223372036854775807):
  Calls Tryz.prog 141 #[.agg #[.int .i64 31,.int .i64 n,.string s,.slice p len c]] w (zaj (.bool (Co.fields 31 n s)) w):=by
 have hb:=heap_alloc_new w (.cells #[.int .i64 31,.int .i64 n,.string s,.slice p len c] 24)
 have HB:=hid' hb
 clear hb
 obtain⟨bn,hbn⟩:∃ bn,Hid (Led.isName s=bn):=⟨_,hid' rfl⟩
 have hF:=hid' (show Co.fields 31 n s=(bn && Gen.within n 0 73048) by rw[←hbn.out]; rfl)
 rw[hF.out]
 have HN:=hid' (fun w=>zkw s w hs)
 rw[hbn.out] at HN
 go_enter Tryz.func141,Tryz.ntmps141
 go_wp2_with fail
 refine(HN.out _).mono ?_
 rintro e w1 ⟨rfl,b1⟩
 have c1:w1.cell? ⟨w.heap.size,1,none⟩=some (.int .i64 n):=(b1.cell (p:=⟨w.heap.size,1,none⟩) (by simp)).trans (zab HB.out).2.1
 have hB:=hid' (Below.more ((Below.refl w.heap.size w).alloc (Nat.le_refl _) _) b1)
 clear b1
 cases bn with
 |true=>
  go_wp2_with (refine(zeg _ _ _ _).mono ?_; rintro e w2 ⟨rfl,rfl⟩)
  all_goals go_ret
  all_goals refine⟨?_,hB.out⟩
  all_goals simp[*]
 |false=>
  go_wp2_with fail
  go_ret
  exact⟨rfl,hB.out⟩
theorem zxj (n:Int)(s:ByteArray)(p:Option Addr)(len c:Nat)(w:World)(hs:s.size≤9223372036854775807):
  Calls Tryz.prog 141 #[.agg #[.int .i64 24,.int .i64 n,.string s,.slice p len c]] w (zaj (.bool (Co.fields 24 n s)) w):=by
 have hb:=heap_alloc_new w (.cells #[.int .i64 24,.int .i64 n,.string s,.slice p len c] 24)
 have HB:=hid' hb
 clear hb
 obtain⟨bn,hbn⟩:∃ bn,Hid (Led.isCur s=bn):=⟨_,hid' rfl⟩
 have hF:=hid' (show Co.fields 24 n s=(bn && (n == 0)) by rw[←hbn.out]; rfl)
 rw[hF.out]
 have HN:=hid' (fun w=>zrb s w hs)
 rw[hbn.out] at HN
 go_enter Tryz.func141,Tryz.ntmps141
 go_wp2_with fail
 refine(HN.out _).mono ?_
 rintro e w1 ⟨rfl,b1⟩
 have c1:w1.cell? ⟨w.heap.size,1,none⟩=some (.int .i64 n):=(b1.cell (p:=⟨w.heap.size,1,none⟩) (by simp)).trans (zab HB.out).2.1
 have hB:=hid' (Below.more ((Below.refl w.heap.size w).alloc (Nat.le_refl _) _) b1)
 clear b1
 cases bn with
 |true=>
  go_wp2_with (refine(zeg _ _ _ _).mono ?_; rintro e w2 ⟨rfl,rfl⟩)
  all_goals go_ret
  all_goals refine⟨?_,hB.out⟩
  all_goals simp[*]
 |false=>
  go_wp2_with fail
  go_ret
  exact⟨rfl,hB.out⟩
theorem zvd (op n:Int)(s:ByteArray)(p:Option Addr)(len c:Nat)(w:World)(hs:s.size≤9223372036854775807):
  Calls Tryz.prog 141 #[.agg #[.int .i64 op,.int .i64 n,.string s,.slice p len c]] w (zaj (.bool (Co.fields op n s)) w):=by
 by_cases h4:op=4
 ·subst h4; exact zzw n s p len c w hs
 by_cases h31:op=31
 ·subst h31; exact zxi n s p len c w hs
 by_cases h24:op=24
 ·subst h24; exact zxj n s p len c w hs
 exact zrv op n s p len c w ⟨h4,h31,h24⟩
end
section
open Go.RowKit
set_option maxRecDepth 100000
def Co.sort (op:Int):ByteArray:=if 0≤op∧op<32 then(sortL[op.toNat]?).getD ⟨#[]⟩ else ⟨#[]⟩
theorem qbx (op:Int)(h:op<0∨32≤op)(w:World):Calls Tryz.prog 140 #[.int .i64 op] w (zaj (.string ⟨#[]⟩) w):=by
 rcases h with h|h
 ·have g1:decide (op<0)=true:=decide_eq_true h
  clear h
  go_enter Tryz.func140,Tryz.ntmps140
  go_wp2_with (first|(refine wpList_build rfl 181 _ rfl (by kernel_rfl) ?_; refine zlc ?_)|fail)
  refine hid' ?_
  generalize hg:Option.getD (Program.built _ _ _) _=cs
  obtain rfl:cs=scells:=by
   rw[←hg]
   kernel_rfl
  clear hg
  go_wp2_with fail
  rw[zem w scells _ _ 32 zjk rfl zkl]
  generalize hs:World.setRow _ _ _=ws
  have hb:=hid' (show Below w.heap.size w ws by rw[←hs]; exact zez w _ _)
  clear hs
  go_wp2_with fail
  go_ret
  exact⟨rfl,hb.out⟩
 ·have g1:decide (op<0)=false:=decide_eq_false (by omega)
  have g2:decide (32≤op)=true:=decide_eq_true h
  clear h
  go_enter Tryz.func140,Tryz.ntmps140
  go_wp2_with (first|(refine wpList_build rfl 181 _ rfl (by kernel_rfl) ?_; refine zlc ?_)|fail)
  refine hid' ?_
  generalize hg:Option.getD (Program.built _ _ _) _=cs
  obtain rfl:cs=scells:=by
   rw[←hg]
   kernel_rfl
  clear hg
  go_wp2_with fail
  rw[zem w scells _ _ 32 zjk rfl zkl]
  generalize hs:World.setRow _ _ _=ws
  have hb:=hid' (show Below w.heap.size w ws by rw[←hs]; exact zez w _ _)
  clear hs
  go_wp2_with fail
  go_ret
  exact⟨rfl,hb.out⟩
theorem qby (op:Int)(w:World):Calls Tryz.prog 140 #[.int .i64 op] w (zaj (.string (Co.sort op)) w):=by
 by_cases h:0≤op∧op<32
 ·obtain⟨i,rfl⟩:∃ i:Nat,op=(i:Int):=⟨op.toNat,by omega⟩
  have hi:i<sortL.length:=by show i<32; omega
  have e:Co.sort (i:Int)=sortL[i]:=by
   unfold Co.sort
   rw[if_pos h,Int.toNat_natCast,List.getElem?_eq_getElem hi]
   rfl
  rw[e]
  exact zps i _ (List.getElem?_eq_getElem hi) w
 ·have e:Co.sort op=⟨#[]⟩:=by unfold Co.sort; rw[if_neg h]
  rw[e]
  exact qbx op (by omega) w
end
section
open Go.RowKit
namespace Co
def zlf (t:ByteArray):Option (List UInt8 × UInt8):=
 match t.data.toList.takeWhile (fun x=>x != 62),t.data.toList.dropWhile (fun x=>x != 62) with
 |l,[_,r]=>some (l,r)
 |_,_=>none
def zqj (t:ByteArray):Bool:=
 match zlf t with
 |none=>t.data.toList.isEmpty
 |some (l,r)=>(t.data.toList == l++[62,r]) && (decide (l.length≤3) && !l.contains 62)
theorem qbw:sortL.all zqj=true:=by kernel_rfl
theorem qeo (op:Int):zqj (sort op)=true:=by
 unfold sort
 split
 ·cases h:sortL[op.toNat]? with
  |none=>rfl
  |some t=>exact List.all_eq_true.1 qbw t (List.mem_of_getElem? h)
 ·rfl
theorem sort_form (op:Int):(sort op=⟨#[]⟩∧zlf (sort op)=none)∨∃ l r,sort op=⟨(l++[62,r]).toArray⟩∧l.length≤3∧(62:UInt8)∉l∧zlf (sort op)=some (l,r):=by
 have h:=qeo op
 unfold zqj at h
 cases ha:zlf (sort op) with
 |none=>
  rw[ha] at h
  refine .inl ⟨?_,rfl⟩
  have h2:(sort op).data.toList=[]:=List.isEmpty_iff.1 h
  have h3:(sort op).data=#[]:=by rw[←Array.toArray_toList (xs:=(sort op).data),h2]
  cases hs:sort op with
  |mk d=>rw[hs] at h3; cases h3; rfl
 |some lr=>
  obtain⟨l,r⟩:=lr
  rw[ha] at h
  simp only[Bool.and_eq_true,beq_iff_eq,decide_eq_true_eq,Bool.not_eq_true'] at h
  obtain⟨h1,h2,h3⟩:=h
  refine .inr ⟨l,r,?_,h2,?_,rfl⟩
  ·have h4:(sort op).data=(l++[62,r]).toArray:=by rw[←Array.toArray_toList (xs:=(sort op).data),h1]
   cases hs:sort op with
   |mk d=>rw[hs] at h4; cases h4; rfl
  ·intro hm
   rw[List.contains_iff_mem.2 hm] at h3
   cases h3
end Co
end
section
open Go.RowKit
namespace Co
def kidLetter (k x y:UInt8):Option UInt8:=
 if y=0 then none
 else if k=120∧y≠99∧(x=0∨x=y) then some y
 else if k=y then some x else none
def ownLetter (r x:UInt8):UInt8:=if r=120 then x else r
mutual
def T.letter:T→UInt8
 | .mk op n s ks=>
  match zlf (sort op) with
  |none=>0
  |some (l,r)=>if l.length=ks.length∧fields op n s=true then(match kidsLetter ks l 0 with|none=>0|some x=>ownLetter r x) else 0
def kidsLetter:List T→List UInt8→UInt8→Option UInt8
 | [],_,x=>some x
 |_::_,[],x=>some x
 |t::ks,k::l,x=>match kidLetter k x t.letter with|none=>none|some x'=>kidsLetter ks l x'
end
theorem kidsLetter_step {ks:List T}{l:List UInt8}{i:Nat}{t:T}{k:UInt8}(x:UInt8)(h1:ks[i]? = some t)(h2:l[i]? = some k):
  kidsLetter (ks.drop i) (l.drop i) x=(match kidLetter k x t.letter with|none=>none|some x'=>kidsLetter (ks.drop (i+1)) (l.drop (i+1)) x'):=by
 obtain⟨a1,e1⟩:=List.getElem?_eq_some_iff.1 h1
 obtain⟨a2,e2⟩:=List.getElem?_eq_some_iff.1 h2
 rw[List.drop_eq_getElem_cons a1,List.drop_eq_getElem_cons a2,e1,e2,kidsLetter]
end Co
end
section
open Go.RowKit
namespace Co
def want (op:Int):Option (List UInt8 × UInt8):=zlf (sort op)
theorem want_1:want 1=some ([],110):=by kernel_rfl
theorem want_2:want 2=some ([],98):=by kernel_rfl
theorem want_3:want 3=some ([],100):=by kernel_rfl
theorem want_4:want 4=some ([],110):=by kernel_rfl
theorem want_5:want 5=some ([],100):=by kernel_rfl
theorem want_6:want 6=some ([110],110):=by kernel_rfl
theorem want_7:want 7=some ([110,110],110):=by kernel_rfl
theorem want_8:want 8=some ([110,110],110):=by kernel_rfl
theorem want_9:want 9=some ([110,110],110):=by kernel_rfl
theorem want_10:want 10=some ([110,110],110):=by kernel_rfl
theorem want_11:want 11=some ([110,110],98):=by kernel_rfl
theorem want_12:want 12=some ([110,110],98):=by kernel_rfl
theorem want_13:want 13=some ([110,110],98):=by kernel_rfl
theorem want_14:want 14=some ([98],98):=by kernel_rfl
theorem want_15:want 15=some ([98,98],98):=by kernel_rfl
theorem want_16:want 16=some ([98,98],98):=by kernel_rfl
theorem want_17:want 17=some ([100,100],98):=by kernel_rfl
theorem want_18:want 18=some ([100,110],100):=by kernel_rfl
theorem want_19:want 19=some ([100,110],100):=by kernel_rfl
theorem want_20:want 20=some ([100,100],110):=by kernel_rfl
theorem want_21:want 21=some ([100,100],110):=by kernel_rfl
theorem want_22:want 22=some ([98,120,120],120):=by kernel_rfl
theorem want_23:want 23=some ([],99):=by kernel_rfl
theorem want_24:want 24=some ([],99):=by kernel_rfl
theorem want_25:want 25=some ([99],99):=by kernel_rfl
theorem want_26:want 26=some ([110,99],99):=by kernel_rfl
theorem want_27:want 27=some ([99,99],99):=by kernel_rfl
theorem want_28:want 28=some ([98,99,99],99):=by kernel_rfl
theorem want_29:want 29=some ([99],99):=by kernel_rfl
theorem want_30:want 30=some ([98,99],99):=by kernel_rfl
theorem want_31:want 31=some ([99,99],99):=by kernel_rfl
theorem qbf {op:Int}(h:op<1∨31<op):want op=none:=by
 by_cases h0:op=0
 ·subst h0; kernel_rfl
 ·unfold want sort
  rw[if_neg (by omega)]
  kernel_rfl
theorem want_in {op:Int}{lr:List UInt8 × UInt8}(h:want op=some lr):1≤op∧op≤31:=by
 by_cases h0:op<1∨31<op
 ·rw[qbf h0] at h; cases h
 ·omega
theorem op_cases {op:Int}(h:1≤op∧op≤31):op=1∨op=2∨op=3∨op=4∨op=5∨op=6∨op=7∨op=8∨op=9∨op=10∨op=11∨op=12∨op=13∨op=14∨op=15∨op=16∨op=17∨op=18∨op=19∨op=20∨op=21∨op=22∨op=23∨op=24∨op=25∨op=26∨op=27∨op=28∨op=29∨op=30∨op=31:=by omega
theorem zkj {op:Int}{l:List UInt8}{r:UInt8}(h:want op=some (l,r))(h22:op≠22):(∀ k∈l,k≠120∧k≠0)∧r≠120∧r≠0:=by
 rcases op_cases (want_in h) with rfl|rfl|rfl|rfl|rfl|rfl|rfl|rfl|rfl|rfl|rfl|rfl|rfl|rfl|rfl|rfl|rfl|rfl|rfl|rfl|rfl|rfl|rfl|rfl|rfl|rfl|rfl|rfl|rfl|rfl|rfl
 all_goals first|exact absurd rfl h22|skip
 all_goals simp only[want_1,want_2,want_3,want_4,want_5,want_6,want_7,want_8,want_9,want_10,want_11,want_12,want_13,want_14,want_15,want_16,want_17,want_18,want_19,want_20,want_21,want_22,want_23,want_24,want_25,want_26,want_27,want_28,want_29,want_30,want_31] at h
 all_goals
  cases h
  decide
theorem zir (x:UInt8):∀(ks:List T) (l:List UInt8),(∀ k∈l,k≠120∧k≠0)→l.length=ks.length→kidsLetter ks l x=if ks.map T.letter=l then some x else none
 | [],[],_,_=>by rw[kidsLetter]; rfl
 | [],_::_,_,h=>by cases h
 |_::_,[],_,h=>by cases h
 |t::ks,k::l,hl,he=>by
  obtain⟨h1,h2⟩:=hl k (List.mem_cons_self ..)
  have ih:=zir x ks l (fun k h=>hl k (List.mem_cons_of_mem _ h)) (by simpa using he)
  rw[kidsLetter]
  by_cases e:k=t.letter
  ·have e2:kidLetter k x t.letter=some x:=by
    unfold kidLetter
    rw[if_neg (by rw[←e]; exact h2),if_neg (fun h=>h1 h.1),if_pos e]
   rw[e2]
   simp only[ih,List.map_cons,List.cons.injEq,←e,true_and]
  ·have e2:kidLetter k x t.letter=none:=by
    unfold kidLetter
    by_cases h0:t.letter=0
    ·rw[if_pos h0]
    ·rw[if_neg h0,if_neg (fun h=>h1 h.1),if_neg e]
   rw[e2,if_neg (fun h=>e (by simpa using (List.cons.inj h).1.symm))]
theorem zmf {op n:Int}{s:ByteArray}{ks:List T}(h:op≠22):(T.mk op n s ks).letter=match want op with|none=>(0:UInt8)|some (l,r)=>if ks.map T.letter=l∧fields op n s=true then r else 0:=by
 rw[T.letter]
 show(match want op with|none=>(0:UInt8)|some (l,r)=>if l.length=ks.length∧fields op n s=true then(match kidsLetter ks l 0 with|none=>(0:UInt8)|some x=>ownLetter r x) else 0)=_
 cases hw:want op with
 |none=>rfl
 |some lr=>
  obtain⟨l,r⟩:=lr
  obtain⟨h1,h2,h3⟩:=zkj hw h
  show(if l.length=ks.length∧fields op n s=true then(match kidsLetter ks l 0 with|none=>(0:UInt8)|some x=>ownLetter r x) else 0)=if ks.map T.letter=l∧fields op n s=true then r else 0
  by_cases hl:l.length=ks.length
  ·by_cases hf:fields op n s=true
   ·rw[if_pos ⟨hl,hf⟩,zir 0 ks l h1 hl]
    by_cases hm:ks.map T.letter=l
    ·rw[if_pos hm,if_pos ⟨hm,hf⟩]
     show ownLetter r 0=r
     unfold ownLetter
     rw[if_neg h2]
    ·rw[if_neg hm,if_neg (fun h=>hm h.1)]
   ·rw[if_neg (fun h=>hf h.2),if_neg (fun h=>hf h.2)]
  ·rw[if_neg (fun h=>hl h.1),if_neg (fun h=>hl (by rw[←h.1,List.length_map]))]
theorem ztg (x p:UInt8):kidLetter 98 x p=if p=98 then some x else none:=by
 unfold kidLetter
 by_cases h1:p=98
 ·subst h1; simp
 ·by_cases h2:p=0
  ·subst h2; simp
  ·rw[if_neg h2,if_neg (fun e=>absurd e.1 (by decide)),if_neg (fun e=>h1 e.symm),if_neg h1]
theorem ztf (y:UInt8):kidLetter 120 0 y=if y=0∨y=99 then none else some y:=by
 unfold kidLetter
 by_cases h1:y=0
 ·rw[if_pos h1,if_pos (.inl h1)]
 ·by_cases h2:y=99
  ·subst h2; decide
  ·rw[if_neg h1,if_pos ⟨rfl,h2,.inl rfl⟩,if_neg (by simp[h1,h2])]
theorem zux (y z:UInt8)(h0:y≠0)(h99:y≠99)(hz:z≠120):kidLetter 120 y z=if z=y then some y else none:=by
 unfold kidLetter
 by_cases h1:z=y
 ·subst h1
  rw[if_neg h0,if_pos ⟨rfl,h99,.inr rfl⟩,if_pos rfl]
 ·rw[if_neg h1]
  by_cases h2:z=0
  ·rw[if_pos h2]
  ·rw[if_neg h2,if_neg (fun e=>e.2.2.elim h0 (fun e=>h1 e.symm)),if_neg (fun e=>hz e.symm)]
theorem zkv (a b c:T)(hc:c.letter≠120):kidsLetter [a,b,c] [98,120,120] 0=if a.letter=98∧(b.letter≠0∧b.letter≠99)∧c.letter=b.letter then some b.letter else none:=by
 rw[kidsLetter,ztg]
 by_cases ha:a.letter=98
 ·rw[if_pos ha]
  show kidsLetter [b,c] [120,120] 0=_
  rw[kidsLetter,ztf]
  by_cases hb:b.letter=0∨b.letter=99
  ·rw[if_pos hb,if_neg (fun h=>hb.elim h.2.1.1 h.2.1.2)]
  ·rw[if_neg hb]
   simp only[not_or] at hb
   show kidsLetter [c] [120] b.letter=_
   rw[kidsLetter,zux _ _ hb.1 hb.2 hc]
   by_cases h:c.letter=b.letter
   ·rw[if_pos h,if_pos ⟨ha,hb,h⟩]
    show kidsLetter [] [] b.letter=_
    rw[kidsLetter]
   ·rw[if_neg h,if_neg (fun e=>h e.2.2)]
 ·rw[if_neg ha,if_neg (fun h=>ha h.1)]
theorem zme (n:Int)(s:ByteArray)(ks:List T):(T.mk 22 n s ks).letter=if [98,120,120].length=ks.length∧fields 22 n s=true then(match kidsLetter ks [98,120,120] 0 with|none=>(0:UInt8)|some x=>ownLetter 120 x) else 0:=by
 rw[T.letter]
 show(match want 22 with|none=>(0:UInt8)|some (l,r)=>if l.length=ks.length∧fields 22 n s=true then(match kidsLetter ks l 0 with|none=>(0:UInt8)|some x=>ownLetter r x) else 0)=_
 rw[want_22]
 rfl
theorem zqz (t:T):t.letter≠120:=by
 induction t using T.ind with|h op n s ks ih=>?_
 by_cases h22:op=22
 ·subst h22
  rw[zme]
  split
  ·rename_i h
   match ks,h.1 with
   | [a,b,c],_=>
    have hb:=ih b (by simp)
    have hc:=ih c (by simp)
    rw[zkv a b c hc]
    by_cases hh:a.letter=98∧(b.letter≠0∧b.letter≠99)∧c.letter=b.letter
    ·rw[if_pos hh]
     show ownLetter 120 b.letter≠120
     unfold ownLetter
     rw[if_pos rfl]
     exact hb
    ·rw[if_neg hh]
     decide
  ·decide
 ·rw[zmf h22]
  split
  ·decide
  ·rename_i l r hw
   split
   ·exact(zkj hw h22).2.1
   ·decide
theorem letter_22 {n:Int}{s:ByteArray}{ks:List T}{x:UInt8}(hx:x≠0):(T.mk 22 n s ks).letter=x↔∃ a b c,ks=[a,b,c]∧a.letter=98∧b.letter=x∧c.letter=x∧x≠99∧fields 22 n s=true:=by
 rw[zme]
 constructor
 ·intro h
  split at h
  ·rename_i h1
   match ks,h1.1 with
   | [a,b,c],_=>
    rw[zkv a b c (zqz c)] at h
    by_cases hh:a.letter=98∧(b.letter≠0∧b.letter≠99)∧c.letter=b.letter
    ·rw[if_pos hh] at h
     have e4:b.letter=x:=by simpa [ownLetter] using h
     exact⟨a,b,c,rfl,hh.1,e4,hh.2.2.trans e4,by rw[←e4]; exact hh.2.1.2,h1.2⟩
    ·rw[if_neg hh] at h
     exact absurd h.symm hx
  ·exact absurd h.symm hx
 ·rintro⟨a,b,c,rfl,h1,h2,h3,h4,h5⟩
  rw[if_pos ⟨rfl,h5⟩,zkv a b c (zqz c),if_pos ⟨h1,⟨by rw[h2]; exact hx,by rw[h2]; exact h4⟩,by rw[h2,h3]⟩]
  show ownLetter 120 b.letter=x
  unfold ownLetter
  rw[if_pos rfl,h2]
theorem letter_inv {op n:Int}{s:ByteArray}{ks:List T}{x:UInt8}(h:(T.mk op n s ks).letter=x)(hx:x≠0)(h22:op≠22):want op=some (ks.map T.letter,x)∧fields op n s=true:=by
 rw[zmf h22] at h
 split at h
 ·exact absurd h.symm hx
 ·rename_i l r hw
  split at h
  ·rename_i h1
   obtain⟨rfl,h2⟩:=h1
   subst h
   exact⟨hw,h2⟩
  ·exact absurd h.symm hx
theorem zgc {op n:Int}{s:ByteArray}{ks:List T}{x:UInt8}(h22:op≠22)(hw:want op=some (ks.map T.letter,x))(hf:fields op n s=true):(T.mk op n s ks).letter=x:=by
 rw[zmf h22,hw]
 exact if_pos ⟨rfl,hf⟩
end Co
end
section
open Go.RowKit
namespace Co
mutual
def T.depth:T→Nat
 | .mk _ _ _ ks=>1+zcz ks
def zcz:List T→Nat
 | []=>0
 |k::r=>max k.depth (zcz r)
end
mutual
def T.nodes:T→List (Int × Int)
 | .mk o n _ ks=>(o,n)::zcw ks
def zcw:List T→List (Int × Int)
 | []=>[]
 |k::r=>k.nodes++zcw r
end
theorem depths_le {ks:List T}{m:Nat}:zcz ks≤m↔∀ k∈ks,k.depth≤m:=by
 induction ks with
 |nil=>simp[zcz]
 |cons a r ih=>rw[zcz]; simp only[List.mem_cons,forall_eq_or_imp,←ih]; omega
theorem zcy {ks:List T}{k:T}(h:k∈ks):k.depth≤zcz ks:=depths_le.1 (Nat.le_refl _) k h
theorem zfc (t:T):1≤t.depth:=by cases t; rw[T.depth]; omega
theorem mem_nodess {ks:List T}{x:Int × Int}:x∈zcw ks↔∃ k∈ks,x∈k.nodes:=by
 induction ks with
 |nil=>simp[zcw]
 |cons a r ih=>simp only[zcw,List.mem_append,ih,List.mem_cons,exists_eq_or_imp]
theorem qat (t:T):∀ d,(t.all d).map (fun x=>(x.2.op,x.2.n))=t.nodes:=by
 refine T.ind (P:=fun t=>∀ d,(t.all d).map (fun x=>(x.2.op,x.2.n))=t.nodes) (fun o n s ks ih d=>?_) t
 have:∀(l:List T),(∀ k∈l,∀ d,(k.all d).map (fun x=>(x.2.op,x.2.n))=k.nodes)→∀ d,(alls l d).map (fun x=>(x.2.op,x.2.n))=zcw l:=by
  intro l
  induction l with
  |nil=>intro _ d; rfl
  |cons a r ih2=>
   intro h d
   rw[alls,zcw,List.map_append,h a (List.mem_cons_self ..) d,ih2 (fun k hk=>h k (List.mem_cons_of_mem _ hk)) d]
 rw[T.all,T.nodes,List.map_cons,this ks ih]
 rfl
theorem qav (t:T):∀(d m:Int),(∀ x∈t.all d,x.1≤m)↔d+t.depth≤m+1:=by
 refine T.ind (P:=fun t=>∀(d m:Int),(∀ x∈t.all d,x.1≤m)↔d+t.depth≤m+1) (fun o n s ks ih d m=>?_) t
 have:∀(l:List T),(∀ k∈l,∀(d m:Int),(∀ x∈k.all d,x.1≤m)↔d+k.depth≤m+1)→∀(d m:Int),d≤m+1→((∀ x∈alls l d,x.1≤m)↔d+zcz l≤m+1):=by
  intro l
  induction l with
  |nil=>intro _ d m h; simp[alls,zcz]; omega
  |cons a r ih2=>
   intro h d m hd
   have h1:=h a (List.mem_cons_self ..) d m
   have h2:=ih2 (fun k hk=>h k (List.mem_cons_of_mem _ hk)) d m hd
   rw[alls,zcz]
   simp only[List.mem_append]
   constructor
   ·intro hh
    have e1:=h1.1 (fun x hx=>hh x (.inl hx))
    have e2:=h2.1 (fun x hx=>hh x (.inr hx))
    omega
   ·intro hh x hx
    rcases hx with hx|hx
    ·exact h1.2 (by omega) x hx
    ·exact h2.2 (by omega) x hx
 rw[T.all,T.depth]
 simp only[List.mem_cons,forall_eq_or_imp]
 constructor
 ·rintro⟨h1,h2⟩
  have:=(this ks ih (d+1) m (by omega)).1 h2
  omega
 ·intro h
  exact⟨by omega,(this ks ih (d+1) m (by omega)).2 (by omega)⟩
theorem zjd (t:T):small t=true↔t.size≤2000∧t.depth≤200:=by
 have:=qav t 1 200
 unfold small
 rw[Bool.and_eq_true,decide_eq_true_eq,List.all_eq_true]
 simp only[decide_eq_true_eq]
 rw[this]
 omega
def T.ahead (t:T):Bool:=t.nodes.any fun x=>(x.1 == 4 || x.1 == 5) && decide (x.2<0)
def T.good (t:T):Prop:=small t=true∧t.letter=99∧t.ahead=false
theorem kids_ne {op n:Int}{s:ByteArray}{ks:List T}(h:(T.mk op n s ks).letter≠0):∀ k∈ks,k.letter≠0:=by
 intro k hk
 by_cases h22:op=22
 ·subst h22
  obtain⟨a,b,c,rfl,h1,h2,h3, -, -⟩:=(letter_22 h).1 rfl
  simp only[List.mem_cons,List.not_mem_nil,or_false] at hk
  rcases hk with rfl|rfl|rfl
  ·rw[h1]; decide
  ·rw[h2]; exact h
  ·rw[h3]; exact h
 ·obtain⟨hw, -⟩:=letter_inv rfl h h22
  exact((zkj hw h22).1 k.letter (List.mem_map_of_mem hk)).2
theorem zis:∀(ks ks':List T) (l:List UInt8) (x:UInt8),ks.map T.letter=ks'.map T.letter→kidsLetter ks l x=kidsLetter ks' l x
 | [],[],_,_,_=>rfl
 | [],_::_,_,_,h=>by cases h
 |_::_,[],_,_,h=>by cases h
 |a::r,a'::r',[],x,h=>by rw[kidsLetter,kidsLetter]
 |a::r,a'::r',k::l,x,h=>by
  simp only[List.map_cons,List.cons.injEq] at h
  rw[kidsLetter,kidsLetter,h.1]
  split
  ·rfl
  ·exact zis r r' l _ h.2
theorem letter_congr {op n:Int}{s:ByteArray}{ks ks':List T}(h:ks.map T.letter=ks'.map T.letter):(T.mk op n s ks).letter=(T.mk op n s ks').letter:=by
 have hl:ks.length=ks'.length:=by simpa using congrArg List.length h
 rw[T.letter,T.letter]
 cases zlf (sort op) with
 |none=>rfl
 |some lr=>
  obtain⟨l,r⟩:=lr
  show(if l.length=ks.length∧fields op n s=true then(match kidsLetter ks l 0 with|none=>0|some x=>ownLetter r x) else 0)=if l.length=ks'.length∧fields op n s=true then(match kidsLetter ks' l 0 with|none=>0|some x=>ownLetter r x) else 0
  rw[hl,zis ks ks' l 0 h]
theorem fields_range {op n:Int}{s:ByteArray}(h:fields op n s=true) : -1000000000000000≤n∧n≤1000000000000000:=by
 unfold fields at h
 simp only[Gen.within] at h
 by_cases h4:op=4
 ·simp[h4] at h; omega
 by_cases h31:op=31
 ·simp[h31] at h; omega
 by_cases h24:op=24
 ·simp[h24] at h; omega
 by_cases h1:op=1
 ·simp[h1] at h; omega
 by_cases h2:op=2
 ·simp[h2] at h; omega
 by_cases h3:op=3∨op=29∨op=30
 ·rcases h3 with h3|h3|h3<;>simp[h3] at h<;>omega
 by_cases h5:op=5
 ·simp[h5] at h; omega
 ·simp only[not_or] at h3
  simp[h4,h31,h24,h1,h2,h3,h5] at h
  omega
theorem zkt:(⟨#[]⟩:ByteArray).toList.isEmpty=true:=by kernel_rfl
theorem zxg {n:Int}(h : -1000000000000000≤n∧n≤1000000000000000):fields 1 n ⟨#[]⟩=true:=by
 simp[fields,zkt,Gen.within,h]
theorem zvc {n:Int}(h:0≤n∧n≤1):fields 2 n ⟨#[]⟩=true:=by
 simp[fields,zkt,Gen.within,h]
theorem zle {op n:Int}(ho:op=3∨op=29∨op=30)(h:0≤n∧n≤73048):fields op n ⟨#[]⟩=true:=by
 rcases ho with rfl|rfl|rfl<;>simp[fields,zkt,Gen.within,h]
theorem zvb:fields 23 0 ⟨#[]⟩=true:=by simp[fields,zkt]
theorem zix {op n:Int}{s:ByteArray}(ho:op=3∨op=29∨op=30)(h:fields op n s=true):0≤n∧n≤73048:=by
 rcases ho with rfl|rfl|rfl<;>simp[fields,Gen.within] at h<;>omega
theorem bool_of {n:Int}{s:ByteArray}(h:fields 2 n s=true):n=0∨n=1:=by
 simp[fields,Gen.within] at h; omega
end Co
end
section
open Go.RowKit
set_option maxRecDepth 100000
theorem zrl (r:UInt8):∀(l:List UInt8),(62:UInt8)∉l→Lib.indexByte (l++[62,r]) 62=(l.length:Int)
 | [],_=>rfl
 |b::l,h=>by
  have hb:(b == 62)=false:=by
   have:b≠62:=by rintro rfl; exact h (List.mem_cons_self ..)
   simpa using this
  have ih:=zrl r l (fun e=>h (List.mem_cons_of_mem _ e))
  have e:Lib.indexByte (b::(l++[62,r])) 62=if(b == 62)=true then 0 else if(Lib.indexByte (l++[62,r]) 62 == -1)=true then -1 else Lib.indexByte (l++[62,r]) 62+1:=rfl
  rw[List.cons_append,e,hb,ih,if_neg (by decide),if_neg (by simp),List.length_cons]
  exact(Int.natCast_succ _).symm
theorem zvn (l:List UInt8)(r:UInt8)(h:(62:UInt8)∉l):Lib.indexByte (⟨(l++[62,r]).toArray⟩:ByteArray).data.toList 62=(l.length:Int):=zrl r l h
theorem zxq (l:List UInt8)(r:UInt8):(⟨(l++[62,r]).toArray⟩:ByteArray).extract 0 l.length=⟨l.toArray⟩:=zmo (by simp)
theorem zvm (l:List UInt8)(r:UInt8):(⟨(l++[62,r]).toArray⟩:ByteArray).extract (l.length+1) (l.length+2)=⟨#[r]⟩:=zmo (by simp)
structure Cutted (S kt rt:ByteArray)(l:List UInt8)(r:UInt8):Prop where
 cut:∀ w,Calls Tryz.prog 139 #[.string S,.string ⟨#[62]⟩] w (zaj (.tuple #[.string kt,.string rt,.bool true]) w)
 size:kt.size=l.length
 at':∀(i:Nat) k,l[i]? = some k→∃ h:i<kt.size,kt[i]=k
 rt:rt=⟨#[r]⟩
theorem zht (k x y:UInt8):Co.kidLetter k x y=if y.toNat=0 then none else if k.toNat=120∧y.toNat≠99∧(x.toNat=0∨x.toNat=y.toNat) then some y else if k.toNat=y.toNat then some x else none:=by
 unfold Co.kidLetter
 have e:∀ a b:UInt8,a=b↔a.toNat=b.toNat:=fun a b=>UInt8.toNat_inj.symm
 have z0:(0:UInt8).toNat=0:=rfl
 have z1:(120:UInt8).toNat=120:=rfl
 have z2:(99:UInt8).toNat=99:=rfl
 simp only[ne_eq,e,z0,z1,z2]
def qgh (r:UInt8)(o:Option UInt8):UInt8:=match o with|none=>0|some x=>Co.ownLetter r x
theorem qfz (l:List UInt8)(r:UInt8)(hl:l.length≤3)(hn:(62:UInt8)∉l):∃ kt rt,Cutted ⟨(l++[62,r]).toArray⟩ kt rt l r:=by
 refine⟨⟨l.toArray⟩,⟨#[r]⟩,fun w=>?_,by simp[ByteArray.size],fun i k h=>?_,rfl⟩
 ·have h1:=qaj ⟨(l++[62,r]).toArray⟩ 62 l.length w (zvn l r hn) (by simp[ByteArray.size]) (by simp[ByteArray.size]; omega)
  have e:(⟨(l++[62,r]).toArray⟩:ByteArray).size=l.length+2:=by simp[ByteArray.size]
  rw[e,zxq,zvm] at h1
  exact h1
 ·obtain⟨h1,h2⟩:=List.getElem?_eq_some_iff.1 h
  exact⟨by simpa [ByteArray.size] using h1,h2⟩
set_option maxHeartbeats 2000000 in
theorem zuu (t:Co.T):∀(v:Value) (w:World),CoreAt w.heap.size w t v→t.size≤2000000→Calls Tryz.prog 97 #[v] w (zaj (.int .u8 (t.letter.toNat:Int)) w):=by
 induction t using Co.T.ind with|h op n s ks ih=>?_
 intro v w hv hsz
 obtain⟨p,c,rfl,hc,ho,hn,hs,hk⟩:=hv.open
 simp only[Co.T.op,Co.T.n,Co.T.s,Co.T.ks] at hc ho hn hs hk ⊢
 have HK:=hid' hk
 have IH:=hid' ih
 have HC:=hid' hc
 have HS:=hid' (fun w=>qby op w)
 have HF:=hid' (fun w=>zvd op n s p ks.length c w (by omega))
 have HZ:=hid' hsz
 obtain⟨F,hF⟩:∃ F,Hid (Co.fields op n s=F):=⟨_,hid' rfl⟩
 rw[hF.out] at HF
 obtain⟨L,hL⟩:∃ L,Hid ((Co.T.mk op n s ks).letter=L):=⟨_,hid' rfl⟩
 rw[hL.out]
 have hb:=heap_alloc_new w (.cells #[.int .i64 op,.int .i64 n,.string s,.slice p ks.length c] 24)
 have HB:=hid' hb
 obtain⟨x0,x1,x2,x3⟩:=zab hb
 have hform:=Co.sort_form op
 have HFORM:=hid' hform
 obtain⟨S,hS⟩:∃ S,Hid (Co.sort op=S):=⟨_,hid' rfl⟩
 rw[hS.out] at HS HFORM
 clear hb hk ih hc ho hn hs hsz hv hform
 go_enter Tryz.func97,Tryz.ntmps97
 go_wp2_with fail
 refine(HS.out _).mono ?_
 rintro e w1 ⟨rfl,b1⟩
 clear x0 x1 x2 x3
 rcases HFORM.out with⟨hs0,ha⟩|⟨l,r,hs1,hl3,hnl,ha⟩
 ·subst hs0
  go_wp2_with fail
  refine(zvh ⟨#[]⟩ 62 _ (by simp[Lib.indexByte])).mono ?_
  rintro e w2 ⟨rfl,b2⟩
  go_wp2_with fail
  go_ret
  refine⟨?_,Below.more ((Below.refl w.heap.size w).alloc (Nat.le_refl _) _) (Below.more b1 b2)⟩
  rw[←hL.out,Co.T.letter,hS.out,ha]
  rfl
 ·obtain⟨kt,rt,hct⟩:=qfz l r hl3 hnl
  rw[←hs1] at hct
  have HCUT:=hid' hct
  have HA:=hid' ha
  have HL3:=hid' hl3
  clear hs1 hnl ha hct hl3
  go_wp2_with fail
  refine(HCUT.out.cut _).mono ?_
  rintro e w2 ⟨rfl,b2⟩
  have h2:=((Below.more b1 b2).block w.heap.size (by simp)).trans HB.out
  obtain⟨c0,c1,c2,c3⟩:=zab h2
  have hB:=hid' (Below.more ((Below.refl w.heap.size w).alloc (Nat.le_refl _) _) (Below.more b1 b2))
  have H2:=hid' h2
  clear b1 b2 h2
  by_cases hl:l.length=ks.length
  ·have g0:((kt.size:Int) != (ks.length:Int))=false:=by rw[HCUT.out.size,hl]; simp
   have HL:=hid' hl
   clear hl
   go_wp2_with fail
   refine(HF.out _).mono ?_
   rintro e w3 ⟨rfl,b3⟩
   have h3:=(b3.block w.heap.size (zac H2.out)).trans H2.out
   obtain⟨d0,d1,d2,d3⟩:=zab h3
   have hB3:=hid' (Below.more hB.out b3)
   clear b3 c0 c1 c2 c3 h3
   cases F with
   |false=>
    go_wp2_with fail
    go_ret
    refine⟨?_,hB3.out⟩
    rw[←hL.out,Co.T.letter,hS.out,HA.out]
    show Ending.returned (.int .u8 0)=.returned (.int .u8 (((if l.length=ks.length∧Co.fields op n s=true then(match Co.kidsLetter ks l 0 with|none=>(0:UInt8)|some x=>Co.ownLetter r x) else 0:UInt8)).toNat:Int))
    rw[if_neg (fun h=>by rw[hF.out] at h; cases h.2)]
    rfl
   |true=>
    obtain⟨R,hR⟩:∃ R,Hid (Co.kidsLetter ks l 0=R):=⟨_,hid' rfl⟩
    have HL2:=hid' (show L=qgh r R by
     rw[←hL.out,Co.T.letter,hS.out,HA.out]
     show(if l.length=ks.length∧Co.fields op n s=true then(match Co.kidsLetter ks l 0 with|none=>(0:UInt8)|some x=>Co.ownLetter r x) else 0)=_
     rw[if_pos ⟨HL.out,hF.out⟩,←hR.out]
     rfl)
    go_wp2_with fail
    go_loopw [6,36] (fun xv iv wr=>∃(i:Nat) (x:UInt8),iv=.int .i64 (i:Int)∧xv=.int .u8 (x.toNat:Int)∧i≤ks.length∧Hid (Co.kidsLetter (ks.drop i) (l.drop i) x=R)∧Hid (Below w.heap.size w wr)) (fun _ iv _=>ks.length - (intOf iv).toNat)
    case atStart=>exact⟨0,0,rfl,rfl,Nat.zero_le _,hR,hB3⟩
    case round=>
     obtain⟨i,x,rfl,rfl,hi,HX,HBR⟩:=hrel
     by_cases hik:i<ks.length
     ·obtain⟨k,hk⟩:∃ k,ks[i]? = some k:=⟨_,List.getElem?_eq_getElem hik⟩
      obtain⟨vk,hrow,hvk⟩:=HK.out i k hk
      obtain⟨b,off,x0,y0,z0,u0,e,hlb,hve,r0,r1,r2,r3⟩:=hrow.kept HBR.out (Nat.le_refl _)
      subst e
      have HKV:=hid' hvk
      obtain⟨pk,ck,rfl, -, -, -, -, -⟩:=hvk.open
      obtain⟨rfl,rfl,rfl,rfl⟩:.int .i64 k.op=x0∧.int .i64 k.n=y0∧.string k.s=z0∧.slice pk k.ks.length ck=u0:=by simpa using hve
      clear hve
      have g1:decide ((i:Int)<(ks.length:Int))=true:=by simp; omega
      have j1:(0:Int)≤(i:Int):=by omega
      have j2:(i:Int)<(ks.length:Int):=by omega
      have hiw:IntKind.i64.wrap ((i:Int)+1)=(i:Int)+1:=IntWalk.i64_in _ (by have:=HZ.out; have h2:=Co.sizes_len ks; rw[Co.T.size] at this; omega)
      have HKK:=hid' hk
      clear hk hvk hrow
      go_wp2_with fail
      have hbn:=hid' ((Below.refl wr.heap.size wr).alloc (Nat.le_refl _) (.cells #[.int .i64 k.op,.int .i64 k.n,.string k.s,.slice pk k.ks.length ck] 24))
      refine(IH.out k (List.mem_of_getElem? HKK.out) _ _ (HKV.out.kept (HBR.out.trans (hbn.out.mono HBR.out.size)) (Nat.le_trans HBR.out.size hbn.out.size)) ?_).mono ?_
      ·have h1:=Co.sizes_mem (List.mem_of_getElem? HKK.out)
       have h2:=HZ.out
       rw[Co.T.size] at h2
       omega
      rintro e w5 ⟨rfl,b5⟩
      have HB5:=hid' (HBR.out.trans ((Below.more hbn.out b5).mono HBR.out.size))
      obtain⟨y,hy⟩:∃ y,Hid (k.letter=y):=⟨_,hid' rfl⟩
      rw[hy.out]
      obtain⟨kc,hkc⟩:∃ kc,l[i]? = some kc:=⟨_,List.getElem?_eq_getElem (by rw[HL.out]; exact hik)⟩
      have HSTEP:=hid' (Co.kidsLetter_step x HKK.out hkc)
      obtain⟨q1,q2⟩:=HCUT.out.at' i kc hkc
      have HN:=hid' (show Co.kidLetter kc x y=none→L=0 by
       intro h
       have h1:=HSTEP.out
       rw[HX.out,hy.out,h] at h1
       rw[HL2.out,h1]
       rfl)
      have HSOME:=hid' (show ∀ x',Co.kidLetter kc x y=some x'→Co.kidsLetter (ks.drop (i+1)) (l.drop (i+1)) x'=R by
       intro x' h
       have h1:=HSTEP.out
       rw[HX.out,hy.out,h] at h1
       exact h1.symm)
      clear hkc b5 hbn
      go_wp2_with fail
      all_goals first
       |(go_ret
         exact⟨by rw[HN.out (by rw[zht]; (repeat' split)<;>first|rfl|(exfalso; simp_all; done)|(exfalso; simp_all; omega))]; rfl,HB5.out⟩)
       |(go_roundw
         case rel=>exact⟨i+1,y,by go_num,rfl,by omega,hid' (HSOME.out y (by rw[zht]; (repeat' split)<;>first|rfl|(exfalso; simp_all; done)|(exfalso; simp_all; omega))),HB5⟩
         case measure=>simp only[intOf]; omega)
       |(go_roundw
         case rel=>exact⟨i+1,x,by go_num,rfl,by omega,hid' (HSOME.out x (by rw[zht]; (repeat' split)<;>first|rfl|(exfalso; simp_all; done)|(exfalso; simp_all; omega))),HB5⟩
         case measure=>simp only[intOf]; omega)
     ·obtain rfl:i=ks.length:=by omega
      have g1:decide (ks.length<ks.length)=false:=by simp
      clear hik
      have HXR:=hid' (show R=some x by rw[←HX.out,List.drop_length,Co.kidsLetter])
      have q1:0<rt.size:=by rw[HCUT.out.rt]; exact Nat.one_pos
      have HQ:=hid' (show rt[0]=r by have h:=HCUT.out.rt; subst h; rfl)
      by_cases hr:r=120
      ·have q3:(rt.toList == [120])=true:=by rw[HCUT.out.rt,ByteArray.toList_eq,hr]; rfl
       have HE:=hid' (show L=x by rw[HL2.out,HXR.out]; show Co.ownLetter r x=x; unfold Co.ownLetter; rw[if_pos hr])
       clear hr
       go_wp2_with fail
       go_ret
       exact⟨by rw[HE.out]; rfl,HBR.out⟩
      ·have q3:(rt.toList == [120])=false:=by
        rw[HCUT.out.rt,ByteArray.toList_eq]
        simpa using hr
       have HE:=hid' (show L=r by rw[HL2.out,HXR.out]; show Co.ownLetter r x=r; unfold Co.ownLetter; rw[if_neg hr])
       clear hr
       go_wp2_with fail
       go_ret
       exact⟨by rw[HE.out,←HQ.out]; rfl,HBR.out⟩
  ·have g0:((kt.size:Int) != (ks.length:Int))=true:=by rw[HCUT.out.size]; simp; omega
   have HL:=hid' hl
   clear hl
   go_wp2_with fail
   go_ret
   refine⟨?_,hB.out⟩
   rw[←hL.out,Co.T.letter,hS.out,HA.out]
   show Ending.returned (.int .u8 0)=.returned (.int .u8 (((if l.length=ks.length∧Co.fields op n s=true then(match Co.kidsLetter ks l 0 with|none=>(0:UInt8)|some x=>Co.ownLetter r x) else 0:UInt8)).toNat:Int))
   rw[if_neg (fun h=>HL.out h.1)]
   rfl
end
section
open Go.RowKit
set_option maxRecDepth 100000
namespace Co
def T.right (t:T):Bool:=small t && t.letter != 0
def T.ty (t:T):Int:=bif t.right then Lib.indexByte [110,98,100,63,99] t.letter else 0
end Co
theorem zxx (t:Co.T)(v:Value)(w:World)(hv:CoreAt w.heap.size w t v)(hsz:t.size≤2000000):
  Calls Tryz.prog 47 #[v] w (zaj (.tuple #[.int .i64 t.ty,.bool t.right]) w):=by
 have HV:=hid' hv
 obtain⟨p,c,hve, -, -, -, -, -⟩:=hv.open
 obtain⟨op,n,s,len,rfl⟩:∃ op n s len,v=.agg #[.int .i64 op,.int .i64 n,.string s,.slice p len c]:=⟨_,_,_,_,hve⟩
 have hb:=heap_alloc_new w (.cells #[.int .i64 op,.int .i64 n,.string s,.slice p len c] 24)
 have HB:=hid' hb
 obtain⟨x0,x1,x2,x3⟩:=zab hb
 have hbn:=hid' ((Below.refl w.heap.size w).alloc (Nat.le_refl _) (.cells #[.int .i64 op,.int .i64 n,.string s,.slice p len c] 24))
 have HS:=hid' (fun (W:World) (h:Below w.heap.size w W)=>zqf t _ W (hv.kept h h.size) hsz)
 have HL:=hid' (fun (W:World) (h:Below w.heap.size w W)=>zuu t _ W (hv.kept h h.size) hsz)
 obtain⟨sm,hsm⟩:∃ sm,Hid (Co.small t=sm):=⟨_,hid' rfl⟩
 obtain⟨y,hy⟩:∃ y,Hid (t.letter=y):=⟨_,hid' rfl⟩
 obtain⟨R,hR⟩:∃ R,Hid (t.right=R):=⟨_,hid' rfl⟩
 obtain⟨Y,hY⟩:∃ Y,Hid (t.ty=Y):=⟨_,hid' rfl⟩
 rw[hsm.out] at HS
 rw[hy.out] at HL
 rw[hR.out,hY.out]
 clear hve hb hsz hv
 go_enter Tryz.func47,Tryz.ntmps47
 go_wp2_with fail
 refine(HS.out _ hbn.out).mono ?_
 rintro e w1 ⟨rfl,b1⟩
 have h1:=(b1.block w.heap.size (by simp)).trans HB.out
 obtain⟨c0,c1,c2,c3⟩:=zab h1
 have hB:=hid' (Below.more hbn.out b1)
 clear b1 h1 x0 x1 x2 x3
 cases sm with
 |false=>
  have eR:=hid' (show R=false by rw[←hR.out]; unfold Co.T.right; rw[hsm.out]; rfl)
  have eY:=hid' (show Y=0 by rw[←hY.out]; unfold Co.T.ty; rw[hR.out,eR.out]; rfl)
  go_wp2_with fail
  refine bodyPost_ret (results_tmp2 rfl _ _ _) rfl ?_
  exact⟨by rw[eR.out,eY.out]; rfl,hB.out⟩
 |true=>
  go_wp2_with fail
  refine(HL.out _ hB.out).mono ?_
  rintro e w2 ⟨rfl,b2⟩
  have hB2:=hid' (Below.more hB.out b2)
  clear b2 c0 c1 c2 c3
  by_cases h0:y=0
  ·subst h0
   have eR:=hid' (show R=false by rw[←hR.out]; unfold Co.T.right; rw[hy.out]; simp)
   have eY:=hid' (show Y=0 by rw[←hY.out]; unfold Co.T.ty; rw[hR.out,eR.out]; rfl)
   go_wp2_with fail
   refine bodyPost_ret (results_tmp2 rfl _ _ _) rfl ?_
   exact⟨by rw[eR.out,eY.out]; rfl,hB2.out⟩
  ·have g0:(((y.toNat:Int)) == 0)=false:=by
    have:y.toNat≠0:=fun e=>h0 (UInt8.toNat_inj.1 e)
    simp; omega
   have eR:=hid' (show R=true by rw[←hR.out]; unfold Co.T.right; rw[hsm.out,hy.out]; simpa using h0)
   have eY:=hid' (show Y=Lib.indexByte [110,98,100,63,99] y by rw[←hY.out]; unfold Co.T.ty; rw[hR.out,eR.out,hy.out]; rfl)
   have HI:=hid' (fun w=>Tryz.strings_IndexByte ⟨#[110,98,100,63,99]⟩ (y.toNat:Int) w)
   go_wp2_with fail
   refine(HI.out _).mono ?_
   rintro e w3 ⟨rfl,rfl⟩
   go_wp2_with fail
   refine bodyPost_ret (results_tmp2 rfl _ _ _) rfl ?_
   refine⟨?_,hB2.out⟩
   rw[eR.out,eY.out]
   have:UInt8.ofNat ((y.toNat:Int)).toNat=y:=by simp
   simp[this]
end
section
open Go.RowKit Go.Shelf
set_option maxRecDepth 100000
attribute [local go_sem] Oper.semAt_some
attribute [local go_sem] zbj
namespace Co
def T.check (t:T):Int:=bif t.right && t.ty == 4 then(bif t.ahead then 141 else 0) else 140
def aheadX (x:T):Bool:=(x.op == 4 || x.op == 5) && decide (x.n<0)
theorem ahead_all (t:T):t.ahead=(t.all 1).any fun x=>aheadX x.2:=by
 unfold T.ahead
 rw[←qat t 1,List.any_map]
 rfl
end Co
theorem qdr {B:Nat}{w0:World}{t:Co.T}{xs:List (Walked B w0)}(h:zpq t xs)(h2:∀ x∈xs,Co.aheadX x.1.2.1=false):t.ahead=false:=by
 unfold zpq at h
 rw[Co.ahead_all,←h,List.any_map,List.any_eq_false]
 intro x hx
 have:=h2 x hx
 simpa [Walked.pr] using this
theorem qaw {B:Nat}{w0:World}{t:Co.T}{xs:List (Walked B w0)}(h:zmr t xs)(hb:∃ x∈xs,Co.aheadX x.1.2.1=true):t.ahead=true:=by
 obtain⟨x,hx,hd⟩:=hb
 unfold zmr at h
 have hy:x.pr∈t.all 1:=h.subset (List.mem_map_of_mem hx)
 rw[Co.ahead_all,List.any_eq_true]
 exact⟨x.pr,hy,hd⟩
def CoreBox (W:World)(b:Nat)(v:Value):Prop:=∃ x y z u,v=.agg #[x,y,z,u]∧W.heap[b]? = some (.cells #[x,y,z,u] 24 (0,0))
theorem CoreBox.own {W W':World}{b:Nat}{v:Value}{row:Option Nat}(h:CoreBox W b v)(hg:W.grownBy W' row)(hr:∀ r,row=some r→∃ o:Obj,W.heap[r]? = some o∧o.isCells=false):CoreBox W' b v:=by
 obtain⟨x,y,z,u,e,h⟩:=h
 refine⟨x,y,z,u,e,(hg.block b (zac h) (fun e=>?_)).trans h⟩
 obtain⟨o,ho,hc⟩:=hr b e.symm
 rw[h] at ho
 cases ho
 cases hc
set_option maxHeartbeats 2000000 in
theorem zpl (t:Co.T)(v:Value)(w:World)(hT:CoreAt w.heap.size w t v)(hts:t.size≤2000000):
  Calls Tryz.prog 19 #[v] w (zaj (.int .i64 t.check) w):=by
 obtain⟨p,c,hve, -, -, -, -, -⟩:=hT.open
 obtain⟨op,n,s,len,rfl⟩:∃ op n s len,v=.agg #[.int .i64 op,.int .i64 n,.string s,.slice p len c]:=⟨_,_,_,_,hve⟩
 clear hve
 have HT:=hid' hT
 have HTY:=hid' (fun (W:World) (h:Below w.heap.size w W)=>zxx t _ W (hT.kept h h.size) hts)
 obtain⟨R,hR⟩:∃ R,Hid (t.right=R):=⟨_,hid' rfl⟩
 obtain⟨Y,hY⟩:∃ Y,Hid (t.ty=Y):=⟨_,hid' rfl⟩
 rw[hR.out,hY.out] at HTY
 obtain⟨C,hC⟩:∃ C,Hid (t.check=C):=⟨_,hid' rfl⟩
 rw[hC.out]
 clear hT
 refine callsIn_wide.1 (show CallsIn Fence.wide 7 _ _ _ _ _ from ?_)
 have h1:1≤7:=by omega
 refine callsIn_of_wp_marks Tryz.func19 rfl trivial ?_ rfl
 simp only[Tryz.ntmps19,List.size_toArray,List.length_cons,List.length_nil,Nat.reduceAdd,Nat.reduceSub,Array.replicate_succ,Array.replicate_zero,List.push_toArray,List.append_toArray,List.nil_append,List.cons_append]
 have hnn:∀(p:Value) (w:World),(binOp BinOp.eql 100 (.func (.func 99) #[] #[p]) .nilFunc).run Tryz.prog w=.ok (.bool false) w:=fun _ _=>by kernel_rfl
 have f64:Fence.wide.fn 48:=trivial
 have fty:Fence.wide.fn 47:=trivial
 have hB0:Below w.heap.size w ((w.alloc (.cells #[.int .i64 op,.int .i64 n,.string s,.slice p len c] 24)).alloc (.cells #[.int .i64 0] 30)):=((Below.refl _ w).alloc (Nat.le_refl _) _).alloc (by simp) _
 have bX:=(heap_alloc_new w (.cells #[.int .i64 op,.int .i64 n,.string s,.slice p len c] 24))
 have bC:=Boxed.new (w.alloc (.cells #[.int .i64 op,.int .i64 n,.string s,.slice p len c] 24)) 30 (.int .i64 0)
 simp only[World.size_alloc] at bC
 have bX2:=(((Below.refl _ (w.alloc (.cells #[.int .i64 op,.int .i64 n,.string s,.slice p len c] 24))).alloc (Nat.le_refl _) (.cells #[.int .i64 0] 30)).block w.heap.size (by simp)).trans bX
 obtain⟨x0,x1,x2,x3⟩:=zab bX2
 have HB0:=hid' hB0
 have HBX:=hid' bX2
 have HBC:=hid' bC
 clear hB0 bX bX2 bC
 gi_wp2_with fail
 refine(callsIn_wide.2 (HTY.out _ HB0.out)).mono ?_
 rintro e w1 ⟨rfl,b1⟩
 have HB1:=hid' (Below.more HB0.out b1)
 have HX1:=hid' ((b1.block w.heap.size (by simp; omega)).trans HBX.out)
 have HC1:=hid' (show Boxed w1 (w.heap.size+1) 30 (.int .i64 0) from(b1.block (w.heap.size+1) (by simp)).trans HBC.out)
 have hlt1:w.heap.size+1<w1.heap.size:=zac HC1.out
 obtain⟨y0,y1,y2,y3⟩:=zab HX1.out
 have hc1:=HC1.out.cell
 have hf1:=HC1.out.frozen
 clear b1 x0 x1 x2 x3
 by_cases hok:R=true∧Y=4
 ·obtain⟨rfl,rfl⟩:=hok
  gi_wp2_with (gi_at_call 48; refine(zwh Fence.wide 6 trivial rfl op n s p len c _).mono ?_; rintro e w' ⟨rfl,rfl⟩)
  have hE:∀ a,t.ahead=a→C=bif a then 141 else 0:=by
   intro a ha
   rw[←hC.out]
   unfold Co.T.check
   rw[hR.out,hY.out,ha]
   rfl
  have HE:=hid' hE
  have bC:=heap_alloc_new w1 (.cells #[.int .i64 op,.int .i64 n,.string s,.slice p len c] 24)
  have bN:=HC1.out.alloc (.cells #[.int .i64 op,.int .i64 n,.string s,.slice p len c] 24)
  have hB0:=HB1.out.trans (((Below.refl w1.heap.size w1).alloc (Nat.le_refl _) (.cells #[.int .i64 op,.int .i64 n,.string s,.slice p len c] 24)).mono (show w.heap.size≤w1.heap.size by omega))
  have hsz2:(w1.alloc (.cells #[.int .i64 op,.int .i64 n,.string s,.slice p len c] 24)).heap.size=w1.heap.size+1:=by simp
  obtain⟨W0,hW0⟩:∃ W0,w1.alloc (.cells #[.int .i64 op,.int .i64 n,.string s,.slice p len c] 24)=W0:=⟨_,rfl⟩
  rw[hW0] at bC bN hB0 hsz2 ⊢
  clear hW0 hE y0 y1 y2 y3 hc1 hf1
  refine wpIn_rangeFunc_ownH (F:=Fence.wide) rfl h1 (gf:=99) (lb:=#[.pointer (some ⟨w1.heap.size,0,none⟩)]) rfl trivial (enters_of Tryz.func99 (by kernel_rfl) rfl)
   (zpo w1.heap.size w.heap.size w t op n s p len c W0 HT.out hts hB0 bC (by omega)) KpC.trans (zwz (by omega)) (Below.refl _ _) (fun _=>rfl)
   (fun (pre:List (Walked w.heap.size w)) W=>((∀ x∈pre,Co.aheadX x.1.2.1=false)∧Boxed W (w.heap.size+1) 30 (.int .i64 0))∧Below w.heap.size w W)
   (fun c (pre:List (Walked w.heap.size w)) W=>((c=.ret∧∃ x∈pre,Co.aheadX x.1.2.1=true)∧Boxed W (w.heap.size+1) 30 (.int .i64 141))∧Below w.heap.size w W)
   (OwnFrom.and (OwnFrom.and (ownFrom_pure _ _) (Own.from (boxed_own _ _ (fun (_:List (Walked w.heap.size w))=>.int .i64 0)) _)) (ownFrom_below (Nat.le_refl _) (by omega)))
   (fun c=>OwnFrom.and (OwnFrom.and (ownFrom_pure _ _) (Own.from (boxed_own _ _ (fun (_:List (Walked w.heap.size w))=>.int .i64 141)) _)) (ownFrom_below (Nat.le_refl _) (by omega)))
   ⟨⟨by simp,bN⟩,hB0⟩
   (fun x a' W=>∃ b,a' = { tmps:=#[.agg #[.int .i64 op,.int .i64 n,.string s,.slice p len c],.pointer (some ⟨w.heap.size,0,none⟩),.pointer (some ⟨w.heap.size+1,0,none⟩),.int .i64 4,.bool true,undef,.pointer (some ⟨b,0,none⟩),.tuple #[.int .i64 4,.bool true],.agg #[.int .i64 op,.int .i64 n,.string s,.slice p len c],.tuple #[.int .i64 4,.bool true],.int .i64 4,.bool true,.bool true,.bool false,.bool false,.int .i64 4,.bool false,.bool false,.agg #[.int .i64 op,.int .i64 n,.string s,.slice p len c],.func (.func 99) #[] #[.pointer (some ⟨w1.heap.size,0,none⟩)],.int .i64 x.1.1,x.1.2.2,undef,undef,undef,undef,undef,undef,undef,undef,undef,undef,undef,undef,undef],defers:=[] }∧CoreBox W b x.1.2.2)
   (fun x a' s X Y row hs hg hr=>by
    obtain⟨b,e,hb⟩:=hs
    exact⟨b,e,hb.own hg (fun r e=>(hr r e).2)⟩)
   ?assign ?body ?done ?stop
  case assign=>
   rintro l pre x W K ⟨⟨hp,hv⟩,hB⟩ hK
   obtain⟨⟨d,tt,vv⟩,hx⟩:=x
   obtain⟨pk,ck,e, -, -, -, -, -⟩:=hx.open
   obtain⟨op2,n2,s2,len2,e2⟩:∃ op2 n2 s2 len2,vv=.agg #[.int .i64 op2,.int .i64 n2,.string s2,.slice pk len2 ck]:=⟨_,_,_,_,e⟩
   clear e
   rw[show Walked.enc (⟨(d,tt,vv),hx⟩:Walked w.heap.size w)=#[.int .i64 d,vv] from rfl]
   have hvl:=zac (show W.heap[w.heap.size+1]? = _ from hv)
   have hBA:Below W.heap.size W (W.alloc (.cells #[.int .i64 op2,.int .i64 n2,.string s2,.slice pk len2 ck] 24)):=(Below.refl _ W).alloc (Nat.le_refl _) _
   have HK:=hid' (hK _ _ ((KeepsOthers.alloc W (.cells #[.int .i64 op2,.int .i64 n2,.string s2,.slice pk len2 ck] 24)).from _) ⟨hBA.mono (by omega),fun k cur t _ hk=>hBA.block k (zac hk)⟩
    ⟨⟨hp,hv.alloc _⟩,hB.trans (hBA.mono (by omega))⟩ ⟨W.heap.size,rfl,⟨_,_,_,_,e2,heap_alloc_new W _⟩⟩)
   clear hK hBA hvl hB hv hp
   subst e2
   gi_wp2
   exact HK.out
  case body=>
   rintro l pre x a' W hl ⟨r,hr⟩ ⟨⟨hp,hv⟩,hB⟩ ⟨b,rfl,hbx⟩ hlt
   have HX:=hid' hp
   clear hp
   obtain⟨⟨d,tt,vv⟩,hx⟩:=x
   obtain⟨pk,ck,e, -, -, -, -, -⟩:=hx.open
   obtain⟨op2,hop⟩:∃ o,Hid (tt.op=o):=⟨_,hid' rfl⟩
   obtain⟨n2,hn2⟩:∃ o,Hid (tt.n=o):=⟨_,hid' rfl⟩
   obtain⟨s2,len2,e2⟩:∃ s2 len2,vv=.agg #[.int .i64 op2,.int .i64 n2,.string s2,.slice pk len2 ck]:=⟨_,_,by rw[←hop.out,←hn2.out]; exact e⟩
   clear e
   have hAX:=hid' (show Co.aheadX tt=((op2 == 4 || op2 == 5) && decide (n2<0)) by unfold Co.aheadX; rw[hop.out,hn2.out])
   obtain⟨c0,c1,c2,c3,e3,hbx⟩:=hbx
   obtain⟨rfl,rfl,rfl,rfl⟩:.int .i64 op2=c0∧.int .i64 n2=c1∧.string s2=c2∧.slice pk len2 ck=c3:=by
    have e3':vv=.agg #[c0,c1,c2,c3]:=e3
    rw[e2] at e3'
    simpa using e3'
   obtain⟨z0,z1,z2,z3⟩:=zab hbx
   have hc:=hv.cell
   have hf:=hv.frozen
   have HV:=hid' hv
   have HBW:=hid' hB
   have HR:=hid' hr
   clear hbx hv hB hr hlt e3
   by_cases hah:((op2 == 4 || op2 == 5) && decide (n2<0))=true
   ·have hyes:∃ x∈pre++[(⟨(d,tt,vv),hx⟩:Walked w.heap.size w)],Co.aheadX x.1.2.1=true:=⟨⟨(d,tt,vv),hx⟩,by simp,hAX.out.trans hah⟩
    have HY:=hid' hyes
    clear hyes
    subst e2
    rw[Bool.and_eq_true,Bool.or_eq_true,beq_iff_eq,beq_iff_eq,decide_eq_true_eq] at hah
    obtain⟨ho,hn0⟩:=hah
    have g2:decide (n2<0)=true:=decide_eq_true hn0
    clear hn0
    rcases ho with rfl|rfl
    all_goals
     gi_wp2
     refine⟨?_,⟨⟨rfl,HY.out⟩,HV.out.set _⟩,HBW.out.setCell (p:=⟨w.heap.size+1,0,none⟩) (by simp) _⟩
     exact(KeepsOthers.setCell _ _ _).from _
   ·have hno:∀ y∈pre++[(⟨(d,tt,vv),hx⟩:Walked w.heap.size w)],Co.aheadX y.1.2.1=false:=fun y hy=>by
     rcases List.mem_append.1 hy with hy|hy
     ·exact HX.out y hy
     ·rw[List.mem_singleton] at hy
      subst hy
      rw[Bool.not_eq_true] at hah
      rw[←hah]
      exact hAX.out
    have HNO:=hid' hno
    clear hno
    subst e2
    rw[Bool.and_eq_true,Bool.or_eq_true,beq_iff_eq,beq_iff_eq,decide_eq_true_eq,not_and] at hah
    by_cases ho:op2=4∨op2=5
    ·have g2:decide (n2<0)=false:=decide_eq_false (hah ho)
     clear hah
     rcases ho with rfl|rfl
     all_goals
      gi_wp2
      refine⟨KeepsFrom.refl _ _,⟨Below.refl _ _,fun k cur t ht hk=>rfl⟩,⟨HNO.out,HV.out⟩,HBW.out⟩
    ·have g1:(op2 == 4)=false:=by simp only[not_or] at ho; simpa using ho.1
     have g2:(op2 == 5)=false:=by simp only[not_or] at ho; simpa using ho.2
     clear hah ho
     gi_wp2
     refine⟨KeepsFrom.refl _ _,⟨Below.refl _ _,fun k cur t ht hk=>rfl⟩,⟨HNO.out,HV.out⟩,HBW.out⟩
  case done=>
   rintro D ys W hD hall ⟨⟨hp,hv⟩,hB⟩ hK
   have hc:=hv.cell
   have hf:=hv.frozen
   gi_wp2
   have hd:(W.setCell ⟨w.heap.size+1,0,none⟩ (.int .i64 0)).heap[D]? = some (.deferred (some [])):=(Below.heap_setCell _ _ _ D (by show D≠w.heap.size+1; omega)).trans hK
   refine⟨by simp,.inl ⟨_,_,rfl,run_takeDeferred hd,?_⟩⟩
   have hc2:((W.setCell ⟨w.heap.size+1,0,none⟩ (.int .i64 0)).putObj D (.deferred none)).cell? ⟨w.heap.size+1,0,none⟩=some (.int .i64 0):=((boxed_own (w.heap.size+1) 30 (fun (_:Unit)=>.int .i64 0)).putObj (s:=()) _ (hv.set (.int .i64 0)) hd rfl).cell
   refine⟨.int .i64 0,?_,by rw[HE.out _ (qdr hall hp)]; rfl,(hB.setCell (p:=⟨w.heap.size+1,0,none⟩) (by simp) _).trans (belowK_b (w:=w) (Nat.le_refl _) _ D _ _ (by omega) hd rfl rfl)⟩
   simp[results,Tryz.results19,go_sem,hc2]
  case stop=>
   rintro D c pre W hD hpart ⟨⟨⟨rfl,hbad⟩,hcb⟩,hB⟩ hK
   have hc:=hcb.cell
   have hf:=hcb.frozen
   gi_wp2
   refine⟨by simp,.inl ⟨_,_,rfl,run_takeDeferred hK,?_⟩⟩
   have hc2:(W.putObj D (.deferred none)).cell? ⟨w.heap.size+1,0,none⟩=some (.int .i64 141):=((boxed_own (w.heap.size+1) 30 (fun (_:Unit)=>.int .i64 141)).putObj (s:=()) _ hcb hK rfl).cell
   refine⟨.int .i64 141,?_,by rw[HE.out _ (qaw hpart hbad)]; rfl,hB.trans (belowK_b (w:=w) (Nat.le_refl _) _ D _ _ (by omega) hK rfl rfl)⟩
   simp[results,Tryz.results19,go_sem,hc2]
 ·have HE:=hid' (show C=140 by
   rw[←hC.out]
   unfold Co.T.check
   rw[hR.out,hY.out]
   cases R with
   |false=>rfl
   |true=>
    have:(Y == 4)=false:=by simpa using hok
    rw[this]
    rfl)
  have fin:∀ W:World,Below w.heap.size w W→(W.cell? ⟨w.heap.size+1,0,none⟩=some (.int .i64 140))→zaj (.int .i64 C) w (.returned (.int .i64 140)) W:=fun W h _=>⟨by rw[HE.out],h⟩
  cases R with
  |false=>
   gi_wp2
   refine⟨.int .i64 140,?_,by rw[HE.out],HB1.out.setCell (p:=⟨w.heap.size+1,0,none⟩) (by simp) _⟩
   simp[results,Tryz.results19,go_sem,(HC1.out.set (.int .i64 140)).cell]
  |true=>
   have g0:(Y != 4)=true:=by
    have:¬Y=4:=by simpa using hok
    simpa using this
   gi_wp2
   refine⟨.int .i64 140,?_,by rw[HE.out],HB1.out.setCell (p:=⟨w.heap.size+1,0,none⟩) (by simp) _⟩
   simp[results,Tryz.results19,go_sem,(HC1.out.set (.int .i64 140)).cell]
end
section
open Go.RowKit
set_option maxRecDepth 100000
theorem zlk (s:ByteArray)(w:World)(hs:s.size≤9223372036854775807):Calls Tryz.prog 27 #[.string s] w (zaj (.bool (Led.isName s)) w):=by
 have HT:=hid' (zqq s w hs)
 go_enter Tryz.func27,Tryz.ntmps27
 go_wp2_with fail
 refine HT.out.mono ?_
 rintro e w1 ⟨rfl,b1⟩
 go_wp2_with fail
 go_ret
 exact⟨rfl,b1⟩
theorem ztl (s:ByteArray)(w:World)(hs:s.size≤9223372036854775807):Calls Tryz.prog 58 #[.string s] w (zaj (.bool (Led.isCur s)) w):=by
 have HT:=hid' (qbn s w hs)
 go_enter Tryz.func58,Tryz.ntmps58
 go_wp2_with fail
 refine HT.out.mono ?_
 rintro e w1 ⟨rfl,b1⟩
 go_wp2_with fail
 go_ret
 exact⟨rfl,b1⟩
theorem zxd (s:ByteArray)(c:UInt8):Gen.hasB s c.toNat=decide (0≤Lib.indexByte s.data.toList c):=by
 rw[←Lib.contains_iff_indexByte]
 unfold Gen.hasB
 rw[List.contains_eq_any_beq]
 congr 1
 funext x
 by_cases h:x=c
 ·subst h; simp
 ·have h2:¬x.toNat=c.toNat:=fun e=>h (UInt8.toNat_inj.1 e)
  rw[decide_eq_false h2]
  symm
  rw[beq_eq_false_iff_ne]
  exact fun e=>h e.symm
theorem zkk (f:ByteArray)(c:UInt8)(b:Nat)(w:World)(hb:w.cell? ⟨b,0,none⟩=some (.string f)):Calls Tryz.prog 56 #[.string ⟨#[c]⟩,.pointer (some ⟨b,0,none⟩)] w (Ret (.bool (Gen.hasB f c.toNat)) w):=by
 have HT:=hid' (Tryz.strings_Contains_one f c w)
 rw[zxd]
 generalize decide (0≤Lib.indexByte f.data.toList c)=r at *
 go_enter Tryz.func56,Tryz.ntmps56
 go_wp2_with fail
 refine HT.out.mono ?_
 rintro e w1 ⟨rfl,rfl⟩
 go_wp2_with fail
 go_ret
 exact⟨rfl,rfl⟩
end
section
open Go.RowKit
open Gen
set_option maxRecDepth 100000
structure RSl (w:World)(b0 b1 b2 b3:Nat)(vw vi:Value)(c:Gen.Cd)(x:Gen.Ix)(W:World):Prop where
 is:ISt w b0 b1 vw vi c x W
 fb:W.heap[b2]? = some (.cells #[.string (usesT x.op)] 9 (0,0))
 sl:W.heap[b3]? = some (.cells #[.int .i64 x.a,.int .i64 x.b,.int .i64 x.c] 3 (0,0))
def okU (c:Gen.Cd)(x:Gen.Ix):Nat→Bool
 |0=>isOp x.op
 |1=>isOp x.op && fld (useA x.op) x.a c.regs
 |2=>isOp x.op && fld (useA x.op) x.a c.regs && fld (useB x.op) x.b c.regs
 |_=>isOp x.op && fld (useA x.op) x.a c.regs && fld (useB x.op) x.b c.regs && fld (useC x.op) x.c c.regs
def okT (c:Gen.Cd)(k:Int)(x:Gen.Ix):Bool:=okU c x 3 && toOk c k x
theorem zzh (c:Gen.Cd)(k:Int)(x:Gen.Ix):insOk c k x=(okT c k x && (zcj c k x && zcb x)):=by
 rw[qfa]
 unfold okT okU
 generalize isOp x.op=p1
 generalize fld (useA x.op) x.a c.regs=p3
 generalize fld (useB x.op) x.b c.regs=p4
 generalize fld (useC x.op) x.c c.regs=p5
 generalize toOk c k x=p6
 generalize zcj c k x=p7
 generalize zcb x=p8
 cases p1<;>cases p3<;>cases p4<;>cases p5<;>cases p6<;>cases p7<;>cases p8<;>rfl
set_option maxHeartbeats 8000000 in
theorem zpt (v:Value)(c:Gen.Cd)(k:Nat)(x:Gen.Ix)(w:World)(h:CdAt w v c)(hx:c.ins[k]? = some x):Calls Tryz.prog 28 #[v,.int .i64 (k:Int)] w (zaj (.bool (Gen.insOk c (k:Int) x)) w):=by
 have hcd:=h
 obtain⟨vw,vi,rfl,⟨pw,cw,rfl, -⟩,⟨pi,ci,rfl,⟨hi1,hi2⟩,hic⟩,hr⟩:=h
 obtain⟨ib,io,rfl,hib,⟨x0,x1,x2,x3,x4,x5,x6⟩,hxf⟩:=hic k x hx
 have hk:=(List.getElem?_eq_some_iff.1 hx).1
 obtain⟨t1,t2,t3⟩:=zqr w (.cells #[.int .i64 c.regs,.slice pw c.waits.length cw,.slice (some ⟨ib,io,none⟩) c.ins.length ci] 29) (.cells #[.int .i64 x.op,.int .i64 x.a,.int .i64 x.b,.int .i64 x.c,.int .i64 x.n,.string x.s,.int .i64 x.to] 73)
 have e1:(w.alloc (.cells #[.int .i64 c.regs,.slice pw c.waits.length cw,.slice (some ⟨ib,io,none⟩) c.ins.length ci] 29)).heap.size=w.heap.size+1:=by simp
 rw[e1] at t2
 have HS:=hid' (show ISt w w.heap.size (w.heap.size+1) _ _ c x _ from⟨t3,t1,t2,hcd.below t3⟩)
 have j1:(0:Int)≤(k:Int):=by omega
 have j2:(k:Int)<(c.ins.length:Int):=by omega
 have al:=fun (a:Addr) (vv:Value) (hh:w.cell? a=some vv) (o:Obj)=>(Below.cell ((Below.refl w.heap.size w).alloc (Nat.le_refl _) o) (World.block_lt_of_cell? _ _ hh)).trans hh
 have y0:=fun o=>al _ _ x0 o
 have y1:=fun o=>al _ _ x1 o
 have y2:=fun o=>al _ _ x2 o
 have y3:=fun o=>al _ _ x3 o
 have y4:=fun o=>al _ _ x4 o
 have y5:=fun o=>al _ _ x5 o
 have y6:=fun o=>al _ _ x6 o
 have HKX:=hid' (And.intro hx hxf)
 have HU:=hid' (fun W=>zxh x.op W)
 obtain⟨u1,u2,u3,u4⟩:=qbm x.op
 have HUA:=hid' u1
 have HUB:=hid' u2
 have HUC:=hid' u3
 have HUT:=hid' u4
 clear hcd t1 t2 t3 e1 hic hx hr hk al hxf u1 u2 u3 u4
 go_enter Tryz.func28,Tryz.ntmps28
 go_upto_region 2 with(fail)
 obtain⟨b1,hb1⟩:∃ b1,b1=w.heap.size+1:=⟨_,rfl⟩
 rw[←hb1] at HS ⊢
 obtain⟨b0,hb0⟩:∃ b0,b0=w.heap.size:=⟨_,rfl⟩
 have HS1:=hid' (show ISt w b0 b1 _ _ c x _ by rw[hb0]; exact HS.out)
 rw[←hb0]
 clear hb1 hb0 HS x0 x1 x2 x3 x4 x5 x6 y0 y1 y2 y3 y4 y5 y6
 generalize ((w.alloc (.cells #[.int .i64 c.regs,.slice pw c.waits.length cw,.slice (some ⟨ib,io,none⟩) c.ins.length ci] 29)).alloc (.cells #[.int .i64 x.op,.int .i64 x.a,.int .i64 x.b,.int .i64 x.c,.int .i64 x.n,.string x.s,.int .i64 x.to] 73))=w2 at *
 have x0:=zaa HS1.out.xb 0 _ rfl
 go_wp2_with fail
 refine(HU.out w2).mono ?_
 rintro e w3 ⟨rfl,b3⟩
 have HS2:=hid' (HS1.out.below b3)
 clear x0 b3
 have HFB:=hid' (heap_alloc_new w3 (.cells #[.string (usesT x.op)] 9))
 have HS3:=hid' (HS2.out.below ((Below.refl w3.heap.size w3).alloc (Nat.le_refl _) (.cells #[.string (usesT x.op)] 9)))
 have x1:=zaa HS3.out.xb 1 _ rfl
 have x2:=zaa HS3.out.xb 2 _ rfl
 have x3:=zaa HS3.out.xb 3 _ rfl
 go_wp2_with fail
 --LOOP
 have h4:RSl w b0 b1 w3.heap.size (w3.heap.size+1) _ _ c x ((w3.alloc (.cells #[.string (usesT x.op)] 9)).alloc (.cells #[.int .i64 x.a,.int .i64 x.b,.int .i64 x.c] 3)):=
  ⟨HS3.out.below ((Below.refl _ _).alloc (Nat.le_refl _) _),(Below.heap_alloc _ _ _ (by simp)).trans HFB.out,(by have:=heap_alloc_new (w3.alloc (.cells #[.string (usesT x.op)] 9)) (.cells #[.int .i64 x.a,.int .i64 x.b,.int .i64 x.c] 3); rwa [World.size_alloc] at this)⟩
 have H4:=hid' h4
 clear h4 x1 x2 x3 HFB HS3 HS2 HS1
 generalize ((w3.alloc (.cells #[.string (usesT x.op)] 9)).alloc (.cells #[.int .i64 x.a,.int .i64 x.b,.int .i64 x.c] 3))=w4 at *
 generalize w3.heap.size+1=b3 at *
 generalize w3.heap.size=b2 at *
 clear HU
 have HOK0:=hid' (show okU c x 0=isOp x.op from rfl)
 rw[←HOK0.out]
 clear HOK0
 go_loopw [7,32] (fun ov iv wr=>∃ j:Nat,iv=.int .i64 (j:Int)∧j≤3∧ov=.bool (okU c x j)∧wr=w4) (fun _ iv _=>3 - (intOf iv).toNat)
 case atStart=>exact⟨0,rfl,by omega,rfl,rfl⟩
 case round=>
  obtain⟨j,rfl,hj,rfl,rfl⟩:=hrel
  rcases(by omega:j=0∨j=1∨j=2∨j=3) with rfl|rfl|rfl|rfl
  ·have y0:=zaa H4.out.sl 0 _ rfl
   have f0:=zaa H4.out.fb 0 _ rfl
   have c0:=zaa H4.out.is.cb 0 _ rfl
   have HS:=hid' (show okU c x 1=(okU c x 0 && fld (useA x.op) x.a c.regs) from rfl)
   have HC:=hid' (show Calls Tryz.prog 56 #[.string (Utf8.encode 65),.pointer (some ⟨b2,0,none⟩)] wr (Ret (.bool (useA x.op)) wr) by rw[←HUA.out,show Utf8.encode 65=⟨#[65]⟩ by decide +kernel]; exact zkk (usesT x.op) 65 b2 wr f0)
   obtain⟨q,hq⟩:∃ q,Hid (q=okU c x 1):=⟨_,rfl⟩
   rw[←hq.out] at HS
   generalize okU c x 0=p at *
   obtain⟨u,hu⟩:∃ u,Hid (u=useA x.op):=⟨_,rfl⟩
   rw[←hu.out] at HS HC
   clear hu
   generalize x.a=r at *
   go_wp2_with fail
   refine HC.out.mono ?_
   rintro e w5 ⟨rfl,rfl⟩
   cases u with
   |true=>
    cases p with
    |false=>
     have HQ:=hid' (show q=false by rw[HS.out]; rfl)
     go_wp2_with fail
     go_roundw
     case rel=>exact⟨1,by go_num,by omega,by rw[←hq.out,HQ.out],by first|rfl|trivial⟩
     case measure=>simp[intOf]
    |true=>
     by_cases h1:0≤r
     ·have g1:decide (0≤r)=true:=decide_eq_true h1
      have HQ:=hid' (show q=decide (r<c.regs) by rw[HS.out]; unfold fld; simp[h1])
      clear h1
      go_wp2_with fail
      go_roundw
      case rel=>exact⟨1,by go_num,by omega,by rw[←hq.out,HQ.out],by first|rfl|trivial⟩
      case measure=>simp[intOf]
     ·have g1:decide (0≤r)=false:=decide_eq_false h1
      have HQ:=hid' (show q=false by rw[HS.out]; unfold fld; simp[h1])
      clear h1
      go_wp2_with fail
      go_roundw
      case rel=>exact⟨1,by go_num,by omega,by rw[←hq.out,HQ.out],by first|rfl|trivial⟩
      case measure=>simp[intOf]
   |false=>
    cases p with
    |false=>
     have HQ:=hid' (show q=false by rw[HS.out]; rfl)
     go_wp2_with fail
     go_roundw
     case rel=>exact⟨1,by go_num,by omega,by rw[←hq.out,HQ.out],by first|rfl|trivial⟩
     case measure=>simp[intOf]
    |true=>
     by_cases h1:r=0
     ·have g1:(r == 0)=true:=by rw[h1]; rfl
      have HQ:=hid' (show q=true by rw[HS.out]; unfold fld; simp[h1])
      clear h1
      go_wp2_with fail
      go_roundw
      case rel=>exact⟨1,by go_num,by omega,by rw[←hq.out,HQ.out],by first|rfl|trivial⟩
      case measure=>simp[intOf]
     ·have g1:(r == 0)=false:=by rw[beq_eq_false_iff_ne]; exact h1
      have HQ:=hid' (show q=false by rw[HS.out]; unfold fld; simp[h1])
      clear h1
      go_wp2_with fail
      go_roundw
      case rel=>exact⟨1,by go_num,by omega,by rw[←hq.out,HQ.out],by first|rfl|trivial⟩
      case measure=>simp[intOf]
  ·have y0:=zaa H4.out.sl 1 _ rfl
   have f0:=zaa H4.out.fb 0 _ rfl
   have c0:=zaa H4.out.is.cb 0 _ rfl
   have HS:=hid' (show okU c x 2=(okU c x 1 && fld (useB x.op) x.b c.regs) from rfl)
   have HC:=hid' (show Calls Tryz.prog 56 #[.string (Utf8.encode 66),.pointer (some ⟨b2,0,none⟩)] wr (Ret (.bool (useB x.op)) wr) by rw[←HUB.out,show Utf8.encode 66=⟨#[66]⟩ by decide +kernel]; exact zkk (usesT x.op) 66 b2 wr f0)
   obtain⟨q,hq⟩:∃ q,Hid (q=okU c x 2):=⟨_,rfl⟩
   rw[←hq.out] at HS
   generalize okU c x 1=p at *
   obtain⟨u,hu⟩:∃ u,Hid (u=useB x.op):=⟨_,rfl⟩
   rw[←hu.out] at HS HC
   clear hu
   generalize x.b=r at *
   go_wp2_with fail
   refine HC.out.mono ?_
   rintro e w5 ⟨rfl,rfl⟩
   cases u with
   |true=>
    cases p with
    |false=>
     have HQ:=hid' (show q=false by rw[HS.out]; rfl)
     go_wp2_with fail
     go_roundw
     case rel=>exact⟨2,by go_num,by omega,by rw[←hq.out,HQ.out],by first|rfl|trivial⟩
     case measure=>simp[intOf]
    |true=>
     by_cases h1:0≤r
     ·have g1:decide (0≤r)=true:=decide_eq_true h1
      have HQ:=hid' (show q=decide (r<c.regs) by rw[HS.out]; unfold fld; simp[h1])
      clear h1
      go_wp2_with fail
      go_roundw
      case rel=>exact⟨2,by go_num,by omega,by rw[←hq.out,HQ.out],by first|rfl|trivial⟩
      case measure=>simp[intOf]
     ·have g1:decide (0≤r)=false:=decide_eq_false h1
      have HQ:=hid' (show q=false by rw[HS.out]; unfold fld; simp[h1])
      clear h1
      go_wp2_with fail
      go_roundw
      case rel=>exact⟨2,by go_num,by omega,by rw[←hq.out,HQ.out],by first|rfl|trivial⟩
      case measure=>simp[intOf]
   |false=>
    cases p with
    |false=>
     have HQ:=hid' (show q=false by rw[HS.out]; rfl)
     go_wp2_with fail
     go_roundw
     case rel=>exact⟨2,by go_num,by omega,by rw[←hq.out,HQ.out],by first|rfl|trivial⟩
     case measure=>simp[intOf]
    |true=>
     by_cases h1:r=0
     ·have g1:(r == 0)=true:=by rw[h1]; rfl
      have HQ:=hid' (show q=true by rw[HS.out]; unfold fld; simp[h1])
      clear h1
      go_wp2_with fail
      go_roundw
      case rel=>exact⟨2,by go_num,by omega,by rw[←hq.out,HQ.out],by first|rfl|trivial⟩
      case measure=>simp[intOf]
     ·have g1:(r == 0)=false:=by rw[beq_eq_false_iff_ne]; exact h1
      have HQ:=hid' (show q=false by rw[HS.out]; unfold fld; simp[h1])
      clear h1
      go_wp2_with fail
      go_roundw
      case rel=>exact⟨2,by go_num,by omega,by rw[←hq.out,HQ.out],by first|rfl|trivial⟩
      case measure=>simp[intOf]
  ·have y0:=zaa H4.out.sl 2 _ rfl
   have f0:=zaa H4.out.fb 0 _ rfl
   have c0:=zaa H4.out.is.cb 0 _ rfl
   have HS:=hid' (show okU c x 3=(okU c x 2 && fld (useC x.op) x.c c.regs) from rfl)
   have HC:=hid' (show Calls Tryz.prog 56 #[.string (Utf8.encode 67),.pointer (some ⟨b2,0,none⟩)] wr (Ret (.bool (useC x.op)) wr) by rw[←HUC.out,show Utf8.encode 67=⟨#[67]⟩ by decide +kernel]; exact zkk (usesT x.op) 67 b2 wr f0)
   obtain⟨q,hq⟩:∃ q,Hid (q=okU c x 3):=⟨_,rfl⟩
   rw[←hq.out] at HS
   generalize okU c x 2=p at *
   obtain⟨u,hu⟩:∃ u,Hid (u=useC x.op):=⟨_,rfl⟩
   rw[←hu.out] at HS HC
   clear hu
   generalize x.c=r at *
   go_wp2_with fail
   refine HC.out.mono ?_
   rintro e w5 ⟨rfl,rfl⟩
   cases u with
   |true=>
    cases p with
    |false=>
     have HQ:=hid' (show q=false by rw[HS.out]; rfl)
     go_wp2_with fail
     go_roundw
     case rel=>exact⟨3,by go_num,by omega,by rw[←hq.out,HQ.out],by first|rfl|trivial⟩
     case measure=>simp[intOf]
    |true=>
     by_cases h1:0≤r
     ·have g1:decide (0≤r)=true:=decide_eq_true h1
      have HQ:=hid' (show q=decide (r<c.regs) by rw[HS.out]; unfold fld; simp[h1])
      clear h1
      go_wp2_with fail
      go_roundw
      case rel=>exact⟨3,by go_num,by omega,by rw[←hq.out,HQ.out],by first|rfl|trivial⟩
      case measure=>simp[intOf]
     ·have g1:decide (0≤r)=false:=decide_eq_false h1
      have HQ:=hid' (show q=false by rw[HS.out]; unfold fld; simp[h1])
      clear h1
      go_wp2_with fail
      go_roundw
      case rel=>exact⟨3,by go_num,by omega,by rw[←hq.out,HQ.out],by first|rfl|trivial⟩
      case measure=>simp[intOf]
   |false=>
    cases p with
    |false=>
     have HQ:=hid' (show q=false by rw[HS.out]; rfl)
     go_wp2_with fail
     go_roundw
     case rel=>exact⟨3,by go_num,by omega,by rw[←hq.out,HQ.out],by first|rfl|trivial⟩
     case measure=>simp[intOf]
    |true=>
     by_cases h1:r=0
     ·have g1:(r == 0)=true:=by rw[h1]; rfl
      have HQ:=hid' (show q=true by rw[HS.out]; unfold fld; simp[h1])
      clear h1
      go_wp2_with fail
      go_roundw
      case rel=>exact⟨3,by go_num,by omega,by rw[←hq.out,HQ.out],by first|rfl|trivial⟩
      case measure=>simp[intOf]
     ·have g1:(r == 0)=false:=by rw[beq_eq_false_iff_ne]; exact h1
      have HQ:=hid' (show q=false by rw[HS.out]; unfold fld; simp[h1])
      clear h1
      go_wp2_with fail
      go_roundw
      case rel=>exact⟨3,by go_num,by omega,by rw[←hq.out,HQ.out],by first|rfl|trivial⟩
      case measure=>simp[intOf]
  ·have f0:=zaa H4.out.fb 0 _ rfl
   have x6:=zaa H4.out.is.xb 6 _ rfl
   have c2:=zaa H4.out.is.cb 2 _ rfl
   have HC:=hid' (show Calls Tryz.prog 56 #[.string ⟨#[84]⟩,.pointer (some ⟨b2,0,none⟩)] wr (Ret (.bool (useT x.op)) wr) by rw[←HUT.out]; exact zkk (usesT x.op) 84 b2 wr f0)
   have HS:=hid' (show okT c (k:Int) x=(okU c x 3 && toOk c (k:Int) x) from rfl)
   have HTO:=hid' (show toOk c (k:Int) x=if useT x.op then decide ((k:Int)<x.to) && decide (x.to<(c.ins.length:Int)) else decide (x.to=0) from rfl)
   obtain⟨q,hq⟩:∃ q,Hid (q=okT c (k:Int) x):=⟨_,rfl⟩
   rw[←hq.out] at HS
   generalize toOk c (k:Int) x=pto at *
   generalize okU c x 3=p at *
   obtain⟨u,hu⟩:∃ u,Hid (u=useT x.op):=⟨_,rfl⟩
   rw[←hu.out] at HTO HC
   clear hu
   go_wp2_with fail
   refine HC.out.mono ?_
   rintro e w5 ⟨rfl,rfl⟩
   clear HC f0
   go_upto_if 61 with(fail)
   go_cut [7] (fun v wx=>v=.bool q∧wx=w5)
   case first=>
    cases p with
    |false=>
     have HQ:=hid' (show q=false by rw[HS.out]; rfl)
     cases u with
     |true=>
      go_wp2_with fail
      go_meet
      exact⟨by rw[HQ.out],by first|rfl|trivial⟩
     |false=>
      go_wp2_with fail
      go_meet
      exact⟨by rw[HQ.out],by first|rfl|trivial⟩
    |true=>
     cases u with
     |true=>
      by_cases h1:(k:Int)<x.to
      ·have g1:decide ((k:Int)<x.to)=true:=decide_eq_true h1
       have HQ:=hid' (show q=decide (x.to<(c.ins.length:Int)) by rw[HS.out,HTO.out]; simp[h1])
       clear h1
       go_wp2_with fail
       go_meet
       exact⟨by rw[HQ.out],by first|rfl|trivial⟩
      ·have g1:decide ((k:Int)<x.to)=false:=decide_eq_false h1
       have HQ:=hid' (show q=false by rw[HS.out,HTO.out]; simp[h1])
       clear h1
       go_wp2_with fail
       go_meet
       exact⟨by rw[HQ.out],by first|rfl|trivial⟩
     |false=>
      by_cases h1:x.to=0
      ·have g1:(x.to == 0)=true:=by rw[h1]; rfl
       have HQ:=hid' (show q=true by rw[HS.out,HTO.out]; simp[h1])
       clear h1
       go_wp2_with fail
       go_meet
       exact⟨by rw[HQ.out],by first|rfl|trivial⟩
      ·have g1:(x.to == 0)=false:=by rw[beq_eq_false_iff_ne]; exact h1
       have HQ:=hid' (show q=false by rw[HS.out,HTO.out]; simp[h1])
       clear h1
       go_wp2_with fail
       go_meet
       exact⟨by rw[HQ.out],by first|rfl|trivial⟩
   case rest=>
    obtain⟨rfl,rfl⟩:=hcut
    clear x6 c2 HTO HS
    have HI:=hid' (show insOk c (k:Int) x=(q && (zcj c (k:Int) x && zcb x)) by rw[hq.out]; exact zzh c (k:Int) x)
    have x0:=zaa H4.out.is.xb 0 _ rfl
    have x4:=zaa H4.out.is.xb 4 _ rfl
    have x5:=zaa H4.out.is.xb 5 _ rfl
    have c1:=zaa H4.out.is.cb 1 _ rfl
    have hw3:(c.waits.length:Int)≤9223372036854775807:=by
     obtain⟨vw',vi',e,⟨p',c',e2,⟨a1,a2⟩, -⟩, -⟩:=H4.out.is.cd
     unfold maxLen at a2; omega
    have hw4:IntKind.i64.wrap ((c.waits.length:Int) - 1)=(c.waits.length:Int) - 1:=IntWalk.i64_in _ (by omega)
    have HB:=hid' H4.out.is.bel
    have hsz:=HKX.out.2.s
    clear hi1 hi2 hib j1 j2 hj hq HUA HUB HUC HUT hw3
    rcases(by omega:x.op=1∨x.op=2∨x.op=3∨x.op=21∨x.op=22∨x.op=27∨x.op=28∨x.op=29∨(x.op≠1∧x.op≠2∧x.op≠3∧x.op≠21∧x.op≠22∧x.op≠27∧x.op≠28∧x.op≠29)) with hop|hop|hop|hop|hop|hop|hop|hop|hop
    ·have q1:(x.op == 1)=true:=by rw[hop]; rfl
     have q2:(x.op == 2)=false:=by rw[hop]; rfl
     have q3:(x.op == 3)=false:=by rw[hop]; rfl
     have q21:(x.op == 21)=false:=by rw[hop]; rfl
     have q22:(x.op == 22)=false:=by rw[hop]; rfl
     have q27:(x.op == 27)=false:=by rw[hop]; rfl
     have q28:(x.op == 28)=false:=by rw[hop]; rfl
     have q29:(x.op == 29)=false:=by rw[hop]; rfl
     have HM:=hid' (show zcj c (k:Int) x=within x.n (-1000000000000000) 1000000000000000 by unfold zcj; simp[hop])
     have HX:=hid' (show zcb x=decide (x.s=⟨#[]⟩) by unfold zcb; simp[hop])
     rw[HM.out,HX.out] at HI
     clear hop HM HX
     cases q with
     |false=>
      have HQ:=hid' (show insOk c (k:Int) x=false by rw[HI.out]; rfl)
      go_wp2_with fail
      go_ret
      refine⟨?_,HB.out⟩
      rw[HQ.out]
      rfl
     |true=>
      by_cases hs:x.s=⟨#[]⟩
      ·rw[hs] at x5
       rw[decide_eq_true hs,Bool.and_true,Bool.true_and] at HI
       clear hs
       have HQ:=HI
       go_wp2_with fail
       refine(zci _ _ _ _).mono ?_
       rintro e w7 ⟨rfl,rfl⟩
       go_wp2_with fail
       go_ret
       refine⟨?_,HB.out⟩
       rw[HQ.out]
       rfl
      ·have hnl:x.s.toList.isEmpty=false:=zbw hs
       rw[decide_eq_false hs,Bool.and_false,Bool.and_false] at HI
       have HQ:=HI
       clear hs
       go_wp2_with fail
       go_ret
       refine⟨?_,HB.out⟩
       rw[HQ.out]
       rfl
    ·have q1:(x.op == 1)=false:=by rw[hop]; rfl
     have q2:(x.op == 2)=true:=by rw[hop]; rfl
     have q3:(x.op == 3)=false:=by rw[hop]; rfl
     have q21:(x.op == 21)=false:=by rw[hop]; rfl
     have q22:(x.op == 22)=false:=by rw[hop]; rfl
     have q27:(x.op == 27)=false:=by rw[hop]; rfl
     have q28:(x.op == 28)=false:=by rw[hop]; rfl
     have q29:(x.op == 29)=false:=by rw[hop]; rfl
     have HM:=hid' (show zcj c (k:Int) x=within x.n 0 3660 by unfold zcj; simp[hop])
     have HX:=hid' (show zcb x=Led.isName x.s by unfold zcb; simp[hop])
     rw[HM.out,HX.out] at HI
     clear hop HM HX
     cases q with
     |false=>
      have HQ:=hid' (show insOk c (k:Int) x=false by rw[HI.out]; rfl)
      go_wp2_with fail
      go_ret
      refine⟨?_,HB.out⟩
      rw[HQ.out]
      rfl
     |true=>
      obtain⟨nm,hnm⟩:∃ nm,Hid (Led.isName x.s=nm):=⟨_,hid' rfl⟩
      rw[hnm.out] at HI
      have HN:=hid' (fun W=>zlk x.s W (by omega))
      rw[hnm.out] at HN
      go_wp2_with fail
      refine(HN.out _).mono ?_
      rintro e w6 ⟨rfl,b6⟩
      have H6:=hid' (H4.out.is.below b6)
      have x4':=zaa H6.out.xb 4 _ rfl
      clear x0 x4 x5 c1 b6
      cases nm with
      |false=>
       have HQ:=hid' (show insOk c (k:Int) x=false by rw[HI.out,Bool.and_false]; rfl)
       go_wp2_with fail
       go_ret
       refine⟨?_,H6.out.bel⟩
       rw[HQ.out]
       rfl
      |true=>
       have HQ:=hid' (show insOk c (k:Int) x=within x.n 0 3660 by rw[HI.out,Bool.and_true,Bool.true_and])
       go_wp2_with fail
       refine(zci _ _ _ _).mono ?_
       rintro e w7 ⟨rfl,rfl⟩
       go_wp2_with fail
       go_ret
       refine⟨?_,H6.out.bel⟩
       rw[HQ.out]
       rfl
    ·have q1:(x.op == 1)=false:=by rw[hop]; rfl
     have q2:(x.op == 2)=false:=by rw[hop]; rfl
     have q3:(x.op == 3)=true:=by rw[hop]; rfl
     have q21:(x.op == 21)=false:=by rw[hop]; rfl
     have q22:(x.op == 22)=false:=by rw[hop]; rfl
     have q27:(x.op == 27)=false:=by rw[hop]; rfl
     have q28:(x.op == 28)=false:=by rw[hop]; rfl
     have q29:(x.op == 29)=false:=by rw[hop]; rfl
     have HM:=hid' (show zcj c (k:Int) x=within x.n 0 3660 by unfold zcj; simp[hop])
     have HX:=hid' (show zcb x=decide (x.s=⟨#[]⟩) by unfold zcb; simp[hop])
     rw[HM.out,HX.out] at HI
     clear hop HM HX
     cases q with
     |false=>
      have HQ:=hid' (show insOk c (k:Int) x=false by rw[HI.out]; rfl)
      go_wp2_with fail
      go_ret
      refine⟨?_,HB.out⟩
      rw[HQ.out]
      rfl
     |true=>
      by_cases hs:x.s=⟨#[]⟩
      ·rw[hs] at x5
       rw[decide_eq_true hs,Bool.and_true,Bool.true_and] at HI
       clear hs
       have HQ:=HI
       go_wp2_with fail
       refine(zci _ _ _ _).mono ?_
       rintro e w7 ⟨rfl,rfl⟩
       go_wp2_with fail
       go_ret
       refine⟨?_,HB.out⟩
       rw[HQ.out]
       rfl
      ·have hnl:x.s.toList.isEmpty=false:=zbw hs
       rw[decide_eq_false hs,Bool.and_false,Bool.and_false] at HI
       have HQ:=HI
       clear hs
       go_wp2_with fail
       go_ret
       refine⟨?_,HB.out⟩
       rw[HQ.out]
       rfl
    ·have q1:(x.op == 1)=false:=by rw[hop]; rfl
     have q2:(x.op == 2)=false:=by rw[hop]; rfl
     have q3:(x.op == 3)=false:=by rw[hop]; rfl
     have q21:(x.op == 21)=true:=by rw[hop]; rfl
     have q22:(x.op == 22)=false:=by rw[hop]; rfl
     have q27:(x.op == 27)=false:=by rw[hop]; rfl
     have q28:(x.op == 28)=false:=by rw[hop]; rfl
     have q29:(x.op == 29)=false:=by rw[hop]; rfl
     have HM:=hid' (show zcj c (k:Int) x=within x.n 0 73048 by unfold zcj; simp[hop])
     have HX:=hid' (show zcb x=decide (x.s=⟨#[]⟩) by unfold zcb; simp[hop])
     rw[HM.out,HX.out] at HI
     clear hop HM HX
     cases q with
     |false=>
      have HQ:=hid' (show insOk c (k:Int) x=false by rw[HI.out]; rfl)
      go_wp2_with fail
      go_ret
      refine⟨?_,HB.out⟩
      rw[HQ.out]
      rfl
     |true=>
      by_cases hs:x.s=⟨#[]⟩
      ·rw[hs] at x5
       rw[decide_eq_true hs,Bool.and_true,Bool.true_and] at HI
       clear hs
       have HQ:=HI
       go_wp2_with fail
       refine(zci _ _ _ _).mono ?_
       rintro e w7 ⟨rfl,rfl⟩
       go_wp2_with fail
       go_ret
       refine⟨?_,HB.out⟩
       rw[HQ.out]
       rfl
      ·have hnl:x.s.toList.isEmpty=false:=zbw hs
       rw[decide_eq_false hs,Bool.and_false,Bool.and_false] at HI
       have HQ:=HI
       clear hs
       go_wp2_with fail
       go_ret
       refine⟨?_,HB.out⟩
       rw[HQ.out]
       rfl
    ·have q1:(x.op == 1)=false:=by rw[hop]; rfl
     have q2:(x.op == 2)=false:=by rw[hop]; rfl
     have q3:(x.op == 3)=false:=by rw[hop]; rfl
     have q21:(x.op == 21)=false:=by rw[hop]; rfl
     have q22:(x.op == 22)=true:=by rw[hop]; rfl
     have q27:(x.op == 27)=false:=by rw[hop]; rfl
     have q28:(x.op == 28)=false:=by rw[hop]; rfl
     have q29:(x.op == 29)=false:=by rw[hop]; rfl
     have HM:=hid' (show zcj c (k:Int) x=within x.n 0 73048 by unfold zcj; simp[hop])
     have HX:=hid' (show zcb x=decide (x.s=⟨#[]⟩) by unfold zcb; simp[hop])
     rw[HM.out,HX.out] at HI
     clear hop HM HX
     cases q with
     |false=>
      have HQ:=hid' (show insOk c (k:Int) x=false by rw[HI.out]; rfl)
      go_wp2_with fail
      go_ret
      refine⟨?_,HB.out⟩
      rw[HQ.out]
      rfl
     |true=>
      by_cases hs:x.s=⟨#[]⟩
      ·rw[hs] at x5
       rw[decide_eq_true hs,Bool.and_true,Bool.true_and] at HI
       clear hs
       have HQ:=HI
       go_wp2_with fail
       refine(zci _ _ _ _).mono ?_
       rintro e w7 ⟨rfl,rfl⟩
       go_wp2_with fail
       go_ret
       refine⟨?_,HB.out⟩
       rw[HQ.out]
       rfl
      ·have hnl:x.s.toList.isEmpty=false:=zbw hs
       rw[decide_eq_false hs,Bool.and_false,Bool.and_false] at HI
       have HQ:=HI
       clear hs
       go_wp2_with fail
       go_ret
       refine⟨?_,HB.out⟩
       rw[HQ.out]
       rfl
    ·have q1:(x.op == 1)=false:=by rw[hop]; rfl
     have q2:(x.op == 2)=false:=by rw[hop]; rfl
     have q3:(x.op == 3)=false:=by rw[hop]; rfl
     have q21:(x.op == 21)=false:=by rw[hop]; rfl
     have q22:(x.op == 22)=false:=by rw[hop]; rfl
     have q27:(x.op == 27)=true:=by rw[hop]; rfl
     have q28:(x.op == 28)=false:=by rw[hop]; rfl
     have q29:(x.op == 29)=false:=by rw[hop]; rfl
     have HM:=hid' (show zcj c (k:Int) x=decide (x.n=0) by unfold zcj; simp[hop])
     have HX:=hid' (show zcb x=Led.isCur x.s by unfold zcb; simp[hop])
     rw[HM.out,HX.out] at HI
     clear hop HM HX
     cases q with
     |false=>
      have HQ:=hid' (show insOk c (k:Int) x=false by rw[HI.out]; rfl)
      go_wp2_with fail
      go_ret
      refine⟨?_,HB.out⟩
      rw[HQ.out]
      rfl
     |true=>
      by_cases hn:x.n=0
      ·have g1:(x.n == 0)=true:=by rw[hn]; rfl
       have HQ:=hid' (show insOk c (k:Int) x=Led.isCur x.s by rw[HI.out,decide_eq_true hn,Bool.true_and,Bool.true_and])
       clear hn
       go_wp2_with fail
       refine(ztl x.s _ (by omega)).mono ?_
       rintro e w6 ⟨rfl,b6⟩
       have H6:=hid' (H4.out.is.below b6)
       clear b6
       go_wp2_with fail
       go_ret
       refine⟨?_,H6.out.bel⟩
       rw[HQ.out]
       rfl
      ·have g1:(x.n == 0)=false:=by rw[beq_eq_false_iff_ne]; exact hn
       have HQ:=hid' (show insOk c (k:Int) x=false by rw[HI.out,decide_eq_false hn]; rfl)
       clear hn
       go_wp2_with fail
       go_ret
       refine⟨?_,HB.out⟩
       rw[HQ.out]
       rfl
    ·have q1:(x.op == 1)=false:=by rw[hop]; rfl
     have q2:(x.op == 2)=false:=by rw[hop]; rfl
     have q3:(x.op == 3)=false:=by rw[hop]; rfl
     have q21:(x.op == 21)=false:=by rw[hop]; rfl
     have q22:(x.op == 22)=false:=by rw[hop]; rfl
     have q27:(x.op == 27)=false:=by rw[hop]; rfl
     have q28:(x.op == 28)=true:=by rw[hop]; rfl
     have q29:(x.op == 29)=false:=by rw[hop]; rfl
     have HM:=hid' (show zcj c (k:Int) x=within x.n 0 ((c.waits.length:Int) - 1) by unfold zcj; simp[hop])
     have HX:=hid' (show zcb x=decide (x.s=⟨#[]⟩) by unfold zcb; simp[hop])
     rw[HM.out,HX.out] at HI
     clear hop HM HX
     cases q with
     |false=>
      have HQ:=hid' (show insOk c (k:Int) x=false by rw[HI.out]; rfl)
      go_wp2_with fail
      go_ret
      refine⟨?_,HB.out⟩
      rw[HQ.out]
      rfl
     |true=>
      by_cases hs:x.s=⟨#[]⟩
      ·rw[hs] at x5
       rw[decide_eq_true hs,Bool.and_true,Bool.true_and] at HI
       clear hs
       have HQ:=HI
       go_wp2_with fail
       refine(zci _ _ _ _).mono ?_
       rintro e w7 ⟨rfl,rfl⟩
       go_wp2_with fail
       go_ret
       refine⟨?_,HB.out⟩
       rw[HQ.out]
       rfl
      ·have hnl:x.s.toList.isEmpty=false:=zbw hs
       rw[decide_eq_false hs,Bool.and_false,Bool.and_false] at HI
       have HQ:=HI
       clear hs
       go_wp2_with fail
       go_ret
       refine⟨?_,HB.out⟩
       rw[HQ.out]
       rfl
    ·have q1:(x.op == 1)=false:=by rw[hop]; rfl
     have q2:(x.op == 2)=false:=by rw[hop]; rfl
     have q3:(x.op == 3)=false:=by rw[hop]; rfl
     have q21:(x.op == 21)=false:=by rw[hop]; rfl
     have q22:(x.op == 22)=false:=by rw[hop]; rfl
     have q27:(x.op == 27)=false:=by rw[hop]; rfl
     have q28:(x.op == 28)=false:=by rw[hop]; rfl
     have q29:(x.op == 29)=true:=by rw[hop]; rfl
     have HM:=hid' (show zcj c (k:Int) x=(within x.n 0 ((c.waits.length:Int) - 1) && decide ((k:Int)<zbt c x.n)) by unfold zcj; simp[hop])
     have HX:=hid' (show zcb x=decide (x.s=⟨#[]⟩) by unfold zcb; simp[hop])
     rw[HM.out,HX.out] at HI
     clear hop HM HX
     cases q with
     |false=>
      have HQ:=hid' (show insOk c (k:Int) x=false by rw[HI.out]; rfl)
      go_wp2_with fail
      go_ret
      refine⟨?_,HB.out⟩
      rw[HQ.out]
      rfl
     |true=>
      by_cases hs:x.s=⟨#[]⟩
      ·rw[hs] at x5
       rw[decide_eq_true hs,Bool.and_true,Bool.true_and] at HI
       clear hs
       go_wp2_with fail
       refine(zci _ _ _ _).mono ?_
       rintro e w7 ⟨rfl,rfl⟩
       by_cases hw:within x.n 0 ((c.waits.length:Int) - 1)=true
       ·have hn:0≤x.n∧x.n<(c.waits.length:Int):=by unfold within at hw; simp at hw; omega
        have HQ:=hid' (show insOk c (k:Int) x=decide ((k:Int)<zbt c x.n) by rw[HI.out,hw,Bool.true_and])
        rw[hw]
        obtain⟨wt,hwt⟩:∃ wt,c.waits[x.n.toNat]? = some wt:=⟨_,List.getElem?_eq_getElem (by omega)⟩
        rw[show zbt c x.n=wt.entry by unfold zbt; rw[hwt]] at HQ
        obtain⟨wb,wo,rfl,z0, -⟩:=H4.out.is.cd.waitCells hwt
        have hn1:=hn.1
        have hn2:=hn.2
        have g1:decide (0≤x.n)=true:=decide_eq_true hn.1
        have g2:decide (x.n<(c.waits.length:Int))=true:=decide_eq_true hn.2
        clear hn hw hwt
        go_wp2_with fail
        go_ret
        refine⟨?_,HB.out⟩
        rw[HQ.out]
        rfl
       ·have hw:within x.n 0 ((c.waits.length:Int) - 1)=false:=by simpa using hw
        have HQ:=hid' (show insOk c (k:Int) x=false by rw[HI.out,hw,Bool.false_and])
        rw[hw]
        go_wp2_with fail
        go_ret
        refine⟨?_,HB.out⟩
        rw[HQ.out]
        rfl
      ·have hnl:x.s.toList.isEmpty=false:=zbw hs
       rw[decide_eq_false hs,Bool.and_false,Bool.and_false] at HI
       have HQ:=HI
       clear hs
       go_wp2_with fail
       go_ret
       refine⟨?_,HB.out⟩
       rw[HQ.out]
       rfl
    ·have q1:(x.op == 1)=false:=by rw[beq_eq_false_iff_ne]; omega
     have q2:(x.op == 2)=false:=by rw[beq_eq_false_iff_ne]; omega
     have q3:(x.op == 3)=false:=by rw[beq_eq_false_iff_ne]; omega
     have q21:(x.op == 21)=false:=by rw[beq_eq_false_iff_ne]; omega
     have q22:(x.op == 22)=false:=by rw[beq_eq_false_iff_ne]; omega
     have q27:(x.op == 27)=false:=by rw[beq_eq_false_iff_ne]; omega
     have q28:(x.op == 28)=false:=by rw[beq_eq_false_iff_ne]; omega
     have q29:(x.op == 29)=false:=by rw[beq_eq_false_iff_ne]; omega
     have HM:=hid' (show zcj c (k:Int) x=decide (x.n=0) by unfold zcj; simp[hop.1,hop.2.1,hop.2.2.1,hop.2.2.2.1,hop.2.2.2.2.1,hop.2.2.2.2.2.2.1,hop.2.2.2.2.2.2.2])
     have HX:=hid' (show zcb x=decide (x.s=⟨#[]⟩) by unfold zcb; simp[hop.2.1,hop.2.2.2.2.2.1])
     rw[HM.out,HX.out] at HI
     clear hop HM HX
     cases q with
     |false=>
      have HQ:=hid' (show insOk c (k:Int) x=false by rw[HI.out]; rfl)
      go_wp2_with fail
      go_ret
      refine⟨?_,HB.out⟩
      rw[HQ.out]
      rfl
     |true=>
      by_cases hs:x.s=⟨#[]⟩
      ·rw[hs] at x5
       rw[decide_eq_true hs,Bool.and_true,Bool.true_and] at HI
       clear hs
       have HQ:=hid' (show insOk c (k:Int) x=(x.n == 0) by rw[HI.out]; by_cases hn:x.n=0<;>simp[hn])
       go_wp2_with fail
       go_ret
       refine⟨?_,HB.out⟩
       rw[HQ.out]
       rfl
      ·have hnl:x.s.toList.isEmpty=false:=zbw hs
       rw[decide_eq_false hs,Bool.and_false,Bool.and_false] at HI
       have HQ:=HI
       clear hs
       go_wp2_with fail
       go_ret
       refine⟨?_,HB.out⟩
       rw[HQ.out]
       rfl
end
section
open Go.RowKit
open Gen
set_option maxRecDepth 100000
theorem zwt (n:Int)(m b:Nat)(w:World)(hm:w.cell? ⟨b,0,none⟩=some (.int .i64 (m:Int))):Calls Tryz.prog 26 #[.int .i64 n,.pointer (some ⟨b,0,none⟩)] w (Ret (.bool (decide (0≤n) && decide (n<(m:Int)))) w):=by
 by_cases h1:0≤n
 ·have g1:decide (0≤n)=true:=decide_eq_true h1
  have e:=hid' (show(decide (0≤n) && decide (n<(m:Int)))=decide (n<(m:Int)) by rw[g1,Bool.true_and])
  rw[e.out]
  clear h1
  go_enter Tryz.func26,Tryz.ntmps26
  go_wp2_with fail
  go_ret
  exact⟨rfl,rfl⟩
 ·have g1:decide (0≤n)=false:=decide_eq_false h1
  have e:=hid' (show(decide (0≤n) && decide (n<(m:Int)))=false by rw[g1,Bool.false_and])
  rw[e.out]
  clear h1
  go_enter Tryz.func26,Tryz.ntmps26
  go_wp2_with fail
  go_ret
  exact⟨rfl,rfl⟩
structure GSt (w:World)(b0 b3:Nat)(vw vi:Value)(c:Gen.Cd)(W:World):Prop where
 r:RSt w b0 vw vi c W
 nb:W.heap[b3]? = some (.cells #[.int .i64 (c.ins.length:Int)] 3 (0,0))
theorem GSt.below {w:World}{b0 b3:Nat}{vw vi:Value}{c:Gen.Cd}{W W':World}(h:GSt w b0 b3 vw vi c W)(B:Below W.heap.size W W'):GSt w b0 b3 vw vi c W':=⟨h.r.below B,zad B h.nb⟩
theorem zqn {n lo hi:Int}(h:n<lo∨hi<n):within n lo hi=false:=by unfold within; rcases h with h|h<;>simp<;>omega
theorem zoi {n lo hi:Int}(h:lo≤n)(h2:n≤hi):within n lo hi=true:=by unfold within; simp[h,h2]
def zex (x:Gen.Wt):Bool:=decide (¬(x.label=⟨#[]⟩∧x.first=0∧x.second=0))
theorem zwl (c:Gen.Cd)(x:Gen.Wt):zeq c x=(place c x.entry && (within x.day 0 73048 && (bif zex x then Led.isName x.label && (place c x.first && place c x.second) else true))):=by
 unfold zeq
 by_cases hl:x.label=⟨#[]⟩
 ·rw[if_pos hl,hl,show Led.isName (⟨#[]⟩:ByteArray)=false from rfl,Bool.false_and]
  unfold zex
  by_cases hf:x.first=0<;>by_cases hs:x.second=0<;>simp[hl,hf,hs]
 ·rw[if_neg hl,show zex x=true by unfold zex; simp[hl]]
  rfl
set_option maxHeartbeats 8000000 in
theorem zgn (v:Value)(c:Gen.Cd)(w:World)(h:CdAt w v c):Calls Tryz.prog 11 #[v] w (zaj (.bool (Gen.right c)) w):=by
 have hcd:=h
 obtain⟨vw,vi,rfl,⟨pw,cw,rfl,⟨hw1,hw2⟩, -⟩,⟨pi,ci,rfl,⟨hi1,hi2⟩, -⟩,hr⟩:=h
 have B0:=(Below.refl w.heap.size w).alloc (Nat.le_refl _) (.cells #[.int .i64 c.regs,.slice pw c.waits.length cw,.slice pi c.ins.length ci] 29)
 have HS:=hid' (show RSt w w.heap.size _ _ c _ from⟨B0,heap_alloc_new w _,hcd.below B0⟩)
 have hi3:(c.ins.length:Int)≤9223372036854775807:=by unfold maxLen at hi2; omega
 have hw3:(c.waits.length:Int)≤9223372036854775807:=by unfold maxLen at hw2; omega
 have HIN:=hid' hi3
 have HWN:=hid' hw3
 clear hcd B0 hi2 hw2 hi3 hw3
 go_enter Tryz.func11,Tryz.ntmps11
 go_upto_region 1 with(fail)
 obtain⟨b0,hb0⟩:∃ b0,b0=w.heap.size:=⟨_,rfl⟩
 rw[←hb0] at HS ⊢
 clear hb0
 generalize w.alloc (.cells #[.int .i64 c.regs,.slice pw c.waits.length cw,.slice pi c.ins.length ci] 29)=w2 at *
 have c0:=zaa HS.out.cb 0 _ rfl
 have c1:=zaa HS.out.cb 1 _ rfl
 have c2:=zaa HS.out.cb 2 _ rfl
 have HG:=hid' (show GSt w b0 w2.heap.size _ _ c (w2.alloc (.cells #[.int .i64 (c.ins.length:Int)] 3)) from⟨HS.out.below ((Below.refl _ _).alloc (Nat.le_refl _) _),heap_alloc_new _ _⟩)
 go_upto_region 2 with(fail)
 clear c0 c1 c2 HS
 generalize w2.alloc (.cells #[.int .i64 (c.ins.length:Int)] 3)=w3 at *
 generalize w2.heap.size=b3 at *
 have c0:=zaa HG.out.r.cb 0 _ rfl
 have c1:=zaa HG.out.r.cb 1 _ rfl
 have c2:=zaa HG.out.r.cb 2 _ rfl
 have c3:=zaa HG.out.nb 0 _ rfl
 have HBAD:=hid' (fun hh=>zwr (c:=c) hh)
 by_cases h1:c.regs<0∨256<c.regs
 ·have g1:within c.regs 0 256=false:=zqn h1
  have HW:=hid' (HBAD.out (by rcases h1 with h|h; exact .inl h; exact .inr (.inl h)))
  clear h1
  go_wp2_with (first|(go_at_call 25; refine(zci _ _ _ _).mono ?_; rintro e w' ⟨rfl,rfl⟩))
  go_ret
  refine⟨?_,HG.out.r.bel⟩
  rw[HW.out]
  rfl
 have g1:within c.regs 0 256=true:=zoi (by omega) (by omega)
 by_cases h3:250<c.waits.length
 ·have g3:decide (250<c.waits.length)=true:=decide_eq_true h3
  have g3i:decide ((250:Int)<(c.waits.length:Int))=true:=decide_eq_true (by omega)
  have HW:=hid' (HBAD.out (.inr (.inr (.inl h3))))
  clear h1 h3
  go_wp2_with (first|(go_at_call 25; refine(zci _ _ _ _).mono ?_; rintro e w' ⟨rfl,rfl⟩))
  go_ret
  refine⟨?_,HG.out.r.bel⟩
  rw[HW.out]
  rfl
 have g3:decide (250<c.waits.length)=false:=decide_eq_false h3
 have g3i:decide ((250:Int)<(c.waits.length:Int))=false:=decide_eq_false (by omega)
 by_cases h4:c.ins.length<1∨16384<c.ins.length
 ·have g4:within (c.ins.length:Int) 1 16384=false:=zqn (by omega)
  have HW:=hid' (HBAD.out (by rcases h4 with h|h; exact .inr (.inr (.inr (.inl h))); exact .inr (.inr (.inr (.inr (.inl h))))))
  clear h1 h3 h4
  go_wp2_with (first|(go_at_call 25; refine(zci _ _ _ _).mono ?_; rintro e w' ⟨rfl,rfl⟩))
  go_ret
  refine⟨?_,HG.out.r.bel⟩
  rw[HW.out]
  rfl
 have g4:within (c.ins.length:Int) 1 16384=true:=zoi (by omega) (by omega)
 obtain⟨y,hy⟩:∃ y,c.ins[c.ins.length - 1]? = some y:=⟨_,List.getElem?_eq_getElem (by omega)⟩
 have hlast:=zzc hy
 obtain⟨ib,io,rfl,z0⟩:=HG.out.r.cd.insCells hy
 have v1:IntKind.i64.wrap ((c.ins.length:Int) - 1)=(c.ins.length:Int) - 1:=IntWalk.i64_in _ (by omega)
 have v2:(0:Int)≤(c.ins.length:Int) - 1:=by omega
 have v3:(1:Int)≤(c.ins.length:Int):=by omega
 have v4:(c.ins.length:Int) - 1<(c.ins.length:Int):=by omega
 have v5:((c.ins.length:Int) - 1).toNat=c.ins.length - 1:=by omega
 by_cases h6:y.op=30
 case neg=>
  have q1:(y.op == 30)=false:=by rw[beq_eq_false_iff_ne]; exact h6
  have q2:(y.op != 30)=true:=by rw[bne_iff_ne]; exact h6
  have HW:=hid' (HBAD.out (.inr (.inr (.inr (.inr (.inr (by rw[hlast]; exact h6)))))))
  clear h1 h3 h4 h6 hy hlast
  go_wp2_with (first|(go_at_call 25; refine(zci _ _ _ _).mono ?_; rintro e w' ⟨rfl,rfl⟩))
  go_ret
  refine⟨?_,HG.out.r.bel⟩
  rw[HW.out]
  rfl
 have q1:(y.op == 30)=true:=by rw[h6]; rfl
 have q2:(y.op != 30)=false:=by rw[h6]; rfl
 have HHEAD:=hid' (show(0≤c.regs∧c.regs≤256)∧c.waits.length≤250∧1≤c.ins.length∧c.ins.length≤16384∧zhl c.ins=30 from⟨⟨by omega,by omega⟩,by omega,by omega,by omega,by rw[hlast]; exact h6⟩)
 have HW0:=hid' (show ∀ j,j<0→∀ x,c.waits[j]? = some x→zeq c x=true from fun j hj=>by omega)
 clear h1 h3 h4 h6 hy hlast
 go_wp2_with (first|(go_at_call 25; refine(zci _ _ _ _).mono ?_; rintro e w' ⟨rfl,rfl⟩))
 go_loopw [41] (fun iv wr=>∃ i:Nat,iv=.int .i64 (i:Int)∧i≤c.waits.length∧Hid (∀ j,j<i→∀ x,c.waits[j]? = some x→zeq c x=true)∧Hid (GSt w b0 b3 (.slice pw c.waits.length cw) (.slice (some ⟨ib,io,none⟩) c.ins.length ci) c wr)) (fun iv _=>c.waits.length - (intOf iv).toNat)
 case atStart=>exact⟨0,rfl,Nat.zero_le _,HW0,HG⟩
 case round=>
  obtain⟨i,rfl,hi,HA,HR⟩:=hrel
  clear c0 c1 c2 c3 z0
  have c0:=zaa HR.out.r.cb 0 _ rfl
  have c1:=zaa HR.out.r.cb 1 _ rfl
  have c2:=zaa HR.out.r.cb 2 _ rfl
  have c3:=zaa HR.out.nb 0 _ rfl
  by_cases hin:i<c.waits.length
  ·obtain⟨x,hx⟩:∃ x,c.waits[i]? = some x:=⟨_,List.getElem?_eq_getElem hin⟩
   obtain⟨wb,wo,rfl,⟨y0,y1,y2,y3,y4⟩,hwf⟩:=HR.out.r.cd.waitCells hx
   have hwn:=HWN.out
   have j1:(0:Int)≤(i:Int):=by omega
   have j2:(i:Int)<(c.waits.length:Int):=by omega
   have wi:IntKind.i64.wrap ((i:Int)+1)=(i:Int)+1:=IntWalk.i64_in _ (by omega)
   have HX:=hid' (And.intro hx hwf)
   have HI:=hid' hin
   clear hx hwf hin
   go_upto_region 8 with(fail)
   have B6:=(Below.refl wr.heap.size wr).alloc (Nat.le_refl _) (.cells #[.int .i64 x.entry,.int .i64 x.day,.string x.label,.int .i64 x.first,.int .i64 x.second] 76)
   have H6:=hid' (show GSt w b0 b3 _ _ c _∧qgl _ wr.heap.size x from⟨HR.out.below B6,heap_alloc_new wr _⟩)
   clear c0 c1 c2 c3 y0 y1 y2 y3 y4 B6 HR
   generalize wr.alloc (.cells #[.int .i64 x.entry,.int .i64 x.day,.string x.label,.int .i64 x.first,.int .i64 x.second] 76)=w6 at *
   generalize wr.heap.size=b6 at *
   have z0:=zaa H6.out.2 0 _ rfl
   have z1:=zaa H6.out.2 1 _ rfl
   have z2:=zaa H6.out.2 2 _ rfl
   have z3:=zaa H6.out.2 3 _ rfl
   have z4:=zaa H6.out.2 4 _ rfl
   go_cut [7] (fun v wx=>v=.bool (zex x)∧wx=w6)
   case first=>
    by_cases hl:x.label=⟨#[]⟩
    ·rw[hl] at z2
     by_cases hf:x.first=0
     ·rw[hf] at z3
      by_cases hs:x.second=0
      ·rw[hs] at z4
       have HN:=hid' (show zex x=false by unfold zex; simp[hl,hf,hs])
       clear hl hf hs
       go_wp2_with fail
       go_meet
       exact⟨by rw[HN.out],rfl⟩
      ·have HN:=hid' (show zex x=true by unfold zex; simp[hs])
       have g:(x.second == 0)=false:=by rw[beq_eq_false_iff_ne]; exact hs
       clear hl hf hs
       go_wp2_with fail
       go_meet
       exact⟨by rw[HN.out],rfl⟩
     ·have HN:=hid' (show zex x=true by unfold zex; simp[hf])
      have g:(x.first == 0)=false:=by rw[beq_eq_false_iff_ne]; exact hf
      clear hl hf
      go_wp2_with fail
      go_meet
      exact⟨by rw[HN.out],rfl⟩
    ·have HN:=hid' (show zex x=true by unfold zex; simp[hl])
     have hnl:x.label.toList.isEmpty=false:=zbw hl
     clear hl
     go_wp2_with fail
     go_meet
     exact⟨by rw[HN.out],rfl⟩
   case rest=>
    obtain⟨rfl,rfl⟩:=hcut
    clear z0 z1 z2 z3 z4
    have z0:=zaa H6.out.2 0 _ rfl
    have z1:=zaa H6.out.2 1 _ rfl
    have z2:=zaa H6.out.2 2 _ rfl
    have HP:=hid' (fun (n:Int) (W:World) (B:Below wc.heap.size wc W)=>(show Calls Tryz.prog 26 #[.int .i64 n,.pointer (some ⟨b3,0,none⟩)] W (Ret (.bool (place c n)) W) from zwt n c.ins.length b3 W (zaa (zad B H6.out.1.nb) 0 _ rfl)))
    have HIS:=hid' (fun W=>zlk x.label W (by have:=HX.out.2.label; omega))
    have HWO:=hid' (zwl c x)
    obtain⟨ok,hok⟩:∃ ok,Hid (ok=zeq c x):=⟨_,rfl⟩
    rw[←hok.out] at HWO
    have HPE:=hid' (HP.out x.entry)
    have HPF:=hid' (HP.out x.first)
    have HPS:=hid' (HP.out x.second)
    have HWI:=hid' (fun W=>zci x.day 0 73048 W)
    generalize place c x.entry=p1 at *
    generalize place c x.first=p4 at *
    generalize place c x.second=p5 at *
    generalize within x.day 0 73048=p2 at *
    generalize zex x=nm at *
    generalize Led.isName x.label=p3 at *
    clear HP
    go_upto_region 9 with(fail)
    go_cut [85] (fun v wx=>v=.bool (!ok)∧Hid (Below wc.heap.size wc wx))
    case first=>
     cases p1 with
     |false=>
      have HQ:=hid' (show ok=false by rw[HWO.out]; rfl)
      go_wp2_with (first|(go_at_call 26; refine(HPE.out _ (Below.refl _ _)).mono ?_; rintro e w' ⟨rfl,rfl⟩))
      go_meet
      exact⟨by rw[HQ.out]; rfl,Below.refl _ _⟩
     |true=>
      cases p2 with
      |false=>
       have HQ:=hid' (show ok=false by rw[HWO.out]; rfl)
       go_wp2_with (first|(go_at_call 26; refine(HPE.out _ (Below.refl _ _)).mono ?_; rintro e w' ⟨rfl,rfl⟩)|(go_at_call 25; refine(HWI.out _).mono ?_; rintro e w' ⟨rfl,rfl⟩))
       go_meet
       exact⟨by rw[HQ.out]; rfl,Below.refl _ _⟩
      |true=>
       cases nm with
       |false=>
        have HQ:=hid' (show ok=true by rw[HWO.out]; rfl)
        go_wp2_with (first|(go_at_call 26; refine(HPE.out _ (Below.refl _ _)).mono ?_; rintro e w' ⟨rfl,rfl⟩)|(go_at_call 25; refine(HWI.out _).mono ?_; rintro e w' ⟨rfl,rfl⟩))
        go_meet
        exact⟨by rw[HQ.out]; rfl,Below.refl _ _⟩
       |true=>
        go_wp2_with (first|(go_at_call 26; refine(HPE.out _ (Below.refl _ _)).mono ?_; rintro e w' ⟨rfl,rfl⟩)|(go_at_call 25; refine(HWI.out _).mono ?_; rintro e w' ⟨rfl,rfl⟩))
        refine(HIS.out _).mono ?_
        rintro e w8 ⟨rfl,b8⟩
        have y3:=zaa (zad b8 H6.out.2) 3 _ rfl
        have y4:=zaa (zad b8 H6.out.2) 4 _ rfl
        have HF8:=hid' (HPF.out w8 b8)
        have HS8:=hid' (HPS.out w8 b8)
        have B8:=hid' b8
        clear b8 z0 z1 z2
        cases p3 with
        |false=>
         have HQ:=hid' (show ok=false by rw[HWO.out]; rfl)
         go_wp2_with fail
         go_meet
         exact⟨by rw[HQ.out]; rfl,B8⟩
        |true=>
         go_wp2_with fail
         refine HF8.out.mono ?_
         rintro e w9 ⟨rfl,rfl⟩
         cases p4 with
         |false=>
          have HQ:=hid' (show ok=false by rw[HWO.out]; rfl)
          go_wp2_with fail
          go_meet
          exact⟨by rw[HQ.out]; rfl,B8⟩
         |true=>
          have HQ:=hid' (show ok=p5 by rw[HWO.out]; rfl)
          go_wp2_with fail
          refine HS8.out.mono ?_
          rintro e w10 ⟨rfl,rfl⟩
          go_wp2_with fail
          go_meet
          exact⟨by rw[HQ.out],B8⟩
    case rest=>
     obtain⟨rfl,hb⟩:=hcut
     have HR2:=hid' (H6.out.1.below hb.out)
     clear hb z0 z1 z2 HIS HPE HPF HPS HWI H6 HWO
     cases ok with
     |false=>
      have HW:=hid' (zwq HX.out.1 hok.out.symm)
      go_wp2_with fail
      go_ret
      refine⟨?_,HR2.out.r.bel⟩
      rw[HW.out]
      rfl
     |true=>
      have HA2:=hid' (show ∀ j,j<i+1→∀ z,c.waits[j]? = some z→zeq c z=true from fun j hj z hz=>by
       rcases Nat.lt_or_ge j i with h1|h1
       ·exact HA.out j h1 z hz
       ·obtain rfl:j=i:=by omega
        have:=HX.out.1
        rw[hz] at this
        cases this
        exact hok.out.symm)
      go_wp2_with fail
      go_roundw
      case rel=>exact⟨i+1,by go_num,by have:=HI.out; omega,HA2,HR2⟩
      case measure=>have:=HI.out; simp[intOf]; omega
  ·obtain rfl:i=c.waits.length:=by omega
   have g9:decide (c.waits.length<c.waits.length)=false:=by simp
   have HI0:=hid' (show ∀(j:Nat),j<0→∀ x,c.ins[j]? = some x→insOk c (j:Int) x=true from fun j hj=>by omega)
   clear hin
   go_wp2_with fail
   go_loopw [90] (fun iv wz=>∃ i:Nat,iv=.int .i64 (i:Int)∧i≤c.ins.length∧Hid (∀(j:Nat),j<i→∀ x,c.ins[j]? = some x→insOk c (j:Int) x=true)∧Hid (GSt w b0 b3 (.slice pw c.waits.length cw) (.slice (some ⟨ib,io,none⟩) c.ins.length ci) c wz)) (fun iv _=>c.ins.length - (intOf iv).toNat)
   case atStart=>exact⟨0,rfl,Nat.zero_le _,HI0,HR⟩
   case round=>
    obtain⟨i,rfl,hi,HJ,HV⟩:=hrel
    clear c0 c1 c2 c3
    have c0:=zaa HV.out.r.cb 0 _ rfl
    have c1:=zaa HV.out.r.cb 1 _ rfl
    have c2:=zaa HV.out.r.cb 2 _ rfl
    by_cases hin:i<c.ins.length
    ·obtain⟨x,hx⟩:∃ x,c.ins[i]? = some x:=⟨_,List.getElem?_eq_getElem hin⟩
     have hwn:=HIN.out
     have j1:(0:Int)≤(i:Int):=by omega
     have j2:(i:Int)<(c.ins.length:Int):=by omega
     have wi:IntKind.i64.wrap ((i:Int)+1)=(i:Int)+1:=IntWalk.i64_in _ (by omega)
     have g8:decide (i<c.ins.length)=true:=decide_eq_true hin
     have HX:=hid' hx
     have HI:=hid' hin
     clear hx hin
     go_wp2_with fail
     refine(zpt _ c i x _ HV.out.r.cd HX.out).mono ?_
     rintro e w6 ⟨rfl,b6⟩
     have HR2:=hid' (HV.out.below b6)
     clear b6 c0 c1 c2
     cases hok:insOk c (i:Int) x with
     |false=>
      have HW:=hid' (zyi HX.out hok)
      clear hok
      go_wp2_with fail
      go_ret
      refine⟨?_,HR2.out.r.bel⟩
      rw[HW.out]
      rfl
     |true=>
      have HA2:=hid' (show ∀(j:Nat),j<i+1→∀ z,c.ins[j]? = some z→insOk c (j:Int) z=true from fun j hj z hz=>by
       rcases Nat.lt_or_ge j i with h1|h1
       ·exact HJ.out j h1 z hz
       ·obtain rfl:j=i:=by omega
        have:=HX.out
        rw[hz] at this
        cases this
        exact hok)
      clear hok
      go_wp2_with fail
      go_roundw
      case rel=>exact⟨i+1,by go_num,by have:=HI.out; omega,HA2,HR2⟩
      case measure=>have:=HI.out; simp[intOf]; omega
    ·obtain rfl:i=c.ins.length:=by omega
     have g8:decide (c.ins.length<c.ins.length)=false:=by simp
     obtain⟨k1,k2,k3,k4,k5⟩:=HHEAD.out
     have HW:=hid' (zyj k1 k2 k3 k4 k5 (fun j x hx=>HA.out j (List.getElem?_eq_some_iff.1 hx).1 x hx) (fun j x hx=>HJ.out j (List.getElem?_eq_some_iff.1 hx).1 x hx))
     clear hin k1 k2 k3 k4 k5
     go_wp2_with fail
     go_ret
     refine⟨?_,HV.out.r.bel⟩
     rw[HW.out]
     rfl
end
end Go.Proofs.YtanlmbbalamgkaaGreatDoor

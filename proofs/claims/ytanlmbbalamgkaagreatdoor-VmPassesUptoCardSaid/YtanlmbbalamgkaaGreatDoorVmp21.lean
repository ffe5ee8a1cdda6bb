/- Proved: lemmas and contracts of the functions that the law reaches, part 21 of 35: CauFields, CauCut, CauFieldsT, CauSort, CauArrow, CoLetter, CoType, CoMore, CauLetterT, CauTypeT, CauCheckT, GenIs, GenRI, GenR. Conditions: as each states. -/
import Derived.Test.YtanlmbbalamgkaaGreatDoorVmp14
import Derived.Test.YtanlmbbalamgkaaGreatDoorVmp15
namespace Go.Proofs.YtanlmbbalamgkaaGreatDoor
set_option linter.unusedVariables false
set_option linter.unusedSimpArgs false
section
open Go.RowKit
set_option maxRecDepth 100000
def sortL:List ByteArray:=[⟨#[]⟩,⟨#[62,110]⟩,⟨#[62,98]⟩,⟨#[62,100]⟩,⟨#[62,110]⟩,⟨#[62,100]⟩,⟨#[110,62,110]⟩,⟨#[110,110,62,110]⟩,⟨#[110,110,62,110]⟩,⟨#[110,110,62,110]⟩,⟨#[110,110,62,110]⟩,⟨#[110,110,62,98]⟩,⟨#[110,110,62,98]⟩,⟨#[110,110,62,98]⟩,⟨#[98,62,98]⟩,⟨#[98,98,62,98]⟩,⟨#[98,98,62,98]⟩,⟨#[100,100,62,98]⟩,⟨#[100,110,62,100]⟩,⟨#[100,110,62,100]⟩,⟨#[100,100,62,110]⟩,⟨#[100,100,62,110]⟩,⟨#[98,120,120,62,120]⟩,⟨#[62,99]⟩,⟨#[62,99]⟩,⟨#[99,62,99]⟩,⟨#[110,99,62,99]⟩,⟨#[99,99,62,99]⟩,⟨#[98,99,99,62,99]⟩,⟨#[99,62,99]⟩,⟨#[98,99,62,99]⟩,⟨#[99,99,62,99]⟩]
def scells:Array Value:=(sortL.map Value.string).toArray
theorem wv:scells.size=32:=by simp[scells,sortL]
theorem zh:scells.all (·.oneCell')=true:=by simp[scells,sortL,Value.oneCell']
theorem zfn (i:Nat)(t:ByteArray)(h:sortL[i]? = some t)(w:World):Calls Tryz.prog 140 #[.int .i64 (i:Int)] w (ar (.string t) w):=by
 have hi:i<32:=by have:=(List.getElem?_eq_some_iff.1 h).1; simpa [sortL] using this
 have hc:scells[i]? = some (.string t):=by simp[scells,h]
 have g1:decide ((i:Int)<0)=false:=decide_eq_false (by omega);have g2:decide (32≤(i:Int))=false:=decide_eq_false (by omega);have g3:(0:Int)≤(i:Int)∧(i:Int)<32:=by omega
 have g4:i<32:=by omega
 clear h;go_enter Tryz.func140,Tryz.ntmps140;go_wp2_with (first|(refine wpList_build rfl 181 _ rfl (by kernel_rfl) ?_; refine zag ?_)|fail)
 refine aa ?_;generalize hg:Option.getD (Program.built _ _ _) _=cs;obtain rfl:cs=scells:=by
  rw[←hg];kernel_rfl
 clear hg;go_wp2_with fail
 rw[ma w scells _ _ 32 wv rfl zh];generalize hs:World.setRow _ _ _=ws;have hb:=aa (show Below w.heap.size w ws by rw[←hs]; exact mz w _ _);have A0:ws.cell? ⟨w.heap.size,i,none⟩=some (.string t):=by rw[←hs,zk]; exact hc
 clear hs hc;go_wp2_with fail
 go_ret;exact⟨rfl,hb.out⟩
theorem zvl (x c:UInt8)(w:World):Calls Tryz.prog 161 #[.string ⟨#[c,x]⟩,.string ⟨#[c]⟩] w (ar (.tuple #[.string ⟨#[]⟩,.string ⟨#[x]⟩,.bool true]) w):=by
 have HI:=aa (fun w=>Tryz.stringslite_Index_one ⟨#[c,x]⟩ c w);have e:Lib.indexByte (⟨#[c,x]⟩:ByteArray).data.toList c=0:=by simp[Lib.indexByte]
 rw[e] at HI;clear e;go_enter Tryz.func161,Tryz.ntmps161;go_wp2_with fail
 refine(HI.out _).mono ?_;rintro e w' ⟨rfl,rfl⟩;go_wp2_with fail
 go_region
 all_goals go_wp2_with fail
 all_goals refine bodyPost_ret (results_tmp3 rfl _ _ _) rfl ?_
 all_goals refine⟨?_,by first|exact Below.refl _ _|exact(Below.refl _ _).drew⟩
 all_goals
  have hx:(⟨#[c,x]⟩:ByteArray).extract 1 2=⟨#[x]⟩:=zcc (by simp);change Ending.returned (.tuple #[.string ByteArray.empty,.string ((⟨#[c,x]⟩:ByteArray).extract 1 2),.bool true])=_
  rw[hx];rfl
theorem zmo (x c:UInt8)(w:World):Calls Tryz.prog 139 #[.string ⟨#[c,x]⟩,.string ⟨#[c]⟩] w (ar (.tuple #[.string ⟨#[]⟩,.string ⟨#[x]⟩,.bool true]) w):=by
 have HI:=aa (zvl x c w);go_enter Tryz.func139,Tryz.ntmps139;go_wp2_with fail
 refine HI.out.mono ?_;rintro e w' ⟨rfl,hb⟩;go_wp2_with fail
 refine bodyPost_ret (results_tmp3 rfl _ _ _) rfl ?_;exact⟨rfl,hb⟩
theorem ld (n low A0:Int)(w:World):Calls Tryz.prog 163 #[.int .i64 n,.int .i64 low,.int .i64 A0] w (Ret (.bool (Gen.within n low A0)) w):=by
 by_cases h1:low≤n
 ·have g1:decide (low≤n)=true:=decide_eq_true h1;have e:=aa (show Gen.within n low A0=decide (n≤A0) by unfold Gen.within; rw[g1,Bool.true_and]);clear h1;go_enter Tryz.func163,Tryz.ntmps163;go_wp2_with fail
  go_ret;refine⟨?_,rfl⟩;rw[e.out];rfl
 ·have g1:decide (low≤n)=false:=decide_eq_false h1;have e:=aa (show Gen.within n low A0=false by unfold Gen.within; rw[g1,Bool.false_and]);clear h1;go_enter Tryz.func163,Tryz.ntmps163;go_wp2_with fail
  go_ret;refine⟨?_,rfl⟩;rw[e.out];rfl
theorem zfh (s:ByteArray)(w:World)(hs:s.size≤9223372036854775807):Calls Tryz.prog 141 #[ef 4 0 s] w (ar (.bool (Led.isName s)) w):=by
 unfold ef;have hb:=heap_alloc_new w (.cells #[.int .i64 4,.int .i64 0,.string s,.slice none 0 0] 24);have HB:=aa hb;clear hb;obtain⟨bn,A0⟩:∃ bn,Hid (Led.isName s=bn):=⟨_,aa rfl⟩
 rw[A0.out];have HN:=aa (fun w=>zz s w hs);rw[A0.out] at HN;go_enter Tryz.func141,Tryz.ntmps141;go_wp2_with fail
 refine(HN.out _).mono ?_;rintro e w1 ⟨rfl,b1⟩;have c1:w1.cell? ⟨w.heap.size,1,none⟩=some (.int .i64 0):=(b1.cell (p:=⟨w.heap.size,1,none⟩) (by simp)).trans (ae HB.out).2.1;have hB:=aa (Below.more ((Below.refl w.heap.size w).alloc (Nat.le_refl _) _) b1);clear b1;cases bn with
 |true=>
  go_wp2_with fail
  refine(ld _ _ _ _).mono ?_;rintro e w2 ⟨rfl,rfl⟩;go_wp2_with fail
  go_ret;exact⟨rfl,hB.out⟩
 |false=>
  go_wp2_with fail
  go_ret;exact⟨rfl,hB.out⟩
theorem zgb (s:ByteArray)(w:World)(hs:s.size≤9223372036854775807):Calls Tryz.prog 141 #[ef 24 0 s] w (ar (.bool (Led.isCur s)) w):=by
 unfold ef;have hb:=heap_alloc_new w (.cells #[.int .i64 24,.int .i64 0,.string s,.slice none 0 0] 24);have HB:=aa hb;clear hb;obtain⟨bn,A0⟩:∃ bn,Hid (Led.isCur s=bn):=⟨_,aa rfl⟩
 rw[A0.out];have HN:=aa (fun w=>zha s w hs);rw[A0.out] at HN;go_enter Tryz.func141,Tryz.ntmps141;go_wp2_with fail
 refine(HN.out _).mono ?_;rintro e w1 ⟨rfl,b1⟩;have c1:w1.cell? ⟨w.heap.size,1,none⟩=some (.int .i64 0):=(b1.cell (p:=⟨w.heap.size,1,none⟩) (by simp)).trans (ae HB.out).2.1;have hB:=aa (Below.more ((Below.refl w.heap.size w).alloc (Nat.le_refl _) _) b1);clear b1;cases bn with
 |true=>
  go_wp2_with fail
  go_ret;exact⟨rfl,hB.out⟩
 |false=>
  go_wp2_with fail
  go_ret;exact⟨rfl,hB.out⟩
def ltr (ok:Bool)(x:Int):Int:=bif ok then x else 0
def zyd (ok:Bool)(x:Int):Int:=bif ok then x else 0
theorem zky (s:ByteArray)(w:World)(hs:s.size≤9223372036854775807):Calls Tryz.prog 97 #[ef 4 0 s] w (ar (.int .u8 (ltr (Led.isName s) 110)) w):=by
 unfold ef;have hb:=heap_alloc_new w (.cells #[.int .i64 4,.int .i64 0,.string s,.slice none 0 0] 24);have HB:=aa hb;clear hb;have HS:=aa (fun w=>zfn 4 ⟨#[62,110]⟩ rfl w);have HC:=aa (fun w=>zmo 110 62 w);have HF:=aa (fun w=>zfh s w hs);obtain⟨bn,A0⟩:∃ bn,Hid (Led.isName s=bn):=⟨_,aa rfl⟩
 rw[A0.out] at HF;rw[A0.out];go_enter Tryz.func97,Tryz.ntmps97;go_wp2_with fail
 refine(HS.out _).mono ?_;rintro e w1 ⟨rfl,b1⟩;go_wp2_with fail
 refine(HC.out _).mono ?_;rintro e w2 ⟨rfl,b2⟩;have h2:=((Below.more b1 b2).block w.heap.size (by simp)).trans HB.out;obtain⟨c0,c1,c2,c3⟩:=ae h2;have hB:=aa (Below.more ((Below.refl w.heap.size w).alloc (Nat.le_refl _) _) (Below.more b1 b2));have H2:=aa h2;clear b1 b2 h2;go_wp2_with fail
 refine(HF.out _).mono ?_;rintro e w3 ⟨rfl,b3⟩;obtain⟨d0,d1,d2,d3⟩:=ae ((b3.block w.heap.size (af H2.out)).trans H2.out);have A1:=aa (Below.more hB.out b3);clear b3 c0 c1 c2 c3;cases bn with
 |false=>
  go_wp2_with fail
  go_ret;exact⟨rfl,A1.out⟩
 |true=>
  go_wp2_with fail
  go_loopw [36] (fun iv wr=>iv=.int .i64 0∧wr=w3) (fun _ _=>0)
  case atStart=>exact⟨rfl,rfl⟩
  case round=>
   obtain⟨rfl,rfl⟩:=hrel;go_wp2_with fail
   go_ret;exact⟨rfl,A1.out⟩
theorem zno (s:ByteArray)(w:World)(hs:s.size≤9223372036854775807):Calls Tryz.prog 97 #[ef 24 0 s] w (ar (.int .u8 (ltr (Led.isCur s) 99)) w):=by
 unfold ef;have hb:=heap_alloc_new w (.cells #[.int .i64 24,.int .i64 0,.string s,.slice none 0 0] 24);have HB:=aa hb;clear hb;have HS:=aa (fun w=>zfn 24 ⟨#[62,99]⟩ rfl w);have HC:=aa (fun w=>zmo 99 62 w);have HF:=aa (fun w=>zgb s w hs);obtain⟨bn,A0⟩:∃ bn,Hid (Led.isCur s=bn):=⟨_,aa rfl⟩
 rw[A0.out] at HF;rw[A0.out];go_enter Tryz.func97,Tryz.ntmps97;go_wp2_with fail
 refine(HS.out _).mono ?_;rintro e w1 ⟨rfl,b1⟩;go_wp2_with fail
 refine(HC.out _).mono ?_;rintro e w2 ⟨rfl,b2⟩;have h2:=((Below.more b1 b2).block w.heap.size (by simp)).trans HB.out;obtain⟨c0,c1,c2,c3⟩:=ae h2;have hB:=aa (Below.more ((Below.refl w.heap.size w).alloc (Nat.le_refl _) _) (Below.more b1 b2));have H2:=aa h2;clear b1 b2 h2;go_wp2_with fail
 refine(HF.out _).mono ?_;rintro e w3 ⟨rfl,b3⟩;obtain⟨d0,d1,d2,d3⟩:=ae ((b3.block w.heap.size (af H2.out)).trans H2.out);have A1:=aa (Below.more hB.out b3);clear b3 c0 c1 c2 c3;cases bn with
 |false=>
  go_wp2_with fail
  go_ret;exact⟨rfl,A1.out⟩
 |true=>
  go_wp2_with fail
  go_loopw [36] (fun iv wr=>iv=.int .i64 0∧wr=w3) (fun _ _=>0)
  case atStart=>exact⟨rfl,rfl⟩
  case round=>
   obtain⟨rfl,rfl⟩:=hrel;go_wp2_with fail
   go_ret;exact⟨rfl,A1.out⟩
theorem zgl (s:ByteArray)(w:World)(hs:s.size≤9223372036854775807):Calls Tryz.prog 47 #[ef 4 0 s] w (ar (.tuple #[.int .i64 (zyd (Led.isName s) 0),.bool (Led.isName s)]) w):=by
 unfold ef;have hb:=heap_alloc_new w (.cells #[.int .i64 4,.int .i64 0,.string s,.slice none 0 0] 24);have HB:=aa hb;clear hb;have HL:=aa (fun w=>zky s w hs);have HI:=aa (fun w=>Tryz.strings_IndexByte ⟨#[110,98,100,63,99]⟩ 110 w);obtain⟨bn,A0⟩:∃ bn,Hid (Led.isName s=bn):=⟨_,aa rfl⟩
 rw[A0.out] at HL;rw[A0.out];go_enter Tryz.func47,Tryz.ntmps47;go_wp2_with fail
 refine(zav 4 0 s _).mono ?_;rintro e w1 ⟨rfl,b1⟩;obtain⟨c0,c1,c2,c3⟩:=ae ((b1.block w.heap.size (by simp)).trans HB.out);have hB:=aa (Below.more ((Below.refl w.heap.size w).alloc (Nat.le_refl _) _) b1);clear b1;go_wp2_with fail
 refine(HL.out _).mono ?_;rintro e w2 ⟨rfl,b2⟩;have A1:=aa (Below.more hB.out b2);clear b2;cases bn with
 |false=>
  go_wp2_with fail
  refine bodyPost_ret (results_tmp2 rfl _ _ _) rfl ?_;exact⟨rfl,A1.out⟩
 |true=>
  go_wp2_with fail
  refine(HI.out _).mono ?_;rintro e w3 ⟨rfl,rfl⟩;go_wp2_with fail
  refine bodyPost_ret (results_tmp2 rfl _ _ _) rfl ?_;exact⟨rfl,A1.out⟩
theorem zsw (s:ByteArray)(w:World)(hs:s.size≤9223372036854775807):Calls Tryz.prog 47 #[ef 24 0 s] w (ar (.tuple #[.int .i64 (zyd (Led.isCur s) 4),.bool (Led.isCur s)]) w):=by
 unfold ef;have hb:=heap_alloc_new w (.cells #[.int .i64 24,.int .i64 0,.string s,.slice none 0 0] 24);have HB:=aa hb;clear hb;have HL:=aa (fun w=>zno s w hs);have HI:=aa (fun w=>Tryz.strings_IndexByte ⟨#[110,98,100,63,99]⟩ 99 w);obtain⟨bn,A0⟩:∃ bn,Hid (Led.isCur s=bn):=⟨_,aa rfl⟩
 rw[A0.out] at HL;rw[A0.out];go_enter Tryz.func47,Tryz.ntmps47;go_wp2_with fail
 refine(zav 24 0 s _).mono ?_;rintro e w1 ⟨rfl,b1⟩;obtain⟨c0,c1,c2,c3⟩:=ae ((b1.block w.heap.size (by simp)).trans HB.out);have hB:=aa (Below.more ((Below.refl w.heap.size w).alloc (Nat.le_refl _) _) b1);clear b1;go_wp2_with fail
 refine(HL.out _).mono ?_;rintro e w2 ⟨rfl,b2⟩;have A1:=aa (Below.more hB.out b2);clear b2;cases bn with
 |false=>
  go_wp2_with fail
  refine bodyPost_ret (results_tmp2 rfl _ _ _) rfl ?_;exact⟨rfl,A1.out⟩
 |true=>
  go_wp2_with fail
  refine(HI.out _).mono ?_;rintro e w3 ⟨rfl,rfl⟩;go_wp2_with fail
  refine bodyPost_ret (results_tmp2 rfl _ _ _) rfl ?_;exact⟨rfl,A1.out⟩
end
section
open Go.RowKit
set_option maxRecDepth 100000
theorem zoc (t:ByteArray)(c:UInt8)(i:Nat)(w:World)(hi:Lib.indexByte t.data.toList c=(i:Int))(hl:i+1≤t.size)(hm:t.size≤1000000):Calls Tryz.prog 161 #[.string t,.string ⟨#[c]⟩] w
  (ar (.tuple #[.string (t.extract 0 i),.string (t.extract (i+1) t.size),.bool true]) w):=by
 have HI:=aa (fun w=>Tryz.stringslite_Index_one t c w);rw[hi] at HI;clear hi;have g1:decide ((0:Int)≤(i:Int))=true:=decide_eq_true (by omega);have hw:IntKind.i64.wrap ((i:Int)+1)=(i:Int)+1:=IntWalk.i64_in _ (by omega);go_enter Tryz.func161,Tryz.ntmps161;go_wp2_with fail
 refine(HI.out _).mono ?_;rintro e w' ⟨rfl,rfl⟩;go_wp2_with fail
 go_region
 all_goals go_wp2_with fail
 all_goals refine bodyPost_ret (results_tmp3 rfl _ _ _) rfl ?_
 all_goals exact⟨rfl,by first|exact Below.refl _ _|exact(Below.refl _ _).drew⟩
theorem zka (t:ByteArray)(c:UInt8)(w:World)(hi:Lib.indexByte t.data.toList c = -1):Calls Tryz.prog 161 #[.string t,.string ⟨#[c]⟩] w
  (ar (.tuple #[.string t,.string ⟨#[]⟩,.bool false]) w):=by
 have HI:=aa (fun w=>Tryz.stringslite_Index_one t c w);rw[hi] at HI;clear hi;go_enter Tryz.func161,Tryz.ntmps161;go_wp2_with fail
 refine(HI.out _).mono ?_;rintro e w' ⟨rfl,rfl⟩;go_wp2_with fail
 refine bodyPost_ret (results_tmp3 rfl _ _ _) rfl ?_;exact⟨rfl,Below.refl _ _⟩
theorem zrr (t:ByteArray)(c:UInt8)(i:Nat)(w:World)(hi:Lib.indexByte t.data.toList c=(i:Int))(hl:i+1≤t.size)(hm:t.size≤1000000):Calls Tryz.prog 139 #[.string t,.string ⟨#[c]⟩] w
  (ar (.tuple #[.string (t.extract 0 i),.string (t.extract (i+1) t.size),.bool true]) w):=by
 have HI:=aa (zoc t c i w hi hl hm);clear hi hl hm;go_enter Tryz.func139,Tryz.ntmps139;go_wp2_with fail
 refine HI.out.mono ?_;rintro e w' ⟨rfl,hb⟩;go_wp2_with fail
 refine bodyPost_ret (results_tmp3 rfl _ _ _) rfl ?_;exact⟨rfl,hb⟩
theorem zll (t:ByteArray)(c:UInt8)(w:World)(hi:Lib.indexByte t.data.toList c = -1):Calls Tryz.prog 139 #[.string t,.string ⟨#[c]⟩] w
  (ar (.tuple #[.string t,.string ⟨#[]⟩,.bool false]) w):=by
 have HI:=aa (zka t c w hi);clear hi;go_enter Tryz.func139,Tryz.ntmps139;go_wp2_with fail
 refine HI.out.mono ?_;rintro e w' ⟨rfl,hb⟩;go_wp2_with fail
 refine bodyPost_ret (results_tmp3 rfl _ _ _) rfl ?_;exact⟨rfl,hb⟩
end
section
open Go.RowKit
set_option maxRecDepth 100000
namespace Co
def fields (op n:Int)(s:ByteArray):Bool:=
 bif op == 4 then Led.isName s && Gen.within n (-3660) 3660
 else bif op == 31 then Led.isName s && Gen.within n 0 73048
 else bif op == 24 then Led.isCur s && (n == 0)
 else bif op == 1 then s.toList.isEmpty && Gen.within n (-1000000000000000) 1000000000000000
 else bif op == 2 then s.toList.isEmpty && Gen.within n 0 1
 else bif op == 3 || op == 29 || op == 30 then s.toList.isEmpty && Gen.within n 0 73048
 else bif op == 5 then s.toList.isEmpty && Gen.within n (-3660) 3660
 else s.toList.isEmpty && (n == 0)
end Co
theorem zhw (op n:Int)(s:ByteArray)(p:Option Addr)(len c:Nat)(w:World)(h:op≠4∧op≠31∧op≠24):
  Calls Tryz.prog 141 #[.agg #[.int .i64 op,.int .i64 n,.string s,.slice p len c]] w (ar (.bool (Co.fields op n s)) w):=by
 have hb:=heap_alloc_new w (.cells #[.int .i64 op,.int .i64 n,.string s,.slice p len c] 24);obtain⟨x0,x1,x2,x3⟩:=ae hb;have hB:=aa ((Below.refl w.heap.size w).alloc (Nat.le_refl _) (.cells #[.int .i64 op,.int .i64 n,.string s,.slice p len c] 24));clear hb;have e4:(op == 4)=false:=by simp[h.1]
 have A0:(op == 31)=false:=by simp[h.2.1]
 have A1:(op == 24)=false:=by simp[h.2.2]
 obtain⟨F,hF⟩:∃ F,Hid (Co.fields op n s=F):=⟨_,aa rfl⟩
 rw[hF.out];have H:=aa h;clear h;go_enter Tryz.func141,Tryz.ntmps141;go_wp2_with (refine(ld _ _ _ _).mono ?_; rintro e w' ⟨rfl,rfl⟩)
 all_goals go_ret
 all_goals refine⟨?_,hB.out⟩
 all_goals
  obtain⟨H4,A2,A3⟩:=H.out;rw[←hF.out];simp only[Co.fields,e4,A0,A1, *,cond_true,cond_false,Bool.true_and,Bool.false_and,Bool.or_false,Bool.or_true,Bool.true_or,Bool.false_or,List.isEmpty_iff,List.isEmpty_nil];try first|rfl|simp[*]
theorem zre (n:Int)(s:ByteArray)(p:Option Addr)(len c:Nat)(w:World)(hs:s.size≤9223372036854775807):
  Calls Tryz.prog 141 #[.agg #[.int .i64 4,.int .i64 n,.string s,.slice p len c]] w (ar (.bool (Co.fields 4 n s)) w):=by
 have hb:=heap_alloc_new w (.cells #[.int .i64 4,.int .i64 n,.string s,.slice p len c] 24);have HB:=aa hb;clear hb;obtain⟨bn,A0⟩:∃ bn,Hid (Led.isName s=bn):=⟨_,aa rfl⟩
 have hF:=aa (show Co.fields 4 n s=(bn && Gen.within n (-3660) 3660) by rw[←A0.out]; rfl);rw[hF.out];have HN:=aa (fun w=>zz s w hs);rw[A0.out] at HN;go_enter Tryz.func141,Tryz.ntmps141;go_wp2_with fail
 refine(HN.out _).mono ?_;rintro e w1 ⟨rfl,b1⟩;have c1:w1.cell? ⟨w.heap.size,1,none⟩=some (.int .i64 n):=(b1.cell (p:=⟨w.heap.size,1,none⟩) (by simp)).trans (ae HB.out).2.1;have hB:=aa (Below.more ((Below.refl w.heap.size w).alloc (Nat.le_refl _) _) b1);clear b1;cases bn with
 |true=>
  go_wp2_with (refine(ld _ _ _ _).mono ?_; rintro e w2 ⟨rfl,rfl⟩)
  all_goals go_ret
  all_goals refine⟨?_,hB.out⟩
  all_goals simp[*]
 |false=>
  go_wp2_with fail
  go_ret;exact⟨rfl,hB.out⟩
theorem znz (n:Int)(s:ByteArray)(p:Option Addr)(len c:Nat)(w:World)(hs:s.size≤9223372036854775807):
  Calls Tryz.prog 141 #[.agg #[.int .i64 31,.int .i64 n,.string s,.slice p len c]] w (ar (.bool (Co.fields 31 n s)) w):=by
 have hb:=heap_alloc_new w (.cells #[.int .i64 31,.int .i64 n,.string s,.slice p len c] 24);have HB:=aa hb;clear hb;obtain⟨bn,A0⟩:∃ bn,Hid (Led.isName s=bn):=⟨_,aa rfl⟩
 have hF:=aa (show Co.fields 31 n s=(bn && Gen.within n 0 73048) by rw[←A0.out]; rfl);rw[hF.out];have HN:=aa (fun w=>zz s w hs);rw[A0.out] at HN;go_enter Tryz.func141,Tryz.ntmps141;go_wp2_with fail
 refine(HN.out _).mono ?_;rintro e w1 ⟨rfl,b1⟩;have c1:w1.cell? ⟨w.heap.size,1,none⟩=some (.int .i64 n):=(b1.cell (p:=⟨w.heap.size,1,none⟩) (by simp)).trans (ae HB.out).2.1;have hB:=aa (Below.more ((Below.refl w.heap.size w).alloc (Nat.le_refl _) _) b1);clear b1;cases bn with
 |true=>
  go_wp2_with (refine(ld _ _ _ _).mono ?_; rintro e w2 ⟨rfl,rfl⟩)
  all_goals go_ret
  all_goals refine⟨?_,hB.out⟩
  all_goals simp[*]
 |false=>
  go_wp2_with fail
  go_ret;exact⟨rfl,hB.out⟩
theorem zoa (n:Int)(s:ByteArray)(p:Option Addr)(len c:Nat)(w:World)(hs:s.size≤9223372036854775807):
  Calls Tryz.prog 141 #[.agg #[.int .i64 24,.int .i64 n,.string s,.slice p len c]] w (ar (.bool (Co.fields 24 n s)) w):=by
 have hb:=heap_alloc_new w (.cells #[.int .i64 24,.int .i64 n,.string s,.slice p len c] 24);have HB:=aa hb;clear hb;obtain⟨bn,A0⟩:∃ bn,Hid (Led.isCur s=bn):=⟨_,aa rfl⟩
 have hF:=aa (show Co.fields 24 n s=(bn && (n == 0)) by rw[←A0.out]; rfl);rw[hF.out];have HN:=aa (fun w=>zha s w hs);rw[A0.out] at HN;go_enter Tryz.func141,Tryz.ntmps141;go_wp2_with fail
 refine(HN.out _).mono ?_;rintro e w1 ⟨rfl,b1⟩;have c1:w1.cell? ⟨w.heap.size,1,none⟩=some (.int .i64 n):=(b1.cell (p:=⟨w.heap.size,1,none⟩) (by simp)).trans (ae HB.out).2.1;have hB:=aa (Below.more ((Below.refl w.heap.size w).alloc (Nat.le_refl _) _) b1);clear b1;cases bn with
 |true=>
  go_wp2_with (refine(ld _ _ _ _).mono ?_; rintro e w2 ⟨rfl,rfl⟩)
  all_goals go_ret
  all_goals refine⟨?_,hB.out⟩
  all_goals simp[*]
 |false=>
  go_wp2_with fail
  go_ret;exact⟨rfl,hB.out⟩
theorem zlh (op n:Int)(s:ByteArray)(p:Option Addr)(len c:Nat)(w:World)(hs:s.size≤9223372036854775807):
  Calls Tryz.prog 141 #[.agg #[.int .i64 op,.int .i64 n,.string s,.slice p len c]] w (ar (.bool (Co.fields op n s)) w):=by
 by_cases h4:op=4
 ·subst h4; exact zre n s p len c w hs
 by_cases A0:op=31
 ·subst A0; exact znz n s p len c w hs
 by_cases A1:op=24
 ·subst A1; exact zoa n s p len c w hs
 exact zhw op n s p len c w ⟨h4,A0,A1⟩
end
section
open Go.RowKit
set_option maxRecDepth 100000
def Co.sort (op:Int):ByteArray:=if 0≤op∧op<32 then(sortL[op.toNat]?).getD ⟨#[]⟩ else ⟨#[]⟩
theorem ztg (op:Int)(h:op<0∨32≤op)(w:World):Calls Tryz.prog 140 #[.int .i64 op] w (ar (.string ⟨#[]⟩) w):=by
 rcases h with h|h
 ·have g1:decide (op<0)=true:=decide_eq_true h;clear h;go_enter Tryz.func140,Tryz.ntmps140;go_wp2_with (first|(refine wpList_build rfl 181 _ rfl (by kernel_rfl) ?_; refine zag ?_)|fail)
  refine aa ?_;generalize hg:Option.getD (Program.built _ _ _) _=cs;obtain rfl:cs=scells:=by
   rw[←hg];kernel_rfl
  clear hg;go_wp2_with fail
  rw[ma w scells _ _ 32 wv rfl zh];generalize hs:World.setRow _ _ _=ws;have hb:=aa (show Below w.heap.size w ws by rw[←hs]; exact mz w _ _);clear hs;go_wp2_with fail
  go_ret;exact⟨rfl,hb.out⟩
 ·have g1:decide (op<0)=false:=decide_eq_false (by omega);have g2:decide (32≤op)=true:=decide_eq_true h;clear h;go_enter Tryz.func140,Tryz.ntmps140;go_wp2_with (first|(refine wpList_build rfl 181 _ rfl (by kernel_rfl) ?_; refine zag ?_)|fail)
  refine aa ?_;generalize hg:Option.getD (Program.built _ _ _) _=cs;obtain rfl:cs=scells:=by
   rw[←hg];kernel_rfl
  clear hg;go_wp2_with fail
  rw[ma w scells _ _ 32 wv rfl zh];generalize hs:World.setRow _ _ _=ws;have hb:=aa (show Below w.heap.size w ws by rw[←hs]; exact mz w _ _);clear hs;go_wp2_with fail
  go_ret;exact⟨rfl,hb.out⟩
theorem zth (op:Int)(w:World):Calls Tryz.prog 140 #[.int .i64 op] w (ar (.string (Co.sort op)) w):=by
 by_cases h:0≤op∧op<32
 ·obtain⟨i,rfl⟩:∃ i:Nat,op=(i:Int):=⟨op.toNat,by omega⟩
  have hi:i<sortL.length:=by show i<32; omega
  have e:Co.sort (i:Int)=sortL[i]:=by
   unfold Co.sort;rw[if_pos h,Int.toNat_natCast,List.getElem?_eq_getElem hi];rfl
  rw[e];exact zfn i _ (List.getElem?_eq_getElem hi) w
 ·have e:Co.sort op=⟨#[]⟩:=by unfold Co.sort; rw[if_neg h]
  rw[e];exact ztg op (by omega) w
end
section
open Go.RowKit
namespace Co
def zam (t:ByteArray):Option (List UInt8 × UInt8):=
 match t.data.toList.takeWhile (fun x=>x != 62),t.data.toList.dropWhile (fun x=>x != 62) with
 |l,[_,r]=>some (l,r)
 |_,_=>none
def zgc (t:ByteArray):Bool:=
 match zam t with
 |none=>t.data.toList.isEmpty
 |some (l,r)=>(t.data.toList == l++[62,r]) && (decide (l.length≤3) && !l.contains 62)
theorem ztf:sortL.all zgc=true:=by kernel_rfl
theorem zww (op:Int):zgc (sort op)=true:=by
 unfold sort;split
 ·cases h:sortL[op.toNat]? with
  |none=>rfl
  |some t=>exact List.all_eq_true.1 ztf t (List.mem_of_getElem? h)
 ·rfl
theorem sort_form (op:Int):(sort op=⟨#[]⟩∧zam (sort op)=none)∨∃ l r,sort op=⟨(l++[62,r]).toArray⟩∧l.length≤3∧(62:UInt8)∉l∧zam (sort op)=some (l,r):=by
 have h:=zww op;unfold zgc at h;cases ha:zam (sort op) with
 |none=>
  rw[ha] at h;refine .inl ⟨?_,rfl⟩;have h2:(sort op).data.toList=[]:=List.isEmpty_iff.1 h;have h3:(sort op).data=#[]:=by rw[←Array.toArray_toList (xs:=(sort op).data),h2]
  cases hs:sort op with
  |mk d=>rw[hs] at h3; cases h3; rfl
 |some lr=>
  obtain⟨l,r⟩:=lr;rw[ha] at h;simp only[Bool.and_eq_true,beq_iff_eq,decide_eq_true_eq,Bool.not_eq_true'] at h;obtain⟨h1,h2,h3⟩:=h;refine .inr ⟨l,r,?_,h2,?_,rfl⟩
  ·have h4:(sort op).data=(l++[62,r]).toArray:=by rw[←Array.toArray_toList (xs:=(sort op).data),h1]
   cases hs:sort op with
   |mk d=>rw[hs] at h4; cases h4; rfl
  ·intro hm;rw[List.contains_iff_mem.2 hm] at h3;cases h3
end Co
end
section
open Go.RowKit
namespace Co
def kidLetter (k x y:UInt8):Option UInt8:=
 if y=0 then none
 else if k=120∧y≠99∧(x=0∨x=y) then some y
 else if k=y then some x else none
def ownLetter (r x:UInt8):UInt8:=if r=120 then x else r
mutual
def T.letter:T→UInt8
 | .mk op n s ks=>
  match zam (sort op) with
  |none=>0
  |some (l,r)=>if l.length=ks.length∧fields op n s=true then(match kidsLetter ks l 0 with|none=>0|some x=>ownLetter r x) else 0
def kidsLetter:List T→List UInt8→UInt8→Option UInt8
 | [],_,x=>some x
 |_::_,[],x=>some x
 |t::ks,k::l,x=>match kidLetter k x t.letter with|none=>none|some x'=>kidsLetter ks l x'
end
theorem kidsLetter_step {ks:List T}{l:List UInt8}{i:Nat}{t:T}{k:UInt8}(x:UInt8)(h1:ks[i]? = some t)(h2:l[i]? = some k):
  kidsLetter (ks.drop i) (l.drop i) x=(match kidLetter k x t.letter with|none=>none|some x'=>kidsLetter (ks.drop (i+1)) (l.drop (i+1)) x'):=by
 obtain⟨a1,e1⟩:=List.getElem?_eq_some_iff.1 h1;obtain⟨a2,e2⟩:=List.getElem?_eq_some_iff.1 h2;rw[List.drop_eq_getElem_cons a1,List.drop_eq_getElem_cons a2,e1,e2,kidsLetter]
end Co
end
section
open Go.RowKit
namespace Co
def de (op:Int):Option (List UInt8 × UInt8):=zam (sort op)
theorem want_1:de 1=some ([],110):=by kernel_rfl
theorem want_2:de 2=some ([],98):=by kernel_rfl
theorem want_3:de 3=some ([],100):=by kernel_rfl
theorem want_4:de 4=some ([],110):=by kernel_rfl
theorem want_5:de 5=some ([],100):=by kernel_rfl
theorem want_6:de 6=some ([110],110):=by kernel_rfl
theorem want_7:de 7=some ([110,110],110):=by kernel_rfl
theorem want_8:de 8=some ([110,110],110):=by kernel_rfl
theorem want_9:de 9=some ([110,110],110):=by kernel_rfl
theorem want_10:de 10=some ([110,110],110):=by kernel_rfl
theorem want_11:de 11=some ([110,110],98):=by kernel_rfl
theorem want_12:de 12=some ([110,110],98):=by kernel_rfl
theorem want_13:de 13=some ([110,110],98):=by kernel_rfl
theorem want_14:de 14=some ([98],98):=by kernel_rfl
theorem want_15:de 15=some ([98,98],98):=by kernel_rfl
theorem want_16:de 16=some ([98,98],98):=by kernel_rfl
theorem want_17:de 17=some ([100,100],98):=by kernel_rfl
theorem want_18:de 18=some ([100,110],100):=by kernel_rfl
theorem want_19:de 19=some ([100,110],100):=by kernel_rfl
theorem want_20:de 20=some ([100,100],110):=by kernel_rfl
theorem want_21:de 21=some ([100,100],110):=by kernel_rfl
theorem want_22:de 22=some ([98,120,120],120):=by kernel_rfl
theorem want_23:de 23=some ([],99):=by kernel_rfl
theorem want_24:de 24=some ([],99):=by kernel_rfl
theorem want_25:de 25=some ([99],99):=by kernel_rfl
theorem want_26:de 26=some ([110,99],99):=by kernel_rfl
theorem want_27:de 27=some ([99,99],99):=by kernel_rfl
theorem want_28:de 28=some ([98,99,99],99):=by kernel_rfl
theorem want_29:de 29=some ([99],99):=by kernel_rfl
theorem want_30:de 30=some ([98,99],99):=by kernel_rfl
theorem want_31:de 31=some ([99,99],99):=by kernel_rfl
theorem zso {op:Int}(h:op<1∨31<op):de op=none:=by
 by_cases h0:op=0
 ·subst h0; kernel_rfl
 ·unfold de sort;rw[if_neg (by omega)];kernel_rfl
theorem want_in {op:Int}{lr:List UInt8 × UInt8}(h:de op=some lr):1≤op∧op≤31:=by
 by_cases h0:op<1∨31<op
 ·rw[zso h0] at h; cases h
 ·omega
theorem op_cases {op:Int}(h:1≤op∧op≤31):op=1∨op=2∨op=3∨op=4∨op=5∨op=6∨op=7∨op=8∨op=9∨op=10∨op=11∨op=12∨op=13∨op=14∨op=15∨op=16∨op=17∨op=18∨op=19∨op=20∨op=21∨op=22∨op=23∨op=24∨op=25∨op=26∨op=27∨op=28∨op=29∨op=30∨op=31:=by omega
theorem za {op:Int}{l:List UInt8}{r:UInt8}(h:de op=some (l,r))(A0:op≠22):(∀ k∈l,k≠120∧k≠0)∧r≠120∧r≠0:=by
 rcases op_cases (want_in h) with rfl|rfl|rfl|rfl|rfl|rfl|rfl|rfl|rfl|rfl|rfl|rfl|rfl|rfl|rfl|rfl|rfl|rfl|rfl|rfl|rfl|rfl|rfl|rfl|rfl|rfl|rfl|rfl|rfl|rfl|rfl;all_goals first|exact absurd rfl A0|skip
 all_goals simp only[want_1,want_2,want_3,want_4,want_5,want_6,want_7,want_8,want_9,want_10,want_11,want_12,want_13,want_14,want_15,want_16,want_17,want_18,want_19,want_20,want_21,want_22,want_23,want_24,want_25,want_26,want_27,want_28,want_29,want_30,want_31] at h
 all_goals
  cases h;decide
theorem ut (x:UInt8):∀(ks:List T) (l:List UInt8),(∀ k∈l,k≠120∧k≠0)→l.length=ks.length→kidsLetter ks l x=if ks.map T.letter=l then some x else none
 | [],[],_,_=>by rw[kidsLetter]; rfl
 | [],_::_,_,h=>by cases h
 |_::_,[],_,h=>by cases h
 |t::ks,k::l,hl,he=>by
  obtain⟨h1,h2⟩:=hl k (List.mem_cons_self ..);have ih:=ut x ks l (fun k h=>hl k (List.mem_cons_of_mem _ h)) (by simpa using he);rw[kidsLetter];by_cases e:k=t.letter
  ·have e2:kidLetter k x t.letter=some x:=by
    unfold kidLetter;rw[if_neg (by rw[←e]; exact h2),if_neg (fun h=>h1 h.1),if_pos e]
   rw[e2];simp only[ih,List.map_cons,List.cons.injEq,←e,true_and]
  ·have e2:kidLetter k x t.letter=none:=by
    unfold kidLetter;by_cases h0:t.letter=0
    ·rw[if_pos h0]
    ·rw[if_neg h0,if_neg (fun h=>h1 h.1),if_neg e]
   rw[e2,if_neg (fun h=>e (by simpa using (List.cons.inj h).1.symm))]
theorem zbp {op n:Int}{s:ByteArray}{ks:List T}(h:op≠22):(T.mk op n s ks).letter=match de op with|none=>(0:UInt8)|some (l,r)=>if ks.map T.letter=l∧fields op n s=true then r else 0:=by
 rw[T.letter];show(match de op with|none=>(0:UInt8)|some (l,r)=>if l.length=ks.length∧fields op n s=true then(match kidsLetter ks l 0 with|none=>(0:UInt8)|some x=>ownLetter r x) else 0)=_
 cases hw:de op with
 |none=>rfl
 |some lr=>
  obtain⟨l,r⟩:=lr;obtain⟨h1,h2,h3⟩:=za hw h;show(if l.length=ks.length∧fields op n s=true then(match kidsLetter ks l 0 with|none=>(0:UInt8)|some x=>ownLetter r x) else 0)=if ks.map T.letter=l∧fields op n s=true then r else 0
  by_cases hl:l.length=ks.length
  ·by_cases hf:fields op n s=true
   ·rw[if_pos ⟨hl,hf⟩,ut 0 ks l h1 hl];by_cases hm:ks.map T.letter=l
    ·rw[if_pos hm,if_pos ⟨hm,hf⟩];show ownLetter r 0=r
     unfold ownLetter;rw[if_neg h2]
    ·rw[if_neg hm,if_neg (fun h=>hm h.1)]
   ·rw[if_neg (fun h=>hf h.2),if_neg (fun h=>hf h.2)]
  ·rw[if_neg (fun h=>hl h.1),if_neg (fun h=>hl (by rw[←h.1,List.length_map]))]
theorem zjn (x p:UInt8):kidLetter 98 x p=if p=98 then some x else none:=by
 unfold kidLetter;by_cases h1:p=98
 ·subst h1; simp
 ·by_cases h2:p=0
  ·subst h2; simp
  ·rw[if_neg h2,if_neg (fun e=>absurd e.1 (by decide)),if_neg (fun e=>h1 e.symm),if_neg h1]
theorem zjm (y:UInt8):kidLetter 120 0 y=if y=0∨y=99 then none else some y:=by
 unfold kidLetter;by_cases h1:y=0
 ·rw[if_pos h1,if_pos (.inl h1)]
 ·by_cases h2:y=99
  ·subst h2; decide
  ·rw[if_neg h1,if_pos ⟨rfl,h2,.inl rfl⟩,if_neg (by simp[h1,h2])]
theorem zlc (y z:UInt8)(h0:y≠0)(A0:y≠99)(hz:z≠120):kidLetter 120 y z=if z=y then some y else none:=by
 unfold kidLetter;by_cases h1:z=y
 ·subst h1;rw[if_neg h0,if_pos ⟨rfl,A0,.inr rfl⟩,if_pos rfl]
 ·rw[if_neg h1];by_cases h2:z=0
  ·rw[if_pos h2]
  ·rw[if_neg h2,if_neg (fun e=>e.2.2.elim h0 (fun e=>h1 e.symm)),if_neg (fun e=>hz e.symm)]
theorem zw (a b c:T)(hc:c.letter≠120):kidsLetter [a,b,c] [98,120,120] 0=if a.letter=98∧(b.letter≠0∧b.letter≠99)∧c.letter=b.letter then some b.letter else none:=by
 rw[kidsLetter,zjn];by_cases ha:a.letter=98
 ·rw[if_pos ha];show kidsLetter [b,c] [120,120] 0=_
  rw[kidsLetter,zjm];by_cases hb:b.letter=0∨b.letter=99
  ·rw[if_pos hb,if_neg (fun h=>hb.elim h.2.1.1 h.2.1.2)]
  ·rw[if_neg hb];simp only[not_or] at hb;show kidsLetter [c] [120] b.letter=_
   rw[kidsLetter,zlc _ _ hb.1 hb.2 hc];by_cases h:c.letter=b.letter
   ·rw[if_pos h,if_pos ⟨ha,hb,h⟩];show kidsLetter [] [] b.letter=_
    rw[kidsLetter]
   ·rw[if_neg h,if_neg (fun e=>h e.2.2)]
 ·rw[if_neg ha,if_neg (fun h=>ha h.1)]
theorem zbo (n:Int)(s:ByteArray)(ks:List T):(T.mk 22 n s ks).letter=if [98,120,120].length=ks.length∧fields 22 n s=true then(match kidsLetter ks [98,120,120] 0 with|none=>(0:UInt8)|some x=>ownLetter 120 x) else 0:=by
 rw[T.letter];show(match de 22 with|none=>(0:UInt8)|some (l,r)=>if l.length=ks.length∧fields 22 n s=true then(match kidsLetter ks l 0 with|none=>(0:UInt8)|some x=>ownLetter r x) else 0)=_
 rw[want_22];rfl
theorem zgy (t:T):t.letter≠120:=by
 induction t using T.ind with|h op n s ks ih=>?_
 by_cases A0:op=22
 ·subst A0;rw[zbo];split
  ·rename_i h;match ks,h.1 with
   | [a,b,c],_=>
    have hb:=ih b (by simp);have hc:=ih c (by simp);rw[zw a b c hc];by_cases hh:a.letter=98∧(b.letter≠0∧b.letter≠99)∧c.letter=b.letter
    ·rw[if_pos hh];show ownLetter 120 b.letter≠120
     unfold ownLetter;rw[if_pos rfl];exact hb
    ·rw[if_neg hh];decide
  ·decide
 ·rw[zbp A0];split
  ·decide
  ·rename_i l r hw;split
   ·exact(za hw A0).2.1
   ·decide
theorem letter_22 {n:Int}{s:ByteArray}{ks:List T}{x:UInt8}(hx:x≠0):(T.mk 22 n s ks).letter=x↔∃ a b c,ks=[a,b,c]∧a.letter=98∧b.letter=x∧c.letter=x∧x≠99∧fields 22 n s=true:=by
 rw[zbo];constructor
 ·intro h;split at h
  ·rename_i h1;match ks,h1.1 with
   | [a,b,c],_=>
    rw[zw a b c (zgy c)] at h;by_cases hh:a.letter=98∧(b.letter≠0∧b.letter≠99)∧c.letter=b.letter
    ·rw[if_pos hh] at h;have e4:b.letter=x:=by simpa [ownLetter] using h
     exact⟨a,b,c,rfl,hh.1,e4,hh.2.2.trans e4,by rw[←e4]; exact hh.2.1.2,h1.2⟩
    ·rw[if_neg hh] at h;exact absurd h.symm hx
  ·exact absurd h.symm hx
 ·rintro⟨a,b,c,rfl,h1,h2,h3,h4,h5⟩;rw[if_pos ⟨rfl,h5⟩,zw a b c (zgy c),if_pos ⟨h1,⟨by rw[h2]; exact hx,by rw[h2]; exact h4⟩,by rw[h2,h3]⟩];show ownLetter 120 b.letter=x
  unfold ownLetter;rw[if_pos rfl,h2]
theorem letter_inv {op n:Int}{s:ByteArray}{ks:List T}{x:UInt8}(h:(T.mk op n s ks).letter=x)(hx:x≠0)(A0:op≠22):de op=some (ks.map T.letter,x)∧fields op n s=true:=by
 rw[zbp A0] at h;split at h
 ·exact absurd h.symm hx
 ·rename_i l r hw;split at h
  ·rename_i h1;obtain⟨rfl,h2⟩:=h1;subst h;exact⟨hw,h2⟩
  ·exact absurd h.symm hx
theorem pz {op n:Int}{s:ByteArray}{ks:List T}{x:UInt8}(A0:op≠22)(hw:de op=some (ks.map T.letter,x))(hf:fields op n s=true):(T.mk op n s ks).letter=x:=by
 rw[zbp A0,hw];exact if_pos ⟨rfl,hf⟩
end Co
end
section
open Go.RowKit
namespace Co
mutual
def T.depth:T→Nat
 | .mk _ _ _ ks=>1+gv ks
def gv:List T→Nat
 | []=>0
 |k::r=>max k.depth (gv r)
end
mutual
def T.nodes:T→List (Int × Int)
 | .mk o n _ ks=>(o,n)::gz ks
def gz:List T→List (Int × Int)
 | []=>[]
 |k::r=>k.nodes++gz r
end
theorem depths_le {ks:List T}{m:Nat}:gv ks≤m↔∀ k∈ks,k.depth≤m:=by
 induction ks with
 |nil=>simp[gv]
 |cons a r ih=>rw[gv]; simp only[List.mem_cons,forall_eq_or_imp,←ih]; omega
theorem em {ks:List T}{k:T}(h:k∈ks):k.depth≤gv ks:=depths_le.1 (Nat.le_refl _) k h
theorem je (t:T):1≤t.depth:=by cases t; rw[T.depth]; omega
theorem mem_nodess {ks:List T}{x:Int × Int}:x∈gz ks↔∃ k∈ks,x∈k.nodes:=by
 induction ks with
 |nil=>simp[gz]
 |cons a r ih=>simp only[gz,List.mem_append,ih,List.mem_cons,exists_eq_or_imp]
theorem zsa (t:T):∀ d,(t.all d).map (fun x=>(x.2.op,x.2.n))=t.nodes:=by
 refine T.ind (P:=fun t=>∀ d,(t.all d).map (fun x=>(x.2.op,x.2.n))=t.nodes) (fun o n s ks ih d=>?_) t
 have:∀(l:List T),(∀ k∈l,∀ d,(k.all d).map (fun x=>(x.2.op,x.2.n))=k.nodes)→∀ d,(alls l d).map (fun x=>(x.2.op,x.2.n))=gz l:=by
  intro l;induction l with
  |nil=>intro _ d; rfl
  |cons a r ih2=>
   intro h d;rw[alls,gz,List.map_append,h a (List.mem_cons_self ..) d,ih2 (fun k hk=>h k (List.mem_cons_of_mem _ hk)) d]
 rw[T.all,T.nodes,List.map_cons,this ks ih];rfl
theorem zsc (t:T):∀(d m:Int),(∀ x∈t.all d,x.1≤m)↔d+t.depth≤m+1:=by
 refine T.ind (P:=fun t=>∀(d m:Int),(∀ x∈t.all d,x.1≤m)↔d+t.depth≤m+1) (fun o n s ks ih d m=>?_) t
 have:∀(l:List T),(∀ k∈l,∀(d m:Int),(∀ x∈k.all d,x.1≤m)↔d+k.depth≤m+1)→∀(d m:Int),d≤m+1→((∀ x∈alls l d,x.1≤m)↔d+gv l≤m+1):=by
  intro l;induction l with
  |nil=>intro _ d m h; simp[alls,gv]; omega
  |cons a r ih2=>
   intro h d m hd;have h1:=h a (List.mem_cons_self ..) d m;have h2:=ih2 (fun k hk=>h k (List.mem_cons_of_mem _ hk)) d m hd;rw[alls,gv];simp only[List.mem_append];constructor
   ·intro hh;have e1:=h1.1 (fun x hx=>hh x (.inl hx));have e2:=h2.1 (fun x hx=>hh x (.inr hx));omega
   ·intro hh x hx;rcases hx with hx|hx
    ·exact h1.2 (by omega) x hx
    ·exact h2.2 (by omega) x hx
 rw[T.all,T.depth];simp only[List.mem_cons,forall_eq_or_imp];constructor
 ·rintro⟨h1,h2⟩
  have:=(this ks ih (d+1) m (by omega)).1 h2;omega
 ·intro h;exact⟨by omega,(this ks ih (d+1) m (by omega)).2 (by omega)⟩
theorem sf (t:T):small t=true↔t.size≤2000∧t.depth≤200:=by
 have:=zsc t 1 200;unfold small;rw[Bool.and_eq_true,decide_eq_true_eq,List.all_eq_true];simp only[decide_eq_true_eq];rw[this];omega
def T.ahead (t:T):Bool:=t.nodes.any fun x=>(x.1 == 4 || x.1 == 5) && decide (x.2<0)
def T.good (t:T):Prop:=small t=true∧t.letter=99∧t.ahead=false
theorem kids_ne {op n:Int}{s:ByteArray}{ks:List T}(h:(T.mk op n s ks).letter≠0):∀ k∈ks,k.letter≠0:=by
 intro k hk;by_cases A0:op=22
 ·subst A0;obtain⟨a,b,c,rfl,h1,h2,h3, -, -⟩:=(letter_22 h).1 rfl;simp only[List.mem_cons,List.not_mem_nil,or_false] at hk;rcases hk with rfl|rfl|rfl
  ·rw[h1]; decide
  ·rw[h2]; exact h
  ·rw[h3]; exact h
 ·obtain⟨hw, -⟩:=letter_inv rfl h A0;exact((za hw A0).1 k.letter (List.mem_map_of_mem hk)).2
theorem uu:∀(ks ks':List T) (l:List UInt8) (x:UInt8),ks.map T.letter=ks'.map T.letter→kidsLetter ks l x=kidsLetter ks' l x
 | [],[],_,_,_=>rfl
 | [],_::_,_,_,h=>by cases h
 |_::_,[],_,_,h=>by cases h
 |a::r,a'::r',[],x,h=>by rw[kidsLetter,kidsLetter]
 |a::r,a'::r',k::l,x,h=>by
  simp only[List.map_cons,List.cons.injEq] at h;rw[kidsLetter,kidsLetter,h.1];split
  ·rfl
  ·exact uu r r' l _ h.2
theorem letter_congr {op n:Int}{s:ByteArray}{ks ks':List T}(h:ks.map T.letter=ks'.map T.letter):(T.mk op n s ks).letter=(T.mk op n s ks').letter:=by
 have hl:ks.length=ks'.length:=by simpa using congrArg List.length h
 rw[T.letter,T.letter];cases zam (sort op) with
 |none=>rfl
 |some lr=>
  obtain⟨l,r⟩:=lr;show(if l.length=ks.length∧fields op n s=true then(match kidsLetter ks l 0 with|none=>0|some x=>ownLetter r x) else 0)=if l.length=ks'.length∧fields op n s=true then(match kidsLetter ks' l 0 with|none=>0|some x=>ownLetter r x) else 0
  rw[hl,uu ks ks' l 0 h]
theorem fields_range {op n:Int}{s:ByteArray}(h:fields op n s=true) : -1000000000000000≤n∧n≤1000000000000000:=by
 unfold fields at h;simp only[Gen.within] at h;by_cases h4:op=4
 ·simp[h4] at h; omega
 by_cases A0:op=31
 ·simp[A0] at h; omega
 by_cases A1:op=24
 ·simp[A1] at h; omega
 by_cases h1:op=1
 ·simp[h1] at h; omega
 by_cases h2:op=2
 ·simp[h2] at h; omega
 by_cases h3:op=3∨op=29∨op=30
 ·rcases h3 with h3|h3|h3<;>simp[h3] at h<;>omega
 by_cases h5:op=5
 ·simp[h5] at h; omega
 ·simp only[not_or] at h3;simp[h4,A0,A1,h1,h2,h3,h5] at h;omega
theorem zr:(⟨#[]⟩:ByteArray).toList.isEmpty=true:=by kernel_rfl
theorem znx {n:Int}(h : -1000000000000000≤n∧n≤1000000000000000):fields 1 n ⟨#[]⟩=true:=by
 simp[fields,zr,Gen.within,h]
theorem zlg {n:Int}(h:0≤n∧n≤1):fields 2 n ⟨#[]⟩=true:=by
 simp[fields,zr,Gen.within,h]
theorem zai {op n:Int}(ho:op=3∨op=29∨op=30)(h:0≤n∧n≤73048):fields op n ⟨#[]⟩=true:=by
 rcases ho with rfl|rfl|rfl<;>simp[fields,zr,Gen.within,h]
theorem zlf:fields 23 0 ⟨#[]⟩=true:=by simp[fields,zr]
theorem sq {op n:Int}{s:ByteArray}(ho:op=3∨op=29∨op=30)(h:fields op n s=true):0≤n∧n≤73048:=by
 rcases ho with rfl|rfl|rfl<;>simp[fields,Gen.within] at h<;>omega
theorem bool_of {n:Int}{s:ByteArray}(h:fields 2 n s=true):n=0∨n=1:=by
 simp[fields,Gen.within] at h; omega
end Co
end
section
open Go.RowKit
set_option maxRecDepth 100000
theorem zhn (r:UInt8):∀(l:List UInt8),(62:UInt8)∉l→Lib.indexByte (l++[62,r]) 62=(l.length:Int)
 | [],_=>rfl
 |b::l,h=>by
  have hb:(b == 62)=false:=by
   have:b≠62:=by rintro rfl; exact h (List.mem_cons_self ..)
   simpa using this
  have ih:=zhn r l (fun e=>h (List.mem_cons_of_mem _ e));have e:Lib.indexByte (b::(l++[62,r])) 62=if(b == 62)=true then 0 else if(Lib.indexByte (l++[62,r]) 62 == -1)=true then -1 else Lib.indexByte (l++[62,r]) 62+1:=rfl
  rw[List.cons_append,e,hb,ih,if_neg (by decide),if_neg (by simp),List.length_cons];exact(Int.natCast_succ _).symm
theorem zlr (l:List UInt8)(r:UInt8)(h:(62:UInt8)∉l):Lib.indexByte (⟨(l++[62,r]).toArray⟩:ByteArray).data.toList 62=(l.length:Int):=zhn r l h
theorem zok (l:List UInt8)(r:UInt8):(⟨(l++[62,r]).toArray⟩:ByteArray).extract 0 l.length=⟨l.toArray⟩:=zcc (by simp)
theorem zlq (l:List UInt8)(r:UInt8):(⟨(l++[62,r]).toArray⟩:ByteArray).extract (l.length+1) (l.length+2)=⟨#[r]⟩:=zcc (by simp)
structure Cutted (S kt rt:ByteArray)(l:List UInt8)(r:UInt8):Prop where
 cut:∀ w,Calls Tryz.prog 139 #[.string S,.string ⟨#[62]⟩] w (ar (.tuple #[.string kt,.string rt,.bool true]) w)
 size:kt.size=l.length
 at':∀(i:Nat) k,l[i]? = some k→∃ h:i<kt.size,kt[i]=k
 rt:rt=⟨#[r]⟩
theorem sy (k x y:UInt8):Co.kidLetter k x y=if y.toNat=0 then none else if k.toNat=120∧y.toNat≠99∧(x.toNat=0∨x.toNat=y.toNat) then some y else if k.toNat=y.toNat then some x else none:=by
 unfold Co.kidLetter;have e:∀ a b:UInt8,a=b↔a.toNat=b.toNat:=fun a b=>UInt8.toNat_inj.symm;have z0:(0:UInt8).toNat=0:=rfl;have z1:(120:UInt8).toNat=120:=rfl;have z2:(99:UInt8).toNat=99:=rfl;simp only[ne_eq,e,z0,z1,z2]
def zzr (r:UInt8)(o:Option UInt8):UInt8:=match o with|none=>0|some x=>Co.ownLetter r x
theorem zyu (l:List UInt8)(r:UInt8)(hl:l.length≤3)(hn:(62:UInt8)∉l):∃ kt rt,Cutted ⟨(l++[62,r]).toArray⟩ kt rt l r:=by
 refine⟨⟨l.toArray⟩,⟨#[r]⟩,fun w=>?_,by simp[ByteArray.size],fun i k h=>?_,rfl⟩
 ·have h1:=zrr ⟨(l++[62,r]).toArray⟩ 62 l.length w (zlr l r hn) (by simp[ByteArray.size]) (by simp[ByteArray.size]; omega);have e:(⟨(l++[62,r]).toArray⟩:ByteArray).size=l.length+2:=by simp[ByteArray.size]
  rw[e,zok,zlq] at h1;exact h1
 ·obtain⟨h1,h2⟩:=List.getElem?_eq_some_iff.1 h;exact⟨by simpa [ByteArray.size] using h1,h2⟩
set_option maxHeartbeats 2000000 in
theorem zkz (t:Co.T):∀(v:Value) (w:World),CoreAt w.heap.size w t v→t.size≤2000000→Calls Tryz.prog 97 #[v] w (ar (.int .u8 (t.letter.toNat:Int)) w):=by
 induction t using Co.T.ind with|h op n s ks ih=>?_
 intro v w hv B7;obtain⟨p,c,rfl,hc,ho,hn,hs,hk⟩:=hv.open;simp only[Co.T.op,Co.T.n,Co.T.s,Co.T.ks] at hc ho hn hs hk ⊢;have HK:=aa hk;have IH:=aa ih;have HC:=aa hc;have HS:=aa (fun w=>zth op w);have HF:=aa (fun w=>zlh op n s p ks.length c w (by omega));have HZ:=aa B7;obtain⟨F,hF⟩:∃ F,Hid (Co.fields op n s=F):=⟨_,aa rfl⟩
 rw[hF.out] at HF;obtain⟨L,hL⟩:∃ L,Hid ((Co.T.mk op n s ks).letter=L):=⟨_,aa rfl⟩
 rw[hL.out];have hb:=heap_alloc_new w (.cells #[.int .i64 op,.int .i64 n,.string s,.slice p ks.length c] 24);have HB:=aa hb;obtain⟨x0,x1,x2,x3⟩:=ae hb;have A1:=Co.sort_form op;have A4:=aa A1;obtain⟨S,hS⟩:∃ S,Hid (Co.sort op=S):=⟨_,aa rfl⟩
 rw[hS.out] at HS A4;clear hb hk ih hc ho hn hs B7 hv A1;go_enter Tryz.func97,Tryz.ntmps97;go_wp2_with fail
 refine(HS.out _).mono ?_;rintro e w1 ⟨rfl,b1⟩;clear x0 x1 x2 x3;rcases A4.out with⟨C2,ha⟩|⟨l,r,B8,A9,B9,ha⟩
 ·subst C2;go_wp2_with fail
  refine(zll ⟨#[]⟩ 62 _ (by simp[Lib.indexByte])).mono ?_;rintro e w2 ⟨rfl,b2⟩;go_wp2_with fail
  go_ret;refine⟨?_,Below.more ((Below.refl w.heap.size w).alloc (Nat.le_refl _) _) (Below.more b1 b2)⟩;rw[←hL.out,Co.T.letter,hS.out,ha];rfl
 ·obtain⟨kt,rt,B2⟩:=zyu l r A9 B9;rw[←B8] at B2;have A0:=aa B2;have HA:=aa ha;have C6:=aa A9;clear B8 B9 ha B2 A9;go_wp2_with fail
  refine(A0.out.cut _).mono ?_;rintro e w2 ⟨rfl,b2⟩;have h2:=((Below.more b1 b2).block w.heap.size (by simp)).trans HB.out;obtain⟨c0,c1,c2,c3⟩:=ae h2;have hB:=aa (Below.more ((Below.refl w.heap.size w).alloc (Nat.le_refl _) _) (Below.more b1 b2));have H2:=aa h2;clear b1 b2 h2;by_cases hl:l.length=ks.length
  ·have g0:((kt.size:Int) != (ks.length:Int))=false:=by rw[A0.out.size,hl]; simp
   have HL:=aa hl;clear hl;go_wp2_with fail
   refine(HF.out _).mono ?_;rintro e w3 ⟨rfl,b3⟩;have h3:=(b3.block w.heap.size (af H2.out)).trans H2.out;obtain⟨d0,d1,d2,d3⟩:=ae h3;have C0:=aa (Below.more hB.out b3);clear b3 c0 c1 c2 c3 h3;cases F with
   |false=>
    go_wp2_with fail
    go_ret;refine⟨?_,C0.out⟩;rw[←hL.out,Co.T.letter,hS.out,HA.out];show Ending.returned (.int .u8 0)=.returned (.int .u8 (((if l.length=ks.length∧Co.fields op n s=true then(match Co.kidsLetter ks l 0 with|none=>(0:UInt8)|some x=>Co.ownLetter r x) else 0:UInt8)).toNat:Int))
    rw[if_neg (fun h=>by rw[hF.out] at h; cases h.2)];rfl
   |true=>
    obtain⟨R,hR⟩:∃ R,Hid (Co.kidsLetter ks l 0=R):=⟨_,aa rfl⟩
    have B3:=aa (show L=zzr r R by
     rw[←hL.out,Co.T.letter,hS.out,HA.out];show(if l.length=ks.length∧Co.fields op n s=true then(match Co.kidsLetter ks l 0 with|none=>(0:UInt8)|some x=>Co.ownLetter r x) else 0)=_
     rw[if_pos ⟨HL.out,hF.out⟩,←hR.out];rfl)
    go_wp2_with fail
    go_loopw [6,36] (fun xv iv wr=>∃(i:Nat) (x:UInt8),iv=.int .i64 (i:Int)∧xv=.int .u8 (x.toNat:Int)∧i≤ks.length∧Hid (Co.kidsLetter (ks.drop i) (l.drop i) x=R)∧Hid (Below w.heap.size w wr)) (fun _ iv _=>ks.length - (intOf iv).toNat)
    case atStart=>exact⟨0,0,rfl,rfl,Nat.zero_le _,hR,C0⟩
    case round=>
     obtain⟨i,x,rfl,rfl,hi,HX,A5⟩:=hrel;by_cases B1:i<ks.length
     ·obtain⟨k,hk⟩:∃ k,ks[i]? = some k:=⟨_,List.getElem?_eq_getElem B1⟩
      obtain⟨vk,A6,A8⟩:=HK.out i k hk;obtain⟨b,off,x0,y0,z0,u0,e,C4,B6,r0,r1,r2,r3⟩:=A6.kept A5.out (Nat.le_refl _);subst e;have C3:=aa A8;obtain⟨pk,ck,rfl, -, -, -, -, -⟩:=A8.open;obtain⟨rfl,rfl,rfl,rfl⟩:.int .i64 k.op=x0∧.int .i64 k.n=y0∧.string k.s=z0∧.slice pk k.ks.length ck=u0:=by simpa using B6
      clear B6;have g1:decide ((i:Int)<(ks.length:Int))=true:=by simp; omega
      have j1:(0:Int)≤(i:Int):=by omega
      have j2:(i:Int)<(ks.length:Int):=by omega
      have C5:IntKind.i64.wrap ((i:Int)+1)=(i:Int)+1:=IntWalk.i64_in _ (by have:=HZ.out; have h2:=Co.sizes_len ks; rw[Co.T.size] at this; omega);have B4:=aa hk;clear hk A8 A6;go_wp2_with fail
      have A7:=aa ((Below.refl wr.heap.size wr).alloc (Nat.le_refl _) (.cells #[.int .i64 k.op,.int .i64 k.n,.string k.s,.slice pk k.ks.length ck] 24));refine(IH.out k (List.mem_of_getElem? B4.out) _ _ (C3.out.kept (A5.out.trans (A7.out.mono A5.out.size)) (Nat.le_trans A5.out.size A7.out.size)) ?_).mono ?_
      ·have h1:=Co.sizes_mem (List.mem_of_getElem? B4.out);have h2:=HZ.out;rw[Co.T.size] at h2;omega
      rintro e w5 ⟨rfl,b5⟩;have B5:=aa (A5.out.trans ((Below.more A7.out b5).mono A5.out.size));obtain⟨y,hy⟩:∃ y,Hid (k.letter=y):=⟨_,aa rfl⟩
      rw[hy.out];obtain⟨kc,B0⟩:∃ kc,l[i]? = some kc:=⟨_,List.getElem?_eq_getElem (by rw[HL.out]; exact B1)⟩
      have A2:=aa (Co.kidsLetter_step x B4.out B0);obtain⟨q1,q2⟩:=A0.out.at' i kc B0;have HN:=aa (show Co.kidLetter kc x y=none→L=0 by
       intro h;have h1:=A2.out;rw[HX.out,hy.out,h] at h1;rw[B3.out,h1];rfl)
      have A3:=aa (show ∀ x',Co.kidLetter kc x y=some x'→Co.kidsLetter (ks.drop (i+1)) (l.drop (i+1)) x'=R by
       intro x' h;have h1:=A2.out;rw[HX.out,hy.out,h] at h1;exact h1.symm)
      clear B0 b5 A7;go_wp2_with fail
      all_goals first
       |(go_ret
         exact⟨by rw[HN.out (by rw[sy]; (repeat' split)<;>first|rfl|(exfalso; simp_all; done)|(exfalso; simp_all; omega))]; rfl,B5.out⟩)
       |(go_roundw
         case rel=>exact⟨i+1,y,by go_num,rfl,by omega,aa (A3.out y (by rw[sy]; (repeat' split)<;>first|rfl|(exfalso; simp_all; done)|(exfalso; simp_all; omega))),B5⟩
         case measure=>simp only[intOf]; omega)
       |(go_roundw
         case rel=>exact⟨i+1,x,by go_num,rfl,by omega,aa (A3.out x (by rw[sy]; (repeat' split)<;>first|rfl|(exfalso; simp_all; done)|(exfalso; simp_all; omega))),B5⟩
         case measure=>simp only[intOf]; omega)
     ·obtain rfl:i=ks.length:=by omega
      have g1:decide (ks.length<ks.length)=false:=by simp
      clear B1;have C1:=aa (show R=some x by rw[←HX.out,List.drop_length,Co.kidsLetter]);have q1:0<rt.size:=by rw[A0.out.rt]; exact Nat.one_pos
      have HQ:=aa (show rt[0]=r by have h:=A0.out.rt; subst h; rfl);by_cases hr:r=120
      ·have q3:(rt.toList == [120])=true:=by rw[A0.out.rt,ByteArray.toList_eq,hr]; rfl
       have HE:=aa (show L=x by rw[B3.out,C1.out]; show Co.ownLetter r x=x; unfold Co.ownLetter; rw[if_pos hr]);clear hr;go_wp2_with fail
       go_ret;exact⟨by rw[HE.out]; rfl,A5.out⟩
      ·have q3:(rt.toList == [120])=false:=by
        rw[A0.out.rt,ByteArray.toList_eq];simpa using hr
       have HE:=aa (show L=r by rw[B3.out,C1.out]; show Co.ownLetter r x=r; unfold Co.ownLetter; rw[if_neg hr]);clear hr;go_wp2_with fail
       go_ret;exact⟨by rw[HE.out,←HQ.out]; rfl,A5.out⟩
  ·have g0:((kt.size:Int) != (ks.length:Int))=true:=by rw[A0.out.size]; simp; omega
   have HL:=aa hl;clear hl;go_wp2_with fail
   go_ret;refine⟨?_,hB.out⟩;rw[←hL.out,Co.T.letter,hS.out,HA.out];show Ending.returned (.int .u8 0)=.returned (.int .u8 (((if l.length=ks.length∧Co.fields op n s=true then(match Co.kidsLetter ks l 0 with|none=>(0:UInt8)|some x=>Co.ownLetter r x) else 0:UInt8)).toNat:Int))
   rw[if_neg (fun h=>HL.out h.1)];rfl
end
section
open Go.RowKit
set_option maxRecDepth 100000
namespace Co
def T.right (t:T):Bool:=small t && t.letter != 0
def T.ty (t:T):Int:=bif t.right then Lib.indexByte [110,98,100,63,99] t.letter else 0
end Co
theorem zou (t:Co.T)(v:Value)(w:World)(hv:CoreAt w.heap.size w t v)(A0:t.size≤2000000):
  Calls Tryz.prog 47 #[v] w (ar (.tuple #[.int .i64 t.ty,.bool t.right]) w):=by
 have HV:=aa hv;obtain⟨p,c,A2, -, -, -, -, -⟩:=hv.open;obtain⟨op,n,s,len,rfl⟩:∃ op n s len,v=.agg #[.int .i64 op,.int .i64 n,.string s,.slice p len c]:=⟨_,_,_,_,A2⟩
 have hb:=heap_alloc_new w (.cells #[.int .i64 op,.int .i64 n,.string s,.slice p len c] 24);have HB:=aa hb;obtain⟨x0,x1,x2,x3⟩:=ae hb;have A3:=aa ((Below.refl w.heap.size w).alloc (Nat.le_refl _) (.cells #[.int .i64 op,.int .i64 n,.string s,.slice p len c] 24));have HS:=aa (fun (W:World) (h:Below w.heap.size w W)=>zga t _ W (hv.kept h h.size) A0);have HL:=aa (fun (W:World) (h:Below w.heap.size w W)=>zkz t _ W (hv.kept h h.size) A0);obtain⟨sm,A1⟩:∃ sm,Hid (Co.small t=sm):=⟨_,aa rfl⟩
 obtain⟨y,hy⟩:∃ y,Hid (t.letter=y):=⟨_,aa rfl⟩
 obtain⟨R,hR⟩:∃ R,Hid (t.right=R):=⟨_,aa rfl⟩
 obtain⟨Y,hY⟩:∃ Y,Hid (t.ty=Y):=⟨_,aa rfl⟩
 rw[A1.out] at HS;rw[hy.out] at HL;rw[hR.out,hY.out];clear A2 hb A0 hv;go_enter Tryz.func47,Tryz.ntmps47;go_wp2_with fail
 refine(HS.out _ A3.out).mono ?_;rintro e w1 ⟨rfl,b1⟩;have h1:=(b1.block w.heap.size (by simp)).trans HB.out;obtain⟨c0,c1,c2,c3⟩:=ae h1;have hB:=aa (Below.more A3.out b1);clear b1 h1 x0 x1 x2 x3;cases sm with
 |false=>
  have eR:=aa (show R=false by rw[←hR.out]; unfold Co.T.right; rw[A1.out]; rfl);have eY:=aa (show Y=0 by rw[←hY.out]; unfold Co.T.ty; rw[hR.out,eR.out]; rfl);go_wp2_with fail
  refine bodyPost_ret (results_tmp2 rfl _ _ _) rfl ?_;exact⟨by rw[eR.out,eY.out]; rfl,hB.out⟩
 |true=>
  go_wp2_with fail
  refine(HL.out _ hB.out).mono ?_;rintro e w2 ⟨rfl,b2⟩;have A4:=aa (Below.more hB.out b2);clear b2 c0 c1 c2 c3;by_cases h0:y=0
  ·subst h0;have eR:=aa (show R=false by rw[←hR.out]; unfold Co.T.right; rw[hy.out]; simp);have eY:=aa (show Y=0 by rw[←hY.out]; unfold Co.T.ty; rw[hR.out,eR.out]; rfl);go_wp2_with fail
   refine bodyPost_ret (results_tmp2 rfl _ _ _) rfl ?_;exact⟨by rw[eR.out,eY.out]; rfl,A4.out⟩
  ·have g0:(((y.toNat:Int)) == 0)=false:=by
    have:y.toNat≠0:=fun e=>h0 (UInt8.toNat_inj.1 e);simp; omega
   have eR:=aa (show R=true by rw[←hR.out]; unfold Co.T.right; rw[A1.out,hy.out]; simpa using h0);have eY:=aa (show Y=Lib.indexByte [110,98,100,63,99] y by rw[←hY.out]; unfold Co.T.ty; rw[hR.out,eR.out,hy.out]; rfl);have HI:=aa (fun w=>Tryz.strings_IndexByte ⟨#[110,98,100,63,99]⟩ (y.toNat:Int) w);go_wp2_with fail
   refine(HI.out _).mono ?_;rintro e w3 ⟨rfl,rfl⟩;go_wp2_with fail
   refine bodyPost_ret (results_tmp2 rfl _ _ _) rfl ?_;refine⟨?_,A4.out⟩;rw[eR.out,eY.out]
   have:UInt8.ofNat ((y.toNat:Int)).toNat=y:=by simp
   simp[this]
end
section
open Go.RowKit Go.Shelf
set_option maxRecDepth 100000
attribute [local go_sem] Oper.semAt_some
attribute [local go_sem] dp
namespace Co
def T.check (t:T):Int:=bif t.right && t.ty == 4 then(bif t.ahead then 141 else 0) else 140
def aheadX (x:T):Bool:=(x.op == 4 || x.op == 5) && decide (x.n<0)
theorem ahead_all (t:T):t.ahead=(t.all 1).any fun x=>aheadX x.2:=by
 unfold T.ahead;rw[←zsa t 1,List.any_map];rfl
end Co
theorem zvt {B:Nat}{w0:World}{t:Co.T}{xs:List (Walked B w0)}(h:zfl t xs)(h2:∀ x∈xs,Co.aheadX x.1.2.1=false):t.ahead=false:=by
 unfold zfl at h;rw[Co.ahead_all,←h,List.any_map,List.any_eq_false];intro x hx
 have:=h2 x hx;simpa [Walked.pr] using this
theorem zsd {B:Nat}{w0:World}{t:Co.T}{xs:List (Walked B w0)}(h:zcf t xs)(hb:∃ x∈xs,Co.aheadX x.1.2.1=true):t.ahead=true:=by
 obtain⟨x,hx,hd⟩:=hb;unfold zcf at h;have hy:x.pr∈t.all 1:=h.subset (List.mem_map_of_mem hx);rw[Co.ahead_all,List.any_eq_true];exact⟨x.pr,hy,hd⟩
def CoreBox (W:World)(b:Nat)(v:Value):Prop:=∃ x y z u,v=.agg #[x,y,z,u]∧W.heap[b]? = some (.cells #[x,y,z,u] 24 (0,0))
theorem CoreBox.own {W W':World}{b:Nat}{v:Value}{row:Option Nat}(h:CoreBox W b v)(hg:W.grownBy W' row)(hr:∀ r,row=some r→∃ o:Obj,W.heap[r]? = some o∧o.isCells=false):CoreBox W' b v:=by
 obtain⟨x,y,z,u,e,h⟩:=h;refine⟨x,y,z,u,e,(hg.block b (af h) (fun e=>?_)).trans h⟩;obtain⟨o,ho,hc⟩:=hr b e.symm;rw[h] at ho;cases ho;cases hc
set_option maxHeartbeats 2000000 in
theorem zff (t:Co.T)(v:Value)(w:World)(hT:CoreAt w.heap.size w t v)(B8:t.size≤2000000):
  Calls Tryz.prog 19 #[v] w (ar (.int .i64 t.check) w):=by
 obtain⟨p,c,B7, -, -, -, -, -⟩:=hT.open;obtain⟨op,n,s,len,rfl⟩:∃ op n s len,v=.agg #[.int .i64 op,.int .i64 n,.string s,.slice p len c]:=⟨_,_,_,_,B7⟩
 clear B7;have HT:=aa hT;have C6:=aa (fun (W:World) (h:Below w.heap.size w W)=>zou t _ W (hT.kept h h.size) B8);obtain⟨R,hR⟩:∃ R,Hid (t.right=R):=⟨_,aa rfl⟩
 obtain⟨Y,hY⟩:∃ Y,Hid (t.ty=Y):=⟨_,aa rfl⟩
 rw[hR.out,hY.out] at C6;obtain⟨C,hC⟩:∃ C,Hid (t.check=C):=⟨_,aa rfl⟩
 rw[hC.out];clear hT;refine callsIn_wide.1 (show CallsIn Fence.wide 7 _ _ _ _ _ from ?_);have h1:1≤7:=by omega
 refine callsIn_of_wp_marks Tryz.func19 rfl trivial ?_ rfl;simp only[Tryz.ntmps19,List.size_toArray,List.length_cons,List.length_nil,Nat.reduceAdd,Nat.reduceSub,Array.replicate_succ,Array.replicate_zero,List.push_toArray,List.append_toArray,List.nil_append,List.cons_append];have D7:∀(p:Value) (w:World),(binOp BinOp.eql 100 (.func (.func 99) #[] #[p]) .nilFunc).run Tryz.prog w=.ok (.bool false) w:=fun _ _=>by kernel_rfl
 have D8:Fence.wide.fn 48:=trivial;have fty:Fence.wide.fn 47:=trivial;have A3:Below w.heap.size w ((w.alloc (.cells #[.int .i64 op,.int .i64 n,.string s,.slice p len c] 24)).alloc (.cells #[.int .i64 0] 30)):=((Below.refl _ w).alloc (Nat.le_refl _) _).alloc (by simp) _;have bX:=(heap_alloc_new w (.cells #[.int .i64 op,.int .i64 n,.string s,.slice p len c] 24))
 have bC:=Boxed.new (w.alloc (.cells #[.int .i64 op,.int .i64 n,.string s,.slice p len c] 24)) 30 (.int .i64 0);simp only[World.size_alloc] at bC;have bX2:=(((Below.refl _ (w.alloc (.cells #[.int .i64 op,.int .i64 n,.string s,.slice p len c] 24))).alloc (Nat.le_refl _) (.cells #[.int .i64 0] 30)).block w.heap.size (by simp)).trans bX;obtain⟨x0,x1,x2,x3⟩:=ae bX2;have C8:=aa A3;have D5:=aa bX2;have D6:=aa bC;clear A3 bX bX2 bC;gi_wp2_with fail
 refine(callsIn_wide.2 (C6.out _ C8.out)).mono ?_;rintro e w1 ⟨rfl,b1⟩;have B6:=aa (Below.more C8.out b1);have D4:=aa ((b1.block w.heap.size (by simp; omega)).trans D5.out);have A4:=aa (show Boxed w1 (w.heap.size+1) 30 (.int .i64 0) from(b1.block (w.heap.size+1) (by simp)).trans D6.out);have D0:w.heap.size+1<w1.heap.size:=af A4.out;obtain⟨y0,y1,y2,y3⟩:=ae D4.out;have D3:=A4.out.cell;have D2:=A4.out.frozen;clear b1 x0 x1 x2 x3;by_cases B0:R=true∧Y=4
 ·obtain⟨rfl,rfl⟩:=B0;gi_wp2_with (gi_at_call 48; refine(zmt Fence.wide 6 trivial rfl op n s p len c _).mono ?_; rintro e w' ⟨rfl,rfl⟩)
  have hE:∀ a,t.ahead=a→C=bif a then 141 else 0:=by
   intro a ha;rw[←hC.out];unfold Co.T.check;rw[hR.out,hY.out,ha];rfl
  have HE:=aa hE;have bC:=heap_alloc_new w1 (.cells #[.int .i64 op,.int .i64 n,.string s,.slice p len c] 24);have bN:=A4.out.alloc (.cells #[.int .i64 op,.int .i64 n,.string s,.slice p len c] 24);have A3:=B6.out.trans (((Below.refl w1.heap.size w1).alloc (Nat.le_refl _) (.cells #[.int .i64 op,.int .i64 n,.string s,.slice p len c] 24)).mono (show w.heap.size≤w1.heap.size by omega));have A9:(w1.alloc (.cells #[.int .i64 op,.int .i64 n,.string s,.slice p len c] 24)).heap.size=w1.heap.size+1:=by simp
  obtain⟨W0,C3⟩:∃ W0,w1.alloc (.cells #[.int .i64 op,.int .i64 n,.string s,.slice p len c] 24)=W0:=⟨_,rfl⟩
  rw[C3] at bC bN A3 A9 ⊢;clear C3 hE y0 y1 y2 y3 D3 D2;refine wpIn_rangeFunc_ownH (F:=Fence.wide) rfl h1 (gf:=99) (lb:=#[.pointer (some ⟨w1.heap.size,0,none⟩)]) rfl trivial (enters_of Tryz.func99 (by kernel_rfl) rfl)
   (zfi w1.heap.size w.heap.size w t op n s p len c W0 HT.out B8 A3 bC (by omega)) KpC.trans (znq (by omega)) (Below.refl _ _) (fun _=>rfl)
   (fun (pre:List (Walked w.heap.size w)) W=>((∀ x∈pre,Co.aheadX x.1.2.1=false)∧Boxed W (w.heap.size+1) 30 (.int .i64 0))∧Below w.heap.size w W)
   (fun c (pre:List (Walked w.heap.size w)) W=>((c=.ret∧∃ x∈pre,Co.aheadX x.1.2.1=true)∧Boxed W (w.heap.size+1) 30 (.int .i64 141))∧Below w.heap.size w W)
   (OwnFrom.and (OwnFrom.and (ownFrom_pure _ _) (Own.from (boxed_own _ _ (fun (_:List (Walked w.heap.size w))=>.int .i64 0)) _)) (ownFrom_below (Nat.le_refl _) (by omega)))
   (fun c=>OwnFrom.and (OwnFrom.and (ownFrom_pure _ _) (Own.from (boxed_own _ _ (fun (_:List (Walked w.heap.size w))=>.int .i64 141)) _)) (ownFrom_below (Nat.le_refl _) (by omega)))
   ⟨⟨by simp,bN⟩,A3⟩
   (fun x a' W=>∃ b,a' = { tmps:=#[.agg #[.int .i64 op,.int .i64 n,.string s,.slice p len c],.pointer (some ⟨w.heap.size,0,none⟩),.pointer (some ⟨w.heap.size+1,0,none⟩),.int .i64 4,.bool true,undef,.pointer (some ⟨b,0,none⟩),.tuple #[.int .i64 4,.bool true],.agg #[.int .i64 op,.int .i64 n,.string s,.slice p len c],.tuple #[.int .i64 4,.bool true],.int .i64 4,.bool true,.bool true,.bool false,.bool false,.int .i64 4,.bool false,.bool false,.agg #[.int .i64 op,.int .i64 n,.string s,.slice p len c],.func (.func 99) #[] #[.pointer (some ⟨w1.heap.size,0,none⟩)],.int .i64 x.1.1,x.1.2.2,undef,undef,undef,undef,undef,undef,undef,undef,undef,undef,undef,undef,undef],defers:=[] }∧CoreBox W b x.1.2.2)
   (fun x a' s X Y row hs hg hr=>by
    obtain⟨b,e,hb⟩:=hs;exact⟨b,e,hb.own hg (fun r e=>(hr r e).2)⟩)
   ?assign ?body ?done ?stop
  case assign=>
   rintro l pre x W K ⟨⟨hp,hv⟩,hB⟩ hK;obtain⟨⟨d,tt,vv⟩,hx⟩:=x;obtain⟨pk,ck,e, -, -, -, -, -⟩:=hx.open;obtain⟨A1,n2,s2,A0,e2⟩:∃ A1 n2 s2 A0,vv=.agg #[.int .i64 A1,.int .i64 n2,.string s2,.slice pk A0 ck]:=⟨_,_,_,_,e⟩
   clear e;rw[show Walked.enc (⟨(d,tt,vv),hx⟩:Walked w.heap.size w)=#[.int .i64 d,vv] from rfl];have C9:=af (show W.heap[w.heap.size+1]? = _ from hv);have A8:Below W.heap.size W (W.alloc (.cells #[.int .i64 A1,.int .i64 n2,.string s2,.slice pk A0 ck] 24)):=(Below.refl _ W).alloc (Nat.le_refl _) _;have HK:=aa (hK _ _ ((KeepsOthers.alloc W (.cells #[.int .i64 A1,.int .i64 n2,.string s2,.slice pk A0 ck] 24)).from _) ⟨A8.mono (by omega),fun k cur t _ hk=>A8.block k (af hk)⟩
    ⟨⟨hp,hv.alloc _⟩,hB.trans (A8.mono (by omega))⟩ ⟨W.heap.size,rfl,⟨_,_,_,_,e2,heap_alloc_new W _⟩⟩)
   clear hK A8 C9 hB hv hp;subst e2;gi_wp2
   exact HK.out
  case body=>
   rintro l pre x a' W hl ⟨r,hr⟩ ⟨⟨hp,hv⟩,hB⟩ ⟨b,rfl,A7⟩ D1;have HX:=aa hp;clear hp;obtain⟨⟨d,tt,vv⟩,hx⟩:=x;obtain⟨pk,ck,e, -, -, -, -, -⟩:=hx.open;obtain⟨A1,B9⟩:∃ o,Hid (tt.op=o):=⟨_,aa rfl⟩
   obtain⟨n2,C1⟩:∃ o,Hid (tt.n=o):=⟨_,aa rfl⟩
   obtain⟨s2,A0,e2⟩:∃ s2 A0,vv=.agg #[.int .i64 A1,.int .i64 n2,.string s2,.slice pk A0 ck]:=⟨_,_,by rw[←B9.out,←C1.out]; exact e⟩
   clear e;have C4:=aa (show Co.aheadX tt=((A1 == 4 || A1 == 5) && decide (n2<0)) by unfold Co.aheadX; rw[B9.out,C1.out]);obtain⟨c0,c1,c2,c3,e3,A7⟩:=A7;obtain⟨rfl,rfl,rfl,rfl⟩:.int .i64 A1=c0∧.int .i64 n2=c1∧.string s2=c2∧.slice pk A0 ck=c3:=by
    have C5:vv=.agg #[c0,c1,c2,c3]:=e3;rw[e2] at C5;simpa using C5
   obtain⟨z0,z1,z2,z3⟩:=ae A7;have hc:=hv.cell;have hf:=hv.frozen;have HV:=aa hv;have B5:=aa hB;have HR:=aa hr;clear A7 hv hB hr D1 e3;by_cases A2:((A1 == 4 || A1 == 5) && decide (n2<0))=true
   ·have A5:∃ x∈pre++[(⟨(d,tt,vv),hx⟩:Walked w.heap.size w)],Co.aheadX x.1.2.1=true:=⟨⟨(d,tt,vv),hx⟩,by simp,C4.out.trans A2⟩
    have HY:=aa A5;clear A5;subst e2;rw[Bool.and_eq_true,Bool.or_eq_true,beq_iff_eq,beq_iff_eq,decide_eq_true_eq] at A2;obtain⟨ho,C2⟩:=A2;have g2:decide (n2<0)=true:=decide_eq_true C2;clear C2;rcases ho with rfl|rfl;all_goals
     gi_wp2
     refine⟨?_,⟨⟨rfl,HY.out⟩,HV.out.set _⟩,B5.out.setCell (p:=⟨w.heap.size+1,0,none⟩) (by simp) _⟩;exact(KeepsOthers.setCell _ _ _).from _
   ·have C0:∀ y∈pre++[(⟨(d,tt,vv),hx⟩:Walked w.heap.size w)],Co.aheadX y.1.2.1=false:=fun y hy=>by
     rcases List.mem_append.1 hy with hy|hy
     ·exact HX.out y hy
     ·rw[List.mem_singleton] at hy;subst hy;rw[Bool.not_eq_true] at A2;rw[←A2];exact C4.out
    have C7:=aa C0;clear C0;subst e2;rw[Bool.and_eq_true,Bool.or_eq_true,beq_iff_eq,beq_iff_eq,decide_eq_true_eq,not_and] at A2;by_cases ho:A1=4∨A1=5
    ·have g2:decide (n2<0)=false:=decide_eq_false (A2 ho);clear A2;rcases ho with rfl|rfl;all_goals
      gi_wp2
      refine⟨KeepsFrom.refl _ _,⟨Below.refl _ _,fun k cur t ht hk=>rfl⟩,⟨C7.out,HV.out⟩,B5.out⟩
    ·have g1:(A1 == 4)=false:=by simp only[not_or] at ho; simpa using ho.1
     have g2:(A1 == 5)=false:=by simp only[not_or] at ho; simpa using ho.2
     clear A2 ho;gi_wp2
     refine⟨KeepsFrom.refl _ _,⟨Below.refl _ _,fun k cur t ht hk=>rfl⟩,⟨C7.out,HV.out⟩,B5.out⟩
  case done=>
   rintro D ys W hD B4 ⟨⟨hp,hv⟩,hB⟩ hK;have hc:=hv.cell;have hf:=hv.frozen;gi_wp2
   have hd:(W.setCell ⟨w.heap.size+1,0,none⟩ (.int .i64 0)).heap[D]? = some (.deferred (some [])):=(Below.heap_setCell _ _ _ D (by show D≠w.heap.size+1; omega)).trans hK;refine⟨by simp,.inl ⟨_,_,rfl,run_takeDeferred hd,?_⟩⟩;have B2:((W.setCell ⟨w.heap.size+1,0,none⟩ (.int .i64 0)).putObj D (.deferred none)).cell? ⟨w.heap.size+1,0,none⟩=some (.int .i64 0):=((boxed_own (w.heap.size+1) 30 (fun (_:Unit)=>.int .i64 0)).putObj (s:=()) _ (hv.set (.int .i64 0)) hd rfl).cell;refine⟨.int .i64 0,?_,by rw[HE.out _ (zvt B4 hp)]; rfl,(hB.setCell (p:=⟨w.heap.size+1,0,none⟩) (by simp) _).trans (belowK_b (w:=w) (Nat.le_refl _) _ D _ _ (by omega) hd rfl rfl)⟩;simp[results,Tryz.results19,go_sem,B2]
  case stop=>
   rintro D c pre W hD A6 ⟨⟨⟨rfl,B3⟩,B1⟩,hB⟩ hK;have hc:=B1.cell;have hf:=B1.frozen;gi_wp2
   refine⟨by simp,.inl ⟨_,_,rfl,run_takeDeferred hK,?_⟩⟩;have B2:(W.putObj D (.deferred none)).cell? ⟨w.heap.size+1,0,none⟩=some (.int .i64 141):=((boxed_own (w.heap.size+1) 30 (fun (_:Unit)=>.int .i64 141)).putObj (s:=()) _ B1 hK rfl).cell;refine⟨.int .i64 141,?_,by rw[HE.out _ (zsd A6 B3)]; rfl,hB.trans (belowK_b (w:=w) (Nat.le_refl _) _ D _ _ (by omega) hK rfl rfl)⟩;simp[results,Tryz.results19,go_sem,B2]
 ·have HE:=aa (show C=140 by
   rw[←hC.out];unfold Co.T.check;rw[hR.out,hY.out];cases R with
   |false=>rfl
   |true=>
    have:(Y == 4)=false:=by simpa using B0
    rw[this];rfl)
  have fin:∀ W:World,Below w.heap.size w W→(W.cell? ⟨w.heap.size+1,0,none⟩=some (.int .i64 140))→ar (.int .i64 C) w (.returned (.int .i64 140)) W:=fun W h _=>⟨by rw[HE.out],h⟩
  cases R with
  |false=>
   gi_wp2
   refine⟨.int .i64 140,?_,by rw[HE.out],B6.out.setCell (p:=⟨w.heap.size+1,0,none⟩) (by simp) _⟩;simp[results,Tryz.results19,go_sem,(A4.out.set (.int .i64 140)).cell]
  |true=>
   have g0:(Y != 4)=true:=by
    have:¬Y=4:=by simpa using B0
    simpa using this
   gi_wp2
   refine⟨.int .i64 140,?_,by rw[HE.out],B6.out.setCell (p:=⟨w.heap.size+1,0,none⟩) (by simp) _⟩;simp[results,Tryz.results19,go_sem,(A4.out.set (.int .i64 140)).cell]
end
section
open Go.RowKit
set_option maxRecDepth 100000
theorem zat (s:ByteArray)(w:World)(hs:s.size≤9223372036854775807):Calls Tryz.prog 27 #[.string s] w (ar (.bool (Led.isName s)) w):=by
 have HT:=aa (zgl s w hs);go_enter Tryz.func27,Tryz.ntmps27;go_wp2_with fail
 refine HT.out.mono ?_;rintro e w1 ⟨rfl,b1⟩;go_wp2_with fail
 go_ret;exact⟨rfl,b1⟩
theorem zjs (s:ByteArray)(w:World)(hs:s.size≤9223372036854775807):Calls Tryz.prog 58 #[.string s] w (ar (.bool (Led.isCur s)) w):=by
 have HT:=aa (zsw s w hs);go_enter Tryz.func58,Tryz.ntmps58;go_wp2_with fail
 refine HT.out.mono ?_;rintro e w1 ⟨rfl,b1⟩;go_wp2_with fail
 go_ret;exact⟨rfl,b1⟩
theorem znu (s:ByteArray)(c:UInt8):Gen.hasB s c.toNat=decide (0≤Lib.indexByte s.data.toList c):=by
 rw[←Lib.contains_iff_indexByte];unfold Gen.hasB;rw[List.contains_eq_any_beq];congr 1
 funext x
 by_cases h:x=c
 ·subst h; simp
 ·have h2:¬x.toNat=c.toNat:=fun e=>h (UInt8.toNat_inj.1 e);rw[decide_eq_false h2];symm
  rw[beq_eq_false_iff_ne];exact fun e=>h e.symm
theorem ze (f:ByteArray)(c:UInt8)(b:Nat)(w:World)(hb:w.cell? ⟨b,0,none⟩=some (.string f)):Calls Tryz.prog 56 #[.string ⟨#[c]⟩,.pointer (some ⟨b,0,none⟩)] w (Ret (.bool (Gen.hasB f c.toNat)) w):=by
 have HT:=aa (Tryz.strings_Contains_one f c w);rw[znu];generalize decide (0≤Lib.indexByte f.data.toList c)=r at *;go_enter Tryz.func56,Tryz.ntmps56;go_wp2_with fail
 refine HT.out.mono ?_;rintro e w1 ⟨rfl,rfl⟩;go_wp2_with fail
 go_ret;exact⟨rfl,rfl⟩
end
section
open Go.RowKit
open Gen
set_option maxRecDepth 100000
structure RSl (w:World)(b0 b1 b2 b3:Nat)(vw vi:Value)(c:Gen.Cd)(x:Gen.Ix)(W:World):Prop where
 is:ISt w b0 b1 vw vi c x W
 fb:W.heap[b2]? = some (.cells #[.string (usesT x.op)] 9 (0,0))
 sl:W.heap[b3]? = some (.cells #[.int .i64 x.a,.int .i64 x.b,.int .i64 x.c] 3 (0,0))
def okU (c:Gen.Cd)(x:Gen.Ix):Nat→Bool
 |0=>isOp x.op
 |1=>isOp x.op && fld (eg x.op) x.a c.regs
 |2=>isOp x.op && fld (eg x.op) x.a c.regs && fld (fk x.op) x.b c.regs
 |_=>isOp x.op && fld (eg x.op) x.a c.regs && fld (fk x.op) x.b c.regs && fld (gg x.op) x.c c.regs
def okT (c:Gen.Cd)(k:Int)(x:Gen.Ix):Bool:=okU c x 3 && uj c k x
theorem zqr (c:Gen.Cd)(k:Int)(x:Gen.Ix):insOk c k x=(okT c k x && (el c k x && bu x)):=by
 rw[zxp];unfold okT okU;generalize isOp x.op=p1;generalize fld (eg x.op) x.a c.regs=p3;generalize fld (fk x.op) x.b c.regs=p4;generalize fld (gg x.op) x.c c.regs=p5;generalize uj c k x=p6;generalize el c k x=p7;generalize bu x=p8;cases p1<;>cases p3<;>cases p4<;>cases p5<;>cases p6<;>cases p7<;>cases p8<;>rfl
set_option maxHeartbeats 8000000 in
theorem zfp (v:Value)(c:Gen.Cd)(k:Nat)(x:Gen.Ix)(w:World)(h:CdAt w v c)(hx:c.ins[k]? = some x):Calls Tryz.prog 28 #[v,.int .i64 (k:Int)] w (ar (.bool (Gen.insOk c (k:Int) x)) w):=by
 have B6:=h;obtain⟨vw,vi,rfl,⟨pw,cw,rfl, -⟩,⟨pi,ci,rfl,⟨C7,C6⟩,B5⟩,hr⟩:=h;obtain⟨ib,io,rfl,C5,⟨x0,x1,x2,x3,x4,x5,x6⟩,B3⟩:=B5 k x hx;have hk:=(List.getElem?_eq_some_iff.1 hx).1;obtain⟨t1,t2,t3⟩:=zgm w (.cells #[.int .i64 c.regs,.slice pw c.waits.length cw,.slice (some ⟨ib,io,none⟩) c.ins.length ci] 29) (.cells #[.int .i64 x.op,.int .i64 x.a,.int .i64 x.b,.int .i64 x.c,.int .i64 x.n,.string x.s,.int .i64 x.to] 73);have e1:(w.alloc (.cells #[.int .i64 c.regs,.slice pw c.waits.length cw,.slice (some ⟨ib,io,none⟩) c.ins.length ci] 29)).heap.size=w.heap.size+1:=by simp
 rw[e1] at t2;have HS:=aa (show ISt w w.heap.size (w.heap.size+1) _ _ c x _ from⟨t3,t1,t2,B6.below t3⟩);have j1:(0:Int)≤(k:Int):=by omega
 have j2:(k:Int)<(c.ins.length:Int):=by omega
 have al:=fun (a:Addr) (vv:Value) (hh:w.cell? a=some vv) (o:Obj)=>(Below.cell ((Below.refl w.heap.size w).alloc (Nat.le_refl _) o) (World.block_lt_of_cell? _ _ hh)).trans hh;have y0:=fun o=>al _ _ x0 o;have y1:=fun o=>al _ _ x1 o;have y2:=fun o=>al _ _ x2 o;have y3:=fun o=>al _ _ x3 o;have y4:=fun o=>al _ _ x4 o;have y5:=fun o=>al _ _ x5 o;have y6:=fun o=>al _ _ x6 o;have C8:=aa (And.intro hx B3);have HU:=aa (fun W=>zny x.op W);obtain⟨u1,u2,u3,u4⟩:=zsv x.op;have C1:=aa u1;have C0:=aa u2;have B9:=aa u3;have B8:=aa u4;clear B6 t1 t2 t3 e1 B5 hx hr hk al B3 u1 u2 u3 u4;go_enter Tryz.func28,Tryz.ntmps28;go_upto_region 2 with(fail)
 obtain⟨b1,B7⟩:∃ b1,b1=w.heap.size+1:=⟨_,rfl⟩
 rw[←B7] at HS ⊢;obtain⟨b0,B1⟩:∃ b0,b0=w.heap.size:=⟨_,rfl⟩
 have B2:=aa (show ISt w b0 b1 _ _ c x _ by rw[B1]; exact HS.out);rw[←B1];clear B7 B1 HS x0 x1 x2 x3 x4 x5 x6 y0 y1 y2 y3 y4 y5 y6;generalize ((w.alloc (.cells #[.int .i64 c.regs,.slice pw c.waits.length cw,.slice (some ⟨ib,io,none⟩) c.ins.length ci] 29)).alloc (.cells #[.int .i64 x.op,.int .i64 x.a,.int .i64 x.b,.int .i64 x.c,.int .i64 x.n,.string x.s,.int .i64 x.to] 73))=w2 at *;have x0:=ab B2.out.xb 0 _ rfl;go_wp2_with fail
 refine(HU.out w2).mono ?_;rintro e w3 ⟨rfl,b3⟩;have C2:=aa (B2.out.below b3);clear x0 b3;have C3:=aa (heap_alloc_new w3 (.cells #[.string (usesT x.op)] 9));have A8:=aa (C2.out.below ((Below.refl w3.heap.size w3).alloc (Nat.le_refl _) (.cells #[.string (usesT x.op)] 9)));have x1:=ab A8.out.xb 1 _ rfl;have x2:=ab A8.out.xb 2 _ rfl;have x3:=ab A8.out.xb 3 _ rfl;go_wp2_with fail
 --LOOP
 have h4:RSl w b0 b1 w3.heap.size (w3.heap.size+1) _ _ c x ((w3.alloc (.cells #[.string (usesT x.op)] 9)).alloc (.cells #[.int .i64 x.a,.int .i64 x.b,.int .i64 x.c] 3)):=
  ⟨A8.out.below ((Below.refl _ _).alloc (Nat.le_refl _) _),(Below.heap_alloc _ _ _ (by simp)).trans C3.out,(by have:=heap_alloc_new (w3.alloc (.cells #[.string (usesT x.op)] 9)) (.cells #[.int .i64 x.a,.int .i64 x.b,.int .i64 x.c] 3); rwa [World.size_alloc] at this)⟩
 have H4:=aa h4;clear h4 x1 x2 x3 C3 A8 C2 B2;generalize ((w3.alloc (.cells #[.string (usesT x.op)] 9)).alloc (.cells #[.int .i64 x.a,.int .i64 x.b,.int .i64 x.c] 3))=w4 at *;generalize w3.heap.size+1=b3 at *;generalize w3.heap.size=b2 at *;clear HU;have A9:=aa (show okU c x 0=isOp x.op from rfl);rw[←A9.out];clear A9;go_loopw [7,32] (fun ov iv wr=>∃ j:Nat,iv=.int .i64 (j:Int)∧j≤3∧ov=.bool (okU c x j)∧wr=w4) (fun _ iv _=>3 - (intOf iv).toNat)
 case atStart=>exact⟨0,rfl,by omega,rfl,rfl⟩
 case round=>
  obtain⟨j,rfl,hj,rfl,rfl⟩:=hrel;rcases(by omega:j=0∨j=1∨j=2∨j=3) with rfl|rfl|rfl|rfl
  ·have y0:=ab H4.out.sl 0 _ rfl;have f0:=ab H4.out.fb 0 _ rfl;have c0:=ab H4.out.is.cb 0 _ rfl;have HS:=aa (show okU c x 1=(okU c x 0 && fld (eg x.op) x.a c.regs) from rfl);have HC:=aa (show Calls Tryz.prog 56 #[.string (Utf8.encode 65),.pointer (some ⟨b2,0,none⟩)] wr (Ret (.bool (eg x.op)) wr) by rw[←C1.out,show Utf8.encode 65=⟨#[65]⟩ by decide +kernel]; exact ze (usesT x.op) 65 b2 wr f0);obtain⟨q,hq⟩:∃ q,Hid (q=okU c x 1):=⟨_,rfl⟩
   rw[←hq.out] at HS;generalize okU c x 0=p at *;obtain⟨u,hu⟩:∃ u,Hid (u=eg x.op):=⟨_,rfl⟩
   rw[←hu.out] at HS HC;clear hu;generalize x.a=r at *;go_wp2_with fail
   refine HC.out.mono ?_;rintro e w5 ⟨rfl,rfl⟩;cases u with
   |true=>
    cases p with
    |false=>
     have HQ:=aa (show q=false by rw[HS.out]; rfl);go_wp2_with fail
     go_roundw;case rel=>exact⟨1,by go_num,by omega,by rw[←hq.out,HQ.out],by first|rfl|trivial⟩
     case measure=>simp[intOf]
    |true=>
     by_cases h1:0≤r
     ·have g1:decide (0≤r)=true:=decide_eq_true h1;have HQ:=aa (show q=decide (r<c.regs) by rw[HS.out]; unfold fld; simp[h1]);clear h1;go_wp2_with fail
      go_roundw;case rel=>exact⟨1,by go_num,by omega,by rw[←hq.out,HQ.out],by first|rfl|trivial⟩
      case measure=>simp[intOf]
     ·have g1:decide (0≤r)=false:=decide_eq_false h1;have HQ:=aa (show q=false by rw[HS.out]; unfold fld; simp[h1]);clear h1;go_wp2_with fail
      go_roundw;case rel=>exact⟨1,by go_num,by omega,by rw[←hq.out,HQ.out],by first|rfl|trivial⟩
      case measure=>simp[intOf]
   |false=>
    cases p with
    |false=>
     have HQ:=aa (show q=false by rw[HS.out]; rfl);go_wp2_with fail
     go_roundw;case rel=>exact⟨1,by go_num,by omega,by rw[←hq.out,HQ.out],by first|rfl|trivial⟩
     case measure=>simp[intOf]
    |true=>
     by_cases h1:r=0
     ·have g1:(r == 0)=true:=by rw[h1]; rfl
      have HQ:=aa (show q=true by rw[HS.out]; unfold fld; simp[h1]);clear h1;go_wp2_with fail
      go_roundw;case rel=>exact⟨1,by go_num,by omega,by rw[←hq.out,HQ.out],by first|rfl|trivial⟩
      case measure=>simp[intOf]
     ·have g1:(r == 0)=false:=by rw[beq_eq_false_iff_ne]; exact h1
      have HQ:=aa (show q=false by rw[HS.out]; unfold fld; simp[h1]);clear h1;go_wp2_with fail
      go_roundw;case rel=>exact⟨1,by go_num,by omega,by rw[←hq.out,HQ.out],by first|rfl|trivial⟩
      case measure=>simp[intOf]
  ·have y0:=ab H4.out.sl 1 _ rfl;have f0:=ab H4.out.fb 0 _ rfl;have c0:=ab H4.out.is.cb 0 _ rfl;have HS:=aa (show okU c x 2=(okU c x 1 && fld (fk x.op) x.b c.regs) from rfl);have HC:=aa (show Calls Tryz.prog 56 #[.string (Utf8.encode 66),.pointer (some ⟨b2,0,none⟩)] wr (Ret (.bool (fk x.op)) wr) by rw[←C0.out,show Utf8.encode 66=⟨#[66]⟩ by decide +kernel]; exact ze (usesT x.op) 66 b2 wr f0);obtain⟨q,hq⟩:∃ q,Hid (q=okU c x 2):=⟨_,rfl⟩
   rw[←hq.out] at HS;generalize okU c x 1=p at *;obtain⟨u,hu⟩:∃ u,Hid (u=fk x.op):=⟨_,rfl⟩
   rw[←hu.out] at HS HC;clear hu;generalize x.b=r at *;go_wp2_with fail
   refine HC.out.mono ?_;rintro e w5 ⟨rfl,rfl⟩;cases u with
   |true=>
    cases p with
    |false=>
     have HQ:=aa (show q=false by rw[HS.out]; rfl);go_wp2_with fail
     go_roundw;case rel=>exact⟨2,by go_num,by omega,by rw[←hq.out,HQ.out],by first|rfl|trivial⟩
     case measure=>simp[intOf]
    |true=>
     by_cases h1:0≤r
     ·have g1:decide (0≤r)=true:=decide_eq_true h1;have HQ:=aa (show q=decide (r<c.regs) by rw[HS.out]; unfold fld; simp[h1]);clear h1;go_wp2_with fail
      go_roundw;case rel=>exact⟨2,by go_num,by omega,by rw[←hq.out,HQ.out],by first|rfl|trivial⟩
      case measure=>simp[intOf]
     ·have g1:decide (0≤r)=false:=decide_eq_false h1;have HQ:=aa (show q=false by rw[HS.out]; unfold fld; simp[h1]);clear h1;go_wp2_with fail
      go_roundw;case rel=>exact⟨2,by go_num,by omega,by rw[←hq.out,HQ.out],by first|rfl|trivial⟩
      case measure=>simp[intOf]
   |false=>
    cases p with
    |false=>
     have HQ:=aa (show q=false by rw[HS.out]; rfl);go_wp2_with fail
     go_roundw;case rel=>exact⟨2,by go_num,by omega,by rw[←hq.out,HQ.out],by first|rfl|trivial⟩
     case measure=>simp[intOf]
    |true=>
     by_cases h1:r=0
     ·have g1:(r == 0)=true:=by rw[h1]; rfl
      have HQ:=aa (show q=true by rw[HS.out]; unfold fld; simp[h1]);clear h1;go_wp2_with fail
      go_roundw;case rel=>exact⟨2,by go_num,by omega,by rw[←hq.out,HQ.out],by first|rfl|trivial⟩
      case measure=>simp[intOf]
     ·have g1:(r == 0)=false:=by rw[beq_eq_false_iff_ne]; exact h1
      have HQ:=aa (show q=false by rw[HS.out]; unfold fld; simp[h1]);clear h1;go_wp2_with fail
      go_roundw;case rel=>exact⟨2,by go_num,by omega,by rw[←hq.out,HQ.out],by first|rfl|trivial⟩
      case measure=>simp[intOf]
  ·have y0:=ab H4.out.sl 2 _ rfl;have f0:=ab H4.out.fb 0 _ rfl;have c0:=ab H4.out.is.cb 0 _ rfl;have HS:=aa (show okU c x 3=(okU c x 2 && fld (gg x.op) x.c c.regs) from rfl);have HC:=aa (show Calls Tryz.prog 56 #[.string (Utf8.encode 67),.pointer (some ⟨b2,0,none⟩)] wr (Ret (.bool (gg x.op)) wr) by rw[←B9.out,show Utf8.encode 67=⟨#[67]⟩ by decide +kernel]; exact ze (usesT x.op) 67 b2 wr f0);obtain⟨q,hq⟩:∃ q,Hid (q=okU c x 3):=⟨_,rfl⟩
   rw[←hq.out] at HS;generalize okU c x 2=p at *;obtain⟨u,hu⟩:∃ u,Hid (u=gg x.op):=⟨_,rfl⟩
   rw[←hu.out] at HS HC;clear hu;generalize x.c=r at *;go_wp2_with fail
   refine HC.out.mono ?_;rintro e w5 ⟨rfl,rfl⟩;cases u with
   |true=>
    cases p with
    |false=>
     have HQ:=aa (show q=false by rw[HS.out]; rfl);go_wp2_with fail
     go_roundw;case rel=>exact⟨3,by go_num,by omega,by rw[←hq.out,HQ.out],by first|rfl|trivial⟩
     case measure=>simp[intOf]
    |true=>
     by_cases h1:0≤r
     ·have g1:decide (0≤r)=true:=decide_eq_true h1;have HQ:=aa (show q=decide (r<c.regs) by rw[HS.out]; unfold fld; simp[h1]);clear h1;go_wp2_with fail
      go_roundw;case rel=>exact⟨3,by go_num,by omega,by rw[←hq.out,HQ.out],by first|rfl|trivial⟩
      case measure=>simp[intOf]
     ·have g1:decide (0≤r)=false:=decide_eq_false h1;have HQ:=aa (show q=false by rw[HS.out]; unfold fld; simp[h1]);clear h1;go_wp2_with fail
      go_roundw;case rel=>exact⟨3,by go_num,by omega,by rw[←hq.out,HQ.out],by first|rfl|trivial⟩
      case measure=>simp[intOf]
   |false=>
    cases p with
    |false=>
     have HQ:=aa (show q=false by rw[HS.out]; rfl);go_wp2_with fail
     go_roundw;case rel=>exact⟨3,by go_num,by omega,by rw[←hq.out,HQ.out],by first|rfl|trivial⟩
     case measure=>simp[intOf]
    |true=>
     by_cases h1:r=0
     ·have g1:(r == 0)=true:=by rw[h1]; rfl
      have HQ:=aa (show q=true by rw[HS.out]; unfold fld; simp[h1]);clear h1;go_wp2_with fail
      go_roundw;case rel=>exact⟨3,by go_num,by omega,by rw[←hq.out,HQ.out],by first|rfl|trivial⟩
      case measure=>simp[intOf]
     ·have g1:(r == 0)=false:=by rw[beq_eq_false_iff_ne]; exact h1
      have HQ:=aa (show q=false by rw[HS.out]; unfold fld; simp[h1]);clear h1;go_wp2_with fail
      go_roundw;case rel=>exact⟨3,by go_num,by omega,by rw[←hq.out,HQ.out],by first|rfl|trivial⟩
      case measure=>simp[intOf]
  ·have f0:=ab H4.out.fb 0 _ rfl;have x6:=ab H4.out.is.xb 6 _ rfl;have c2:=ab H4.out.is.cb 2 _ rfl;have HC:=aa (show Calls Tryz.prog 56 #[.string ⟨#[84]⟩,.pointer (some ⟨b2,0,none⟩)] wr (Ret (.bool (kx x.op)) wr) by rw[←B8.out]; exact ze (usesT x.op) 84 b2 wr f0);have HS:=aa (show okT c (k:Int) x=(okU c x 3 && uj c (k:Int) x) from rfl);have A7:=aa (show uj c (k:Int) x=if kx x.op then decide ((k:Int)<x.to) && decide (x.to<(c.ins.length:Int)) else decide (x.to=0) from rfl);obtain⟨q,hq⟩:∃ q,Hid (q=okT c (k:Int) x):=⟨_,rfl⟩
   rw[←hq.out] at HS;generalize uj c (k:Int) x=pto at *;generalize okU c x 3=p at *;obtain⟨u,hu⟩:∃ u,Hid (u=kx x.op):=⟨_,rfl⟩
   rw[←hu.out] at A7 HC;clear hu;go_wp2_with fail
   refine HC.out.mono ?_;rintro e w5 ⟨rfl,rfl⟩;clear HC f0;go_upto_if 61 with(fail)
   go_cut [7] (fun v wx=>v=.bool q∧wx=w5);case first=>
    cases p with
    |false=>
     have HQ:=aa (show q=false by rw[HS.out]; rfl);cases u with
     |true=>
      go_wp2_with fail
      go_meet;exact⟨by rw[HQ.out],by first|rfl|trivial⟩
     |false=>
      go_wp2_with fail
      go_meet;exact⟨by rw[HQ.out],by first|rfl|trivial⟩
    |true=>
     cases u with
     |true=>
      by_cases h1:(k:Int)<x.to
      ·have g1:decide ((k:Int)<x.to)=true:=decide_eq_true h1;have HQ:=aa (show q=decide (x.to<(c.ins.length:Int)) by rw[HS.out,A7.out]; simp[h1]);clear h1;go_wp2_with fail
       go_meet;exact⟨by rw[HQ.out],by first|rfl|trivial⟩
      ·have g1:decide ((k:Int)<x.to)=false:=decide_eq_false h1;have HQ:=aa (show q=false by rw[HS.out,A7.out]; simp[h1]);clear h1;go_wp2_with fail
       go_meet;exact⟨by rw[HQ.out],by first|rfl|trivial⟩
     |false=>
      by_cases h1:x.to=0
      ·have g1:(x.to == 0)=true:=by rw[h1]; rfl
       have HQ:=aa (show q=true by rw[HS.out,A7.out]; simp[h1]);clear h1;go_wp2_with fail
       go_meet;exact⟨by rw[HQ.out],by first|rfl|trivial⟩
      ·have g1:(x.to == 0)=false:=by rw[beq_eq_false_iff_ne]; exact h1
       have HQ:=aa (show q=false by rw[HS.out,A7.out]; simp[h1]);clear h1;go_wp2_with fail
       go_meet;exact⟨by rw[HQ.out],by first|rfl|trivial⟩
   case rest=>
    obtain⟨rfl,rfl⟩:=hcut;clear x6 c2 A7 HS;have HI:=aa (show insOk c (k:Int) x=(q && (el c (k:Int) x && bu x)) by rw[hq.out]; exact zqr c (k:Int) x);have x0:=ab H4.out.is.xb 0 _ rfl;have x4:=ab H4.out.is.xb 4 _ rfl;have x5:=ab H4.out.is.xb 5 _ rfl;have c1:=ab H4.out.is.cb 1 _ rfl;have C4:(c.waits.length:Int)≤9223372036854775807:=by
     obtain⟨vw',vi',e,⟨p',c',e2,⟨a1,a2⟩, -⟩, -⟩:=H4.out.is.cd;unfold maxLen at a2; omega
    have D0:IntKind.i64.wrap ((c.waits.length:Int) - 1)=(c.waits.length:Int) - 1:=IntWalk.i64_in _ (by omega);have HB:=aa H4.out.is.bel;have D1:=C8.out.2.s;clear C7 C6 C5 j1 j2 hj hq C1 C0 B9 B8 C4;rcases(by omega:x.op=1∨x.op=2∨x.op=3∨x.op=21∨x.op=22∨x.op=27∨x.op=28∨x.op=29∨(x.op≠1∧x.op≠2∧x.op≠3∧x.op≠21∧x.op≠22∧x.op≠27∧x.op≠28∧x.op≠29)) with A0|A0|A0|A0|A0|A0|A0|A0|A0
    ·have q1:(x.op == 1)=true:=by rw[A0]; rfl
     have q2:(x.op == 2)=false:=by rw[A0]; rfl
     have q3:(x.op == 3)=false:=by rw[A0]; rfl
     have A5:(x.op == 21)=false:=by rw[A0]; rfl
     have A4:(x.op == 22)=false:=by rw[A0]; rfl
     have A3:(x.op == 27)=false:=by rw[A0]; rfl
     have A2:(x.op == 28)=false:=by rw[A0]; rfl
     have A1:(x.op == 29)=false:=by rw[A0]; rfl
     have HM:=aa (show el c (k:Int) x=within x.n (-1000000000000000) 1000000000000000 by unfold el; simp[A0]);have HX:=aa (show bu x=decide (x.s=⟨#[]⟩) by unfold bu; simp[A0]);rw[HM.out,HX.out] at HI;clear A0 HM HX;cases q with
     |false=>
      have HQ:=aa (show insOk c (k:Int) x=false by rw[HI.out]; rfl);go_wp2_with fail
      go_ret;refine⟨?_,HB.out⟩;rw[HQ.out];rfl
     |true=>
      by_cases hs:x.s=⟨#[]⟩
      ·rw[hs] at x5;rw[decide_eq_true hs,Bool.and_true,Bool.true_and] at HI;clear hs;have HQ:=HI;go_wp2_with fail
       refine(fi _ _ _ _).mono ?_;rintro e w7 ⟨rfl,rfl⟩;go_wp2_with fail
       go_ret;refine⟨?_,HB.out⟩;rw[HQ.out];rfl
      ·have A6:x.s.toList.isEmpty=false:=eh hs;rw[decide_eq_false hs,Bool.and_false,Bool.and_false] at HI;have HQ:=HI;clear hs;go_wp2_with fail
       go_ret;refine⟨?_,HB.out⟩;rw[HQ.out];rfl
    ·have q1:(x.op == 1)=false:=by rw[A0]; rfl
     have q2:(x.op == 2)=true:=by rw[A0]; rfl
     have q3:(x.op == 3)=false:=by rw[A0]; rfl
     have A5:(x.op == 21)=false:=by rw[A0]; rfl
     have A4:(x.op == 22)=false:=by rw[A0]; rfl
     have A3:(x.op == 27)=false:=by rw[A0]; rfl
     have A2:(x.op == 28)=false:=by rw[A0]; rfl
     have A1:(x.op == 29)=false:=by rw[A0]; rfl
     have HM:=aa (show el c (k:Int) x=within x.n 0 3660 by unfold el; simp[A0]);have HX:=aa (show bu x=Led.isName x.s by unfold bu; simp[A0]);rw[HM.out,HX.out] at HI;clear A0 HM HX;cases q with
     |false=>
      have HQ:=aa (show insOk c (k:Int) x=false by rw[HI.out]; rfl);go_wp2_with fail
      go_ret;refine⟨?_,HB.out⟩;rw[HQ.out];rfl
     |true=>
      obtain⟨nm,B4⟩:∃ nm,Hid (Led.isName x.s=nm):=⟨_,aa rfl⟩
      rw[B4.out] at HI;have HN:=aa (fun W=>zat x.s W (by omega));rw[B4.out] at HN;go_wp2_with fail
      refine(HN.out _).mono ?_;rintro e w6 ⟨rfl,b6⟩;have H6:=aa (H4.out.is.below b6);have C9:=ab H6.out.xb 4 _ rfl;clear x0 x4 x5 c1 b6;cases nm with
      |false=>
       have HQ:=aa (show insOk c (k:Int) x=false by rw[HI.out,Bool.and_false]; rfl);go_wp2_with fail
       go_ret;refine⟨?_,H6.out.bel⟩;rw[HQ.out];rfl
      |true=>
       have HQ:=aa (show insOk c (k:Int) x=within x.n 0 3660 by rw[HI.out,Bool.and_true,Bool.true_and]);go_wp2_with fail
       refine(fi _ _ _ _).mono ?_;rintro e w7 ⟨rfl,rfl⟩;go_wp2_with fail
       go_ret;refine⟨?_,H6.out.bel⟩;rw[HQ.out];rfl
    ·have q1:(x.op == 1)=false:=by rw[A0]; rfl
     have q2:(x.op == 2)=false:=by rw[A0]; rfl
     have q3:(x.op == 3)=true:=by rw[A0]; rfl
     have A5:(x.op == 21)=false:=by rw[A0]; rfl
     have A4:(x.op == 22)=false:=by rw[A0]; rfl
     have A3:(x.op == 27)=false:=by rw[A0]; rfl
     have A2:(x.op == 28)=false:=by rw[A0]; rfl
     have A1:(x.op == 29)=false:=by rw[A0]; rfl
     have HM:=aa (show el c (k:Int) x=within x.n 0 3660 by unfold el; simp[A0]);have HX:=aa (show bu x=decide (x.s=⟨#[]⟩) by unfold bu; simp[A0]);rw[HM.out,HX.out] at HI;clear A0 HM HX;cases q with
     |false=>
      have HQ:=aa (show insOk c (k:Int) x=false by rw[HI.out]; rfl);go_wp2_with fail
      go_ret;refine⟨?_,HB.out⟩;rw[HQ.out];rfl
     |true=>
      by_cases hs:x.s=⟨#[]⟩
      ·rw[hs] at x5;rw[decide_eq_true hs,Bool.and_true,Bool.true_and] at HI;clear hs;have HQ:=HI;go_wp2_with fail
       refine(fi _ _ _ _).mono ?_;rintro e w7 ⟨rfl,rfl⟩;go_wp2_with fail
       go_ret;refine⟨?_,HB.out⟩;rw[HQ.out];rfl
      ·have A6:x.s.toList.isEmpty=false:=eh hs;rw[decide_eq_false hs,Bool.and_false,Bool.and_false] at HI;have HQ:=HI;clear hs;go_wp2_with fail
       go_ret;refine⟨?_,HB.out⟩;rw[HQ.out];rfl
    ·have q1:(x.op == 1)=false:=by rw[A0]; rfl
     have q2:(x.op == 2)=false:=by rw[A0]; rfl
     have q3:(x.op == 3)=false:=by rw[A0]; rfl
     have A5:(x.op == 21)=true:=by rw[A0]; rfl
     have A4:(x.op == 22)=false:=by rw[A0]; rfl
     have A3:(x.op == 27)=false:=by rw[A0]; rfl
     have A2:(x.op == 28)=false:=by rw[A0]; rfl
     have A1:(x.op == 29)=false:=by rw[A0]; rfl
     have HM:=aa (show el c (k:Int) x=within x.n 0 73048 by unfold el; simp[A0]);have HX:=aa (show bu x=decide (x.s=⟨#[]⟩) by unfold bu; simp[A0]);rw[HM.out,HX.out] at HI;clear A0 HM HX;cases q with
     |false=>
      have HQ:=aa (show insOk c (k:Int) x=false by rw[HI.out]; rfl);go_wp2_with fail
      go_ret;refine⟨?_,HB.out⟩;rw[HQ.out];rfl
     |true=>
      by_cases hs:x.s=⟨#[]⟩
      ·rw[hs] at x5;rw[decide_eq_true hs,Bool.and_true,Bool.true_and] at HI;clear hs;have HQ:=HI;go_wp2_with fail
       refine(fi _ _ _ _).mono ?_;rintro e w7 ⟨rfl,rfl⟩;go_wp2_with fail
       go_ret;refine⟨?_,HB.out⟩;rw[HQ.out];rfl
      ·have A6:x.s.toList.isEmpty=false:=eh hs;rw[decide_eq_false hs,Bool.and_false,Bool.and_false] at HI;have HQ:=HI;clear hs;go_wp2_with fail
       go_ret;refine⟨?_,HB.out⟩;rw[HQ.out];rfl
    ·have q1:(x.op == 1)=false:=by rw[A0]; rfl
     have q2:(x.op == 2)=false:=by rw[A0]; rfl
     have q3:(x.op == 3)=false:=by rw[A0]; rfl
     have A5:(x.op == 21)=false:=by rw[A0]; rfl
     have A4:(x.op == 22)=true:=by rw[A0]; rfl
     have A3:(x.op == 27)=false:=by rw[A0]; rfl
     have A2:(x.op == 28)=false:=by rw[A0]; rfl
     have A1:(x.op == 29)=false:=by rw[A0]; rfl
     have HM:=aa (show el c (k:Int) x=within x.n 0 73048 by unfold el; simp[A0]);have HX:=aa (show bu x=decide (x.s=⟨#[]⟩) by unfold bu; simp[A0]);rw[HM.out,HX.out] at HI;clear A0 HM HX;cases q with
     |false=>
      have HQ:=aa (show insOk c (k:Int) x=false by rw[HI.out]; rfl);go_wp2_with fail
      go_ret;refine⟨?_,HB.out⟩;rw[HQ.out];rfl
     |true=>
      by_cases hs:x.s=⟨#[]⟩
      ·rw[hs] at x5;rw[decide_eq_true hs,Bool.and_true,Bool.true_and] at HI;clear hs;have HQ:=HI;go_wp2_with fail
       refine(fi _ _ _ _).mono ?_;rintro e w7 ⟨rfl,rfl⟩;go_wp2_with fail
       go_ret;refine⟨?_,HB.out⟩;rw[HQ.out];rfl
      ·have A6:x.s.toList.isEmpty=false:=eh hs;rw[decide_eq_false hs,Bool.and_false,Bool.and_false] at HI;have HQ:=HI;clear hs;go_wp2_with fail
       go_ret;refine⟨?_,HB.out⟩;rw[HQ.out];rfl
    ·have q1:(x.op == 1)=false:=by rw[A0]; rfl
     have q2:(x.op == 2)=false:=by rw[A0]; rfl
     have q3:(x.op == 3)=false:=by rw[A0]; rfl
     have A5:(x.op == 21)=false:=by rw[A0]; rfl
     have A4:(x.op == 22)=false:=by rw[A0]; rfl
     have A3:(x.op == 27)=true:=by rw[A0]; rfl
     have A2:(x.op == 28)=false:=by rw[A0]; rfl
     have A1:(x.op == 29)=false:=by rw[A0]; rfl
     have HM:=aa (show el c (k:Int) x=decide (x.n=0) by unfold el; simp[A0]);have HX:=aa (show bu x=Led.isCur x.s by unfold bu; simp[A0]);rw[HM.out,HX.out] at HI;clear A0 HM HX;cases q with
     |false=>
      have HQ:=aa (show insOk c (k:Int) x=false by rw[HI.out]; rfl);go_wp2_with fail
      go_ret;refine⟨?_,HB.out⟩;rw[HQ.out];rfl
     |true=>
      by_cases hn:x.n=0
      ·have g1:(x.n == 0)=true:=by rw[hn]; rfl
       have HQ:=aa (show insOk c (k:Int) x=Led.isCur x.s by rw[HI.out,decide_eq_true hn,Bool.true_and,Bool.true_and]);clear hn;go_wp2_with fail
       refine(zjs x.s _ (by omega)).mono ?_;rintro e w6 ⟨rfl,b6⟩;have H6:=aa (H4.out.is.below b6);clear b6;go_wp2_with fail
       go_ret;refine⟨?_,H6.out.bel⟩;rw[HQ.out];rfl
      ·have g1:(x.n == 0)=false:=by rw[beq_eq_false_iff_ne]; exact hn
       have HQ:=aa (show insOk c (k:Int) x=false by rw[HI.out,decide_eq_false hn]; rfl);clear hn;go_wp2_with fail
       go_ret;refine⟨?_,HB.out⟩;rw[HQ.out];rfl
    ·have q1:(x.op == 1)=false:=by rw[A0]; rfl
     have q2:(x.op == 2)=false:=by rw[A0]; rfl
     have q3:(x.op == 3)=false:=by rw[A0]; rfl
     have A5:(x.op == 21)=false:=by rw[A0]; rfl
     have A4:(x.op == 22)=false:=by rw[A0]; rfl
     have A3:(x.op == 27)=false:=by rw[A0]; rfl
     have A2:(x.op == 28)=true:=by rw[A0]; rfl
     have A1:(x.op == 29)=false:=by rw[A0]; rfl
     have HM:=aa (show el c (k:Int) x=within x.n 0 ((c.waits.length:Int) - 1) by unfold el; simp[A0]);have HX:=aa (show bu x=decide (x.s=⟨#[]⟩) by unfold bu; simp[A0]);rw[HM.out,HX.out] at HI;clear A0 HM HX;cases q with
     |false=>
      have HQ:=aa (show insOk c (k:Int) x=false by rw[HI.out]; rfl);go_wp2_with fail
      go_ret;refine⟨?_,HB.out⟩;rw[HQ.out];rfl
     |true=>
      by_cases hs:x.s=⟨#[]⟩
      ·rw[hs] at x5;rw[decide_eq_true hs,Bool.and_true,Bool.true_and] at HI;clear hs;have HQ:=HI;go_wp2_with fail
       refine(fi _ _ _ _).mono ?_;rintro e w7 ⟨rfl,rfl⟩;go_wp2_with fail
       go_ret;refine⟨?_,HB.out⟩;rw[HQ.out];rfl
      ·have A6:x.s.toList.isEmpty=false:=eh hs;rw[decide_eq_false hs,Bool.and_false,Bool.and_false] at HI;have HQ:=HI;clear hs;go_wp2_with fail
       go_ret;refine⟨?_,HB.out⟩;rw[HQ.out];rfl
    ·have q1:(x.op == 1)=false:=by rw[A0]; rfl
     have q2:(x.op == 2)=false:=by rw[A0]; rfl
     have q3:(x.op == 3)=false:=by rw[A0]; rfl
     have A5:(x.op == 21)=false:=by rw[A0]; rfl
     have A4:(x.op == 22)=false:=by rw[A0]; rfl
     have A3:(x.op == 27)=false:=by rw[A0]; rfl
     have A2:(x.op == 28)=false:=by rw[A0]; rfl
     have A1:(x.op == 29)=true:=by rw[A0]; rfl
     have HM:=aa (show el c (k:Int) x=(within x.n 0 ((c.waits.length:Int) - 1) && decide ((k:Int)<dq c x.n)) by unfold el; simp[A0]);have HX:=aa (show bu x=decide (x.s=⟨#[]⟩) by unfold bu; simp[A0]);rw[HM.out,HX.out] at HI;clear A0 HM HX;cases q with
     |false=>
      have HQ:=aa (show insOk c (k:Int) x=false by rw[HI.out]; rfl);go_wp2_with fail
      go_ret;refine⟨?_,HB.out⟩;rw[HQ.out];rfl
     |true=>
      by_cases hs:x.s=⟨#[]⟩
      ·rw[hs] at x5;rw[decide_eq_true hs,Bool.and_true,Bool.true_and] at HI;clear hs;go_wp2_with fail
       refine(fi _ _ _ _).mono ?_;rintro e w7 ⟨rfl,rfl⟩;by_cases hw:within x.n 0 ((c.waits.length:Int) - 1)=true
       ·have hn:0≤x.n∧x.n<(c.waits.length:Int):=by unfold within at hw; simp at hw; omega
        have HQ:=aa (show insOk c (k:Int) x=decide ((k:Int)<dq c x.n) by rw[HI.out,hw,Bool.true_and]);rw[hw];obtain⟨wt,B0⟩:∃ wt,c.waits[x.n.toNat]? = some wt:=⟨_,List.getElem?_eq_getElem (by omega)⟩
        rw[show dq c x.n=wt.entry by unfold dq; rw[B0]] at HQ;obtain⟨wb,wo,rfl,z0, -⟩:=H4.out.is.cd.waitCells B0;have D3:=hn.1;have D2:=hn.2;have g1:decide (0≤x.n)=true:=decide_eq_true hn.1;have g2:decide (x.n<(c.waits.length:Int))=true:=decide_eq_true hn.2;clear hn hw B0;go_wp2_with fail
        go_ret;refine⟨?_,HB.out⟩;rw[HQ.out];rfl
       ·have hw:within x.n 0 ((c.waits.length:Int) - 1)=false:=by simpa using hw
        have HQ:=aa (show insOk c (k:Int) x=false by rw[HI.out,hw,Bool.false_and]);rw[hw];go_wp2_with fail
        go_ret;refine⟨?_,HB.out⟩;rw[HQ.out];rfl
      ·have A6:x.s.toList.isEmpty=false:=eh hs;rw[decide_eq_false hs,Bool.and_false,Bool.and_false] at HI;have HQ:=HI;clear hs;go_wp2_with fail
       go_ret;refine⟨?_,HB.out⟩;rw[HQ.out];rfl
    ·have q1:(x.op == 1)=false:=by rw[beq_eq_false_iff_ne]; omega
     have q2:(x.op == 2)=false:=by rw[beq_eq_false_iff_ne]; omega
     have q3:(x.op == 3)=false:=by rw[beq_eq_false_iff_ne]; omega
     have A5:(x.op == 21)=false:=by rw[beq_eq_false_iff_ne]; omega
     have A4:(x.op == 22)=false:=by rw[beq_eq_false_iff_ne]; omega
     have A3:(x.op == 27)=false:=by rw[beq_eq_false_iff_ne]; omega
     have A2:(x.op == 28)=false:=by rw[beq_eq_false_iff_ne]; omega
     have A1:(x.op == 29)=false:=by rw[beq_eq_false_iff_ne]; omega
     have HM:=aa (show el c (k:Int) x=decide (x.n=0) by unfold el; simp[A0.1,A0.2.1,A0.2.2.1,A0.2.2.2.1,A0.2.2.2.2.1,A0.2.2.2.2.2.2.1,A0.2.2.2.2.2.2.2]);have HX:=aa (show bu x=decide (x.s=⟨#[]⟩) by unfold bu; simp[A0.2.1,A0.2.2.2.2.2.1]);rw[HM.out,HX.out] at HI;clear A0 HM HX;cases q with
     |false=>
      have HQ:=aa (show insOk c (k:Int) x=false by rw[HI.out]; rfl);go_wp2_with fail
      go_ret;refine⟨?_,HB.out⟩;rw[HQ.out];rfl
     |true=>
      by_cases hs:x.s=⟨#[]⟩
      ·rw[hs] at x5;rw[decide_eq_true hs,Bool.and_true,Bool.true_and] at HI;clear hs;have HQ:=aa (show insOk c (k:Int) x=(x.n == 0) by rw[HI.out]; by_cases hn:x.n=0<;>simp[hn]);go_wp2_with fail
       go_ret;refine⟨?_,HB.out⟩;rw[HQ.out];rfl
      ·have A6:x.s.toList.isEmpty=false:=eh hs;rw[decide_eq_false hs,Bool.and_false,Bool.and_false] at HI;have HQ:=HI;clear hs;go_wp2_with fail
       go_ret;refine⟨?_,HB.out⟩;rw[HQ.out];rfl
end
section
open Go.RowKit
open Gen
set_option maxRecDepth 100000
theorem znh (n:Int)(m b:Nat)(w:World)(hm:w.cell? ⟨b,0,none⟩=some (.int .i64 (m:Int))):Calls Tryz.prog 26 #[.int .i64 n,.pointer (some ⟨b,0,none⟩)] w (Ret (.bool (decide (0≤n) && decide (n<(m:Int)))) w):=by
 by_cases h1:0≤n
 ·have g1:decide (0≤n)=true:=decide_eq_true h1;have e:=aa (show(decide (0≤n) && decide (n<(m:Int)))=decide (n<(m:Int)) by rw[g1,Bool.true_and]);rw[e.out];clear h1;go_enter Tryz.func26,Tryz.ntmps26;go_wp2_with fail
  go_ret;exact⟨rfl,rfl⟩
 ·have g1:decide (0≤n)=false:=decide_eq_false h1;have e:=aa (show(decide (0≤n) && decide (n<(m:Int)))=false by rw[g1,Bool.false_and]);rw[e.out];clear h1;go_enter Tryz.func26,Tryz.ntmps26;go_wp2_with fail
  go_ret;exact⟨rfl,rfl⟩
structure GSt (w:World)(b0 b3:Nat)(vw vi:Value)(c:Gen.Cd)(W:World):Prop where
 r:RSt w b0 vw vi c W
 nb:W.heap[b3]? = some (.cells #[.int .i64 (c.ins.length:Int)] 3 (0,0))
theorem GSt.below {w:World}{b0 b3:Nat}{vw vi:Value}{c:Gen.Cd}{W W':World}(h:GSt w b0 b3 vw vi c W)(B:Below W.heap.size W W'):GSt w b0 b3 vw vi c W':=⟨h.r.below B,ag B h.nb⟩
theorem zgi {n lo hi:Int}(h:n<lo∨hi<n):within n lo hi=false:=by unfold within; rcases h with h|h<;>simp<;>omega
theorem zec {n lo hi:Int}(h:lo≤n)(h2:n≤hi):within n lo hi=true:=by unfold within; simp[h,h2]
def mu (x:Gen.Wt):Bool:=decide (¬(x.label=⟨#[]⟩∧x.first=0∧x.second=0))
theorem zmx (c:Gen.Cd)(x:Gen.Wt):kz c x=(place c x.entry && (within x.day 0 73048 && (bif mu x then Led.isName x.label && (place c x.first && place c x.second) else true))):=by
 unfold kz;by_cases hl:x.label=⟨#[]⟩
 ·rw[if_pos hl,hl,show Led.isName (⟨#[]⟩:ByteArray)=false from rfl,Bool.false_and];unfold mu;by_cases hf:x.first=0<;>by_cases hs:x.second=0<;>simp[hl,hf,hs]
 ·rw[if_neg hl,show mu x=true by unfold mu; simp[hl]];rfl
set_option maxHeartbeats 8000000 in
theorem uy (v:Value)(c:Gen.Cd)(w:World)(h:CdAt w v c):Calls Tryz.prog 11 #[v] w (ar (.bool (Gen.right c)) w):=by
 have B7:=h;obtain⟨vw,vi,rfl,⟨pw,cw,rfl,⟨D1,B3⟩, -⟩,⟨pi,ci,rfl,⟨D3,B5⟩, -⟩,hr⟩:=h;have B0:=(Below.refl w.heap.size w).alloc (Nat.le_refl _) (.cells #[.int .i64 c.regs,.slice pw c.waits.length cw,.slice pi c.ins.length ci] 29);have HS:=aa (show RSt w w.heap.size _ _ c _ from⟨B0,heap_alloc_new w _,B7.below B0⟩);have B4:(c.ins.length:Int)≤9223372036854775807:=by unfold maxLen at B5; omega
 have B2:(c.waits.length:Int)≤9223372036854775807:=by unfold maxLen at B3; omega
 have C7:=aa B4;have C4:=aa B2;clear B7 B0 B5 B3 B4 B2;go_enter Tryz.func11,Tryz.ntmps11;go_upto_region 1 with(fail)
 obtain⟨b0,B9⟩:∃ b0,b0=w.heap.size:=⟨_,rfl⟩
 rw[←B9] at HS ⊢;clear B9;generalize w.alloc (.cells #[.int .i64 c.regs,.slice pw c.waits.length cw,.slice pi c.ins.length ci] 29)=w2 at *;have c0:=ab HS.out.cb 0 _ rfl;have c1:=ab HS.out.cb 1 _ rfl;have c2:=ab HS.out.cb 2 _ rfl;have HG:=aa (show GSt w b0 w2.heap.size _ _ c (w2.alloc (.cells #[.int .i64 (c.ins.length:Int)] 3)) from⟨HS.out.below ((Below.refl _ _).alloc (Nat.le_refl _) _),heap_alloc_new _ _⟩);go_upto_region 2 with(fail)
 clear c0 c1 c2 HS;generalize w2.alloc (.cells #[.int .i64 (c.ins.length:Int)] 3)=w3 at *;generalize w2.heap.size=b3 at *;have c0:=ab HG.out.r.cb 0 _ rfl;have c1:=ab HG.out.r.cb 1 _ rfl;have c2:=ab HG.out.r.cb 2 _ rfl;have c3:=ab HG.out.nb 0 _ rfl;have A2:=aa (fun hh=>znf (c:=c) hh);by_cases h1:c.regs<0∨256<c.regs
 ·have g1:within c.regs 0 256=false:=zgi h1;have HW:=aa (A2.out (by rcases h1 with h|h; exact .inl h; exact .inr (.inl h)));clear h1;go_wp2_with (first|(go_at_call 25; refine(fi _ _ _ _).mono ?_; rintro e w' ⟨rfl,rfl⟩))
  go_ret;refine⟨?_,HG.out.r.bel⟩;rw[HW.out];rfl
 have g1:within c.regs 0 256=true:=zec (by omega) (by omega);by_cases h3:250<c.waits.length
 ·have g3:decide (250<c.waits.length)=true:=decide_eq_true h3;have g3i:decide ((250:Int)<(c.waits.length:Int))=true:=decide_eq_true (by omega);have HW:=aa (A2.out (.inr (.inr (.inl h3))));clear h1 h3;go_wp2_with (first|(go_at_call 25; refine(fi _ _ _ _).mono ?_; rintro e w' ⟨rfl,rfl⟩))
  go_ret;refine⟨?_,HG.out.r.bel⟩;rw[HW.out];rfl
 have g3:decide (250<c.waits.length)=false:=decide_eq_false h3;have g3i:decide ((250:Int)<(c.waits.length:Int))=false:=decide_eq_false (by omega);by_cases h4:c.ins.length<1∨16384<c.ins.length
 ·have g4:within (c.ins.length:Int) 1 16384=false:=zgi (by omega);have HW:=aa (A2.out (by rcases h4 with h|h; exact .inr (.inr (.inr (.inl h))); exact .inr (.inr (.inr (.inr (.inl h))))));clear h1 h3 h4;go_wp2_with (first|(go_at_call 25; refine(fi _ _ _ _).mono ?_; rintro e w' ⟨rfl,rfl⟩))
  go_ret;refine⟨?_,HG.out.r.bel⟩;rw[HW.out];rfl
 have g4:within (c.ins.length:Int) 1 16384=true:=zec (by omega) (by omega);obtain⟨y,hy⟩:∃ y,c.ins[c.ins.length - 1]? = some y:=⟨_,List.getElem?_eq_getElem (by omega)⟩
 have A0:=zqm hy;obtain⟨ib,io,rfl,z0⟩:=HG.out.r.cd.insCells hy;have v1:IntKind.i64.wrap ((c.ins.length:Int) - 1)=(c.ins.length:Int) - 1:=IntWalk.i64_in _ (by omega);have v2:(0:Int)≤(c.ins.length:Int) - 1:=by omega
 have v3:(1:Int)≤(c.ins.length:Int):=by omega
 have v4:(c.ins.length:Int) - 1<(c.ins.length:Int):=by omega
 have v5:((c.ins.length:Int) - 1).toNat=c.ins.length - 1:=by omega
 by_cases h6:y.op=30;case neg=>
  have q1:(y.op == 30)=false:=by rw[beq_eq_false_iff_ne]; exact h6
  have q2:(y.op != 30)=true:=by rw[bne_iff_ne]; exact h6
  have HW:=aa (A2.out (.inr (.inr (.inr (.inr (.inr (by rw[A0]; exact h6)))))));clear h1 h3 h4 h6 hy A0;go_wp2_with (first|(go_at_call 25; refine(fi _ _ _ _).mono ?_; rintro e w' ⟨rfl,rfl⟩))
  go_ret;refine⟨?_,HG.out.r.bel⟩;rw[HW.out];rfl
 have q1:(y.op == 30)=true:=by rw[h6]; rfl
 have q2:(y.op != 30)=false:=by rw[h6]; rfl
 have A7:=aa (show(0≤c.regs∧c.regs≤256)∧c.waits.length≤250∧1≤c.ins.length∧c.ins.length≤16384∧ml c.ins=30 from⟨⟨by omega,by omega⟩,by omega,by omega,by omega,by rw[A0]; exact h6⟩);have C5:=aa (show ∀ j,j<0→∀ x,c.waits[j]? = some x→kz c x=true from fun j hj=>by omega);clear h1 h3 h4 h6 hy A0;go_wp2_with (first|(go_at_call 25; refine(fi _ _ _ _).mono ?_; rintro e w' ⟨rfl,rfl⟩))
 go_loopw [41] (fun iv wr=>∃ i:Nat,iv=.int .i64 (i:Int)∧i≤c.waits.length∧Hid (∀ j,j<i→∀ x,c.waits[j]? = some x→kz c x=true)∧Hid (GSt w b0 b3 (.slice pw c.waits.length cw) (.slice (some ⟨ib,io,none⟩) c.ins.length ci) c wr)) (fun iv _=>c.waits.length - (intOf iv).toNat)
 case atStart=>exact⟨0,rfl,Nat.zero_le _,C5,HG⟩
 case round=>
  obtain⟨i,rfl,hi,HA,HR⟩:=hrel;clear c0 c1 c2 c3 z0;have c0:=ab HR.out.r.cb 0 _ rfl;have c1:=ab HR.out.r.cb 1 _ rfl;have c2:=ab HR.out.r.cb 2 _ rfl;have c3:=ab HR.out.nb 0 _ rfl;by_cases A1:i<c.waits.length
  ·obtain⟨x,hx⟩:∃ x,c.waits[i]? = some x:=⟨_,List.getElem?_eq_getElem A1⟩
   obtain⟨wb,wo,rfl,⟨y0,y1,y2,y3,y4⟩,B1⟩:=HR.out.r.cd.waitCells hx;have C3:=C4.out;have j1:(0:Int)≤(i:Int):=by omega
   have j2:(i:Int)<(c.waits.length:Int):=by omega
   have wi:IntKind.i64.wrap ((i:Int)+1)=(i:Int)+1:=IntWalk.i64_in _ (by omega);have HX:=aa (And.intro hx B1);have HI:=aa A1;clear hx B1 A1;go_upto_region 8 with(fail)
   have B6:=(Below.refl wr.heap.size wr).alloc (Nat.le_refl _) (.cells #[.int .i64 x.entry,.int .i64 x.day,.string x.label,.int .i64 x.first,.int .i64 x.second] 76);have H6:=aa (show GSt w b0 b3 _ _ c _∧zzx _ wr.heap.size x from⟨HR.out.below B6,heap_alloc_new wr _⟩);clear c0 c1 c2 c3 y0 y1 y2 y3 y4 B6 HR;generalize wr.alloc (.cells #[.int .i64 x.entry,.int .i64 x.day,.string x.label,.int .i64 x.first,.int .i64 x.second] 76)=w6 at *;generalize wr.heap.size=b6 at *;have z0:=ab H6.out.2 0 _ rfl;have z1:=ab H6.out.2 1 _ rfl;have z2:=ab H6.out.2 2 _ rfl;have z3:=ab H6.out.2 3 _ rfl;have z4:=ab H6.out.2 4 _ rfl;go_cut [7] (fun v wx=>v=.bool (mu x)∧wx=w6);case first=>
    by_cases hl:x.label=⟨#[]⟩
    ·rw[hl] at z2;by_cases hf:x.first=0
     ·rw[hf] at z3;by_cases hs:x.second=0
      ·rw[hs] at z4;have HN:=aa (show mu x=false by unfold mu; simp[hl,hf,hs]);clear hl hf hs;go_wp2_with fail
       go_meet;exact⟨by rw[HN.out],rfl⟩
      ·have HN:=aa (show mu x=true by unfold mu; simp[hs]);have g:(x.second == 0)=false:=by rw[beq_eq_false_iff_ne]; exact hs
       clear hl hf hs;go_wp2_with fail
       go_meet;exact⟨by rw[HN.out],rfl⟩
     ·have HN:=aa (show mu x=true by unfold mu; simp[hf]);have g:(x.first == 0)=false:=by rw[beq_eq_false_iff_ne]; exact hf
      clear hl hf;go_wp2_with fail
      go_meet;exact⟨by rw[HN.out],rfl⟩
    ·have HN:=aa (show mu x=true by unfold mu; simp[hl]);have D2:x.label.toList.isEmpty=false:=eh hl;clear hl;go_wp2_with fail
     go_meet;exact⟨by rw[HN.out],rfl⟩
   case rest=>
    obtain⟨rfl,rfl⟩:=hcut;clear z0 z1 z2 z3 z4;have z0:=ab H6.out.2 0 _ rfl;have z1:=ab H6.out.2 1 _ rfl;have z2:=ab H6.out.2 2 _ rfl;have HP:=aa (fun (n:Int) (W:World) (B:Below wc.heap.size wc W)=>(show Calls Tryz.prog 26 #[.int .i64 n,.pointer (some ⟨b3,0,none⟩)] W (Ret (.bool (place c n)) W) from znh n c.ins.length b3 W (ab (ag B H6.out.1.nb) 0 _ rfl)));have C2:=aa (fun W=>zat x.label W (by have:=HX.out.2.label; omega));have A4:=aa (zmx c x);obtain⟨ok,A3⟩:∃ ok,Hid (ok=kz c x):=⟨_,rfl⟩
    rw[←A3.out] at A4;have A6:=aa (HP.out x.entry);have C1:=aa (HP.out x.first);have C0:=aa (HP.out x.second);have A8:=aa (fun W=>fi x.day 0 73048 W);generalize place c x.entry=p1 at *;generalize place c x.first=p4 at *;generalize place c x.second=p5 at *;generalize within x.day 0 73048=p2 at *;generalize mu x=nm at *;generalize Led.isName x.label=p3 at *;clear HP;go_upto_region 9 with(fail)
    go_cut [85] (fun v wx=>v=.bool (!ok)∧Hid (Below wc.heap.size wc wx));case first=>
     cases p1 with
     |false=>
      have HQ:=aa (show ok=false by rw[A4.out]; rfl);go_wp2_with (first|(go_at_call 26; refine(A6.out _ (Below.refl _ _)).mono ?_; rintro e w' ⟨rfl,rfl⟩))
      go_meet;exact⟨by rw[HQ.out]; rfl,Below.refl _ _⟩
     |true=>
      cases p2 with
      |false=>
       have HQ:=aa (show ok=false by rw[A4.out]; rfl);go_wp2_with (first|(go_at_call 26; refine(A6.out _ (Below.refl _ _)).mono ?_; rintro e w' ⟨rfl,rfl⟩)|(go_at_call 25; refine(A8.out _).mono ?_; rintro e w' ⟨rfl,rfl⟩))
       go_meet;exact⟨by rw[HQ.out]; rfl,Below.refl _ _⟩
      |true=>
       cases nm with
       |false=>
        have HQ:=aa (show ok=true by rw[A4.out]; rfl);go_wp2_with (first|(go_at_call 26; refine(A6.out _ (Below.refl _ _)).mono ?_; rintro e w' ⟨rfl,rfl⟩)|(go_at_call 25; refine(A8.out _).mono ?_; rintro e w' ⟨rfl,rfl⟩))
        go_meet;exact⟨by rw[HQ.out]; rfl,Below.refl _ _⟩
       |true=>
        go_wp2_with (first|(go_at_call 26; refine(A6.out _ (Below.refl _ _)).mono ?_; rintro e w' ⟨rfl,rfl⟩)|(go_at_call 25; refine(A8.out _).mono ?_; rintro e w' ⟨rfl,rfl⟩))
        refine(C2.out _).mono ?_;rintro e w8 ⟨rfl,b8⟩;have y3:=ab (ag b8 H6.out.2) 3 _ rfl;have y4:=ab (ag b8 H6.out.2) 4 _ rfl;have C9:=aa (C1.out w8 b8);have C6:=aa (C0.out w8 b8);have B8:=aa b8;clear b8 z0 z1 z2;cases p3 with
        |false=>
         have HQ:=aa (show ok=false by rw[A4.out]; rfl);go_wp2_with fail
         go_meet;exact⟨by rw[HQ.out]; rfl,B8⟩
        |true=>
         go_wp2_with fail
         refine C9.out.mono ?_;rintro e w9 ⟨rfl,rfl⟩;cases p4 with
         |false=>
          have HQ:=aa (show ok=false by rw[A4.out]; rfl);go_wp2_with fail
          go_meet;exact⟨by rw[HQ.out]; rfl,B8⟩
         |true=>
          have HQ:=aa (show ok=p5 by rw[A4.out]; rfl);go_wp2_with fail
          refine C6.out.mono ?_;rintro e D0 ⟨rfl,rfl⟩;go_wp2_with fail
          go_meet;exact⟨by rw[HQ.out],B8⟩
    case rest=>
     obtain⟨rfl,hb⟩:=hcut;have A5:=aa (H6.out.1.below hb.out);clear hb z0 z1 z2 C2 A6 C1 C0 A8 H6 A4;cases ok with
     |false=>
      have HW:=aa (zne HX.out.1 A3.out.symm);go_wp2_with fail
      go_ret;refine⟨?_,A5.out.r.bel⟩;rw[HW.out];rfl
     |true=>
      have A9:=aa (show ∀ j,j<i+1→∀ z,c.waits[j]? = some z→kz c z=true from fun j hj z hz=>by
       rcases Nat.lt_or_ge j i with h1|h1
       ·exact HA.out j h1 z hz
       ·obtain rfl:j=i:=by omega
        have:=HX.out.1;rw[hz] at this;cases this;exact A3.out.symm)
      go_wp2_with fail
      go_roundw;case rel=>exact⟨i+1,by go_num,by have:=HI.out; omega,A9,A5⟩
      case measure=>have:=HI.out; simp[intOf]; omega
  ·obtain rfl:i=c.waits.length:=by omega
   have g9:decide (c.waits.length<c.waits.length)=false:=by simp
   have C8:=aa (show ∀(j:Nat),j<0→∀ x,c.ins[j]? = some x→insOk c (j:Int) x=true from fun j hj=>by omega);clear A1;go_wp2_with fail
   go_loopw [90] (fun iv wz=>∃ i:Nat,iv=.int .i64 (i:Int)∧i≤c.ins.length∧Hid (∀(j:Nat),j<i→∀ x,c.ins[j]? = some x→insOk c (j:Int) x=true)∧Hid (GSt w b0 b3 (.slice pw c.waits.length cw) (.slice (some ⟨ib,io,none⟩) c.ins.length ci) c wz)) (fun iv _=>c.ins.length - (intOf iv).toNat)
   case atStart=>exact⟨0,rfl,Nat.zero_le _,C8,HR⟩
   case round=>
    obtain⟨i,rfl,hi,HJ,HV⟩:=hrel;clear c0 c1 c2 c3;have c0:=ab HV.out.r.cb 0 _ rfl;have c1:=ab HV.out.r.cb 1 _ rfl;have c2:=ab HV.out.r.cb 2 _ rfl;by_cases A1:i<c.ins.length
    ·obtain⟨x,hx⟩:∃ x,c.ins[i]? = some x:=⟨_,List.getElem?_eq_getElem A1⟩
     have C3:=C7.out;have j1:(0:Int)≤(i:Int):=by omega
     have j2:(i:Int)<(c.ins.length:Int):=by omega
     have wi:IntKind.i64.wrap ((i:Int)+1)=(i:Int)+1:=IntWalk.i64_in _ (by omega);have g8:decide (i<c.ins.length)=true:=decide_eq_true A1;have HX:=aa hx;have HI:=aa A1;clear hx A1;go_wp2_with fail
     refine(zfp _ c i x _ HV.out.r.cd HX.out).mono ?_;rintro e w6 ⟨rfl,b6⟩;have A5:=aa (HV.out.below b6);clear b6 c0 c1 c2;cases A3:insOk c (i:Int) x with
     |false=>
      have HW:=aa (zpm HX.out A3);clear A3;go_wp2_with fail
      go_ret;refine⟨?_,A5.out.r.bel⟩;rw[HW.out];rfl
     |true=>
      have A9:=aa (show ∀(j:Nat),j<i+1→∀ z,c.ins[j]? = some z→insOk c (j:Int) z=true from fun j hj z hz=>by
       rcases Nat.lt_or_ge j i with h1|h1
       ·exact HJ.out j h1 z hz
       ·obtain rfl:j=i:=by omega
        have:=HX.out;rw[hz] at this;cases this;exact A3)
      clear A3;go_wp2_with fail
      go_roundw;case rel=>exact⟨i+1,by go_num,by have:=HI.out; omega,A9,A5⟩
      case measure=>have:=HI.out; simp[intOf]; omega
    ·obtain rfl:i=c.ins.length:=by omega
     have g8:decide (c.ins.length<c.ins.length)=false:=by simp
     obtain⟨k1,k2,k3,k4,k5⟩:=A7.out;have HW:=aa (zpn k1 k2 k3 k4 k5 (fun j x hx=>HA.out j (List.getElem?_eq_some_iff.1 hx).1 x hx) (fun j x hx=>HJ.out j (List.getElem?_eq_some_iff.1 hx).1 x hx));clear A1 k1 k2 k3 k4 k5;go_wp2_with fail
     go_ret;refine⟨?_,HV.out.r.bel⟩;rw[HW.out];rfl
end
end Go.Proofs.YtanlmbbalamgkaaGreatDoor

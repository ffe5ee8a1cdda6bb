/- Proved: lemmas and contracts of the functions that the law reaches, part 33 of 35: VmFeed, VmFeed2, VmWalk, VmStep, VmShownM. Conditions: as each states. -/
import Derived.Test.YtanlmbbalamgkaaGreatDoorFnLay
import Derived.Deep.Onto
import Derived.Test.YtanlmbbalamgkaaGreatDoorVmp27
namespace Go.Proofs.YtanlmbbalamgkaaGreatDoor
set_option linter.unusedVariables false
set_option linter.unusedSimpArgs false
section
open Go.RowKit
open Gen
open Rw
set_option maxRecDepth 100000
theorem zur (mb:Nat)(a b c n:Int)(s:ByteArray)(t:Int)(day r:Int)(w:World)(hd:w.cell? ⟨mb,3,none⟩=some (.int .i64 day)):
  Calls Tryz.prog 61 #[.pointer (some ⟨mb,0,none⟩),.agg #[.int .i64 20,.int .i64 a,.int .i64 b,.int .i64 c,.int .i64 n,.string s,.int .i64 t],.int .i64 r] w (ar (.bool true) w):=by
 have B0:=aa ((Below.refl w.heap.size w).alloc (Nat.le_refl _) (.cells #[.int .i64 20,.int .i64 a,.int .i64 b,.int .i64 c,.int .i64 n,.string s,.int .i64 t] 73));go_enter Tryz.func61,Tryz.ntmps61;go_wp2_with fail
 go_ret;exact⟨rfl,B0.out⟩
theorem zus (mb:Nat)(a b c n:Int)(s:ByteArray)(t:Int)(day r:Int)(w:World)(hd:w.cell? ⟨mb,3,none⟩=some (.int .i64 day)):
  Calls Tryz.prog 61 #[.pointer (some ⟨mb,0,none⟩),.agg #[.int .i64 19,.int .i64 a,.int .i64 b,.int .i64 c,.int .i64 n,.string s,.int .i64 t],.int .i64 r] w (ar (.bool (decide (r=0))) w):=by
 have B0:=aa ((Below.refl w.heap.size w).alloc (Nat.le_refl _) (.cells #[.int .i64 19,.int .i64 a,.int .i64 b,.int .i64 c,.int .i64 n,.string s,.int .i64 t] 73));by_cases hb:r=0
 ·subst hb;go_enter Tryz.func61,Tryz.ntmps61;go_wp2_with fail
  go_ret;exact⟨rfl,B0.out⟩
 ·have e:=aa (show decide (r=0)=false from decide_eq_false hb);have e2:(r == 0)=false:=by rw[beq_eq_false_iff_ne]; exact hb
  rw[e.out];clear hb;go_enter Tryz.func61,Tryz.ntmps61;go_wp2_with fail
  go_ret;exact⟨rfl,B0.out⟩
theorem zuq (mb:Nat)(a b c n:Int)(s:ByteArray)(t:Int)(day r:Int)(w:World)(hd:w.cell? ⟨mb,3,none⟩=some (.int .i64 day)):
  Calls Tryz.prog 61 #[.pointer (some ⟨mb,0,none⟩),.agg #[.int .i64 21,.int .i64 a,.int .i64 b,.int .i64 c,.int .i64 n,.string s,.int .i64 t],.int .i64 r] w (ar (.bool (decide (n<day))) w):=by
 have B0:=aa ((Below.refl w.heap.size w).alloc (Nat.le_refl _) (.cells #[.int .i64 21,.int .i64 a,.int .i64 b,.int .i64 c,.int .i64 n,.string s,.int .i64 t] 73));have A0:=fj hd (.cells #[.int .i64 21,.int .i64 a,.int .i64 b,.int .i64 c,.int .i64 n,.string s,.int .i64 t] 73);go_enter Tryz.func61,Tryz.ntmps61;go_wp2_with fail
 go_quiet (fail)
 go_wp2_with fail
 go_ret;exact⟨rfl,Below.drewn B0.out _⟩
theorem zup (mb:Nat)(a b c n:Int)(s:ByteArray)(t:Int)(day r:Int)(w:World)(hd:w.cell? ⟨mb,3,none⟩=some (.int .i64 day)):
  Calls Tryz.prog 61 #[.pointer (some ⟨mb,0,none⟩),.agg #[.int .i64 22,.int .i64 a,.int .i64 b,.int .i64 c,.int .i64 n,.string s,.int .i64 t],.int .i64 r] w (ar (.bool (decide (day<n))) w):=by
 have B0:=aa ((Below.refl w.heap.size w).alloc (Nat.le_refl _) (.cells #[.int .i64 22,.int .i64 a,.int .i64 b,.int .i64 c,.int .i64 n,.string s,.int .i64 t] 73));have A0:=fj hd (.cells #[.int .i64 22,.int .i64 a,.int .i64 b,.int .i64 c,.int .i64 n,.string s,.int .i64 t] 73);go_enter Tryz.func61,Tryz.ntmps61;go_wp2_with fail
 go_quiet (fail)
 go_wp2_with fail
 go_ret;exact⟨rfl,Below.drewn B0.out _⟩
theorem wj (mb:Nat)(x:Gen.Ix)(F:List Fd.Feed)(day r:Int)(w:World)(hd:w.cell? ⟨mb,3,none⟩=some (.int .i64 day))(A0:x.op=20∨x.op=19∨x.op=21∨x.op=22):
  Calls Tryz.prog 61 #[.pointer (some ⟨mb,0,none⟩),.agg #[.int .i64 x.op,.int .i64 x.a,.int .i64 x.b,.int .i64 x.c,.int .i64 x.n,.string x.s,.int .i64 x.to],.int .i64 r] w (ar (.bool (Vm.jumps (Vm.env F day) x r)) w):=by
 obtain⟨op,a,b,c,n,s,t⟩:=x;rcases A0 with h|h|h|h;all_goals
  simp only at h;subst h
 ·exact zur mb a b c n s t day r w hd
 ·exact zus mb a b c n s t day r w hd
 ·exact zuq mb a b c n s t day r w hd
 ·exact zup mb a b c n s t day r w hd
theorem zrh (b3 b4 mb i:Nat)(F:List Fd.Feed)(name:ByteArray)(vf:Value)(W:World)(h3:W.cell? ⟨b3,0,none⟩=some (.pointer (some ⟨mb,0,none⟩)))(h4:W.cell? ⟨b4,0,none⟩=some (.string name))(hm:W.cell? ⟨mb,4,none⟩=some vf)(hF:FeedsAt W vf F)(hi:i<F.length):
  Calls Tryz.prog 115 (#[.int .i64 (i:Int)]++#[.pointer (some ⟨b3,0,none⟩),.pointer (some ⟨b4,0,none⟩)]) W fun e w'=>e=.returned (.bool (!Fd.lt (Fd.at' F i).1 name))∧∃ q,w'=W.drewN q:=by
 obtain⟨p,c,rfl,⟨A1,A0⟩,hf⟩:=hF;have hx:F[i]? = some (Fd.at' F i):=by unfold Fd.at'; rw[List.getElem?_eq_getElem hi]; rfl
 obtain⟨b,off,sv,rfl,hb,⟨c0,c1⟩, -, -⟩:=hf i _ hx;generalize Fd.at' F i=y at *;have j1:(0:Int)≤(i:Int):=by omega
 have j2:(i:Int)<(F.length:Int):=by omega
 have e:=aa (show Fd.lt y.1 name=Op.bytesLess y.1.toList name.toList from rfl);rw[e.out];clear hf hx hb hi A0;go_enter Tryz.func115,Tryz.ntmps115;go_wp2_with fail
 go_quiet (fail)
 go_wp2_with fail
 go_ret;exact⟨rfl,_,rfl⟩
theorem zrg (b9 b3 b5 mb k:Nat)(l:List (Int × Int))(sv:Value)(day ago:Int)(hd:0≤day∧day≤73048)(ha:0≤ago∧ago≤3660)(W:World)(h9:W.cell? ⟨b9,0,none⟩=some sv)(h3:W.cell? ⟨b3,0,none⟩=some (.pointer (some ⟨mb,0,none⟩)))(h5:W.cell? ⟨b5,0,none⟩=some (.int .i64 ago))(hm:W.cell? ⟨mb,3,none⟩=some (.int .i64 day))(hS:StampsAt W sv l)(hk:k<l.length):
  Calls Tryz.prog 116 (#[.int .i64 (k:Int)]++#[.pointer (some ⟨b9,0,none⟩),.pointer (some ⟨b3,0,none⟩),.pointer (some ⟨b5,0,none⟩)]) W fun e w'=>e=.returned (.bool (decide (day - ago<(Fd.stampAt l k).1)))∧∃ q,w'=W.drewN q:=by
 obtain⟨p,c,rfl,⟨A1,A0⟩,hf⟩:=hS;have hx:l[k]? = some (Fd.stampAt l k):=by unfold Fd.stampAt; rw[List.getElem?_eq_getElem hk]; rfl
 obtain⟨b,off,rfl,hb,⟨c0,c1⟩, -, -⟩:=hf k _ hx;generalize Fd.stampAt l k=y at *;have j1:(0:Int)≤(k:Int):=by omega
 have j2:(k:Int)<(l.length:Int):=by omega
 have j3:IntKind.i64.wrap (day - ago)=day - ago:=IntWalk.i64_in _ (by omega);clear hf hx hb hk A0 hd ha;go_enter Tryz.func116,Tryz.ntmps116;go_wp2_with fail
 go_quiet (fail)
 go_wp2_with fail
 go_ret;exact⟨rfl,_,rfl⟩
end
section
open Go.RowKit Go.Shelf Go.Lib Go.Sort
open Gen
open Rw
set_option maxRecDepth 100000
theorem ziv {F:List Fd.Feed}(h:Fd.Ok F)(name:ByteArray):∀ a b,a≤b→b<F.length→(!Fd.lt (Fd.at' F a).1 name)=true→(!Fd.lt (Fd.at' F b).1 name)=true:=by
 intro a b A1 hb ha;rcases(by omega:a=b∨a<b) with rfl|A0
 ·exact ha
 ·cases hc:Fd.lt (Fd.at' F b).1 name with
  |false=>rfl
  |true=>
   have:=Fd.lt_trans (Fd.rises h b a A0 hb) hc;rw[this] at ha;cases ha
theorem zkk {F:List Fd.Feed}(h:Fd.Ok F){i:Nat}{f:Fd.Feed}(hi:F[i]? = some f)(d:Int):∀ a b,a≤b→b<f.2.length→decide (d<(Fd.stampAt f.2 a).1)=true→decide (d<(Fd.stampAt f.2 b).1)=true:=by
 intro a b A1 hb ha;rcases(by omega:a=b∨a<b) with rfl|A0
 ·exact ha
 ·have:=Fd.risesK h hi b a A0 hb
  have:=of_decide_eq_true ha;exact decide_eq_true (by omega)
def zfy (o:Option Int):Value:=match o with|some n=>.tuple #[.int .i64 n,.bool true] | none=>.tuple #[.int .i64 0,.bool false]
theorem zjv:zfy none=.tuple #[.int .i64 0,.bool false]:=rfl
theorem zju (n:Int):zfy (some n)=.tuple #[.int .i64 n,.bool true]:=rfl
theorem zoj (W:World)(v:Value)(t:TypeId):(W.alloc (.cells #[v] t)).cell? ⟨W.heap.size,0,none⟩=some v:=cell_new_sl W v t
theorem FeedsAt.grown {W:World}{v:Value}{l:List Fd.Feed}(h:FeedsAt W v l)(m:Nat)(os:Array Obj):FeedsAt (grow (W.drewN m) os) v l:=h.below (below_grown_sl W.heap.size W m os (Nat.le_refl _))
theorem StampsAt.grown {W:World}{v:Value}{l:List (Int × Int)}(h:StampsAt W v l)(m:Nat)(os:Array Obj):StampsAt (grow (W.drewN m) os) v l:=h.below (below_grown_sl W.heap.size W m os (Nat.le_refl _))
set_option maxHeartbeats 4000000 in
theorem zvf (mb:Nat)(F:List Fd.Feed)(A3:Fd.Ok F)(day ago:Int)(name:ByteArray)(hd:0≤day∧day≤73048)(ha:0≤ago∧ago≤3660)(vf:Value)(w:World)(A8:w.cell? ⟨mb,3,none⟩=some (.int .i64 day))(C6:w.cell? ⟨mb,4,none⟩=some vf)(hF:FeedsAt w vf F):
  Calls Tryz.prog 60 #[.pointer (some ⟨mb,0,none⟩),.string name,.int .i64 ago] w (ar (zfy (Fd.tells F day name ago)) w):=by
 have E8:F.length≤64:=A3.1;obtain⟨W3,A0⟩:∃ W3,W3=((w.alloc (.cells #[.pointer (some ⟨mb,0,none⟩)] 80)).alloc (.cells #[.string name] 9)).alloc (.cells #[.int .i64 ago] 2):=⟨_,rfl⟩
 have B9:W3.heap.size=w.heap.size+1+1+1:=by rw[A0]; simp
 have B3:Below w.heap.size w W3:=by rw[A0]; exact(((Below.refl _ w).alloc (Nat.le_refl _) _).alloc (by simp) _).alloc (by simp; omega) _
 have c3:W3.cell? ⟨w.heap.size,0,none⟩=some (.pointer (some ⟨mb,0,none⟩)):=by rw[A0]; exact fj (fj (zoj w _ _) _) _
 have c4:W3.cell? ⟨w.heap.size+1,0,none⟩=some (.string name):=by rw[A0]; have:=fj (zoj (w.alloc (.cells #[.pointer (some ⟨mb,0,none⟩)] 80)) (.string name) 9) (.cells #[.int .i64 ago] 2); rwa [World.size_alloc] at this
 have c5:W3.cell? ⟨w.heap.size+1+1,0,none⟩=some (.int .i64 ago):=by
  rw[A0]
  have:=zoj ((w.alloc (.cells #[.pointer (some ⟨mb,0,none⟩)] 80)).alloc (.cells #[.string name] 9)) (.int .i64 ago) 2;rwa [World.size_alloc,World.size_alloc] at this
 have m3:=ax B3 _ _ A8;have m4:=ax B3 _ _ C6;have F3:=hF.below B3;have A4:mb<w.heap.size:=World.block_lt_of_cell? _ _ A8;have D1:∀ args w,(callFunc 115 args).run Tryz.prog w=.ok (.enter 115 args) w:=enters_of Tryz.func115 (by kernel_rfl) rfl;have D0:∀ args w,(callFunc 116 args).run Tryz.prog w=.ok (.enter 116 args) w:=enters_of Tryz.func116 (by kernel_rfl) rfl;have hS:=Any.sort_Search Tryz.search 115 #[.pointer (some ⟨w.heap.size,0,none⟩),.pointer (some ⟨w.heap.size+1,0,none⟩)] F.length (fun i=>!Fd.lt (Fd.at' F i).1 name) W3 D1 (by omega)
  (fun m os i hi=>(zrh w.heap.size (w.heap.size+1) mb i F name vf _ (cell_grown (by show w.heap.size<_; omega) c3 m os) (cell_grown (by show w.heap.size+1<_; omega) c4 m os) (cell_grown (by show mb<_; omega) m4 m os) (F3.grown m os) hi).mono
   fun _ _ ⟨he,q,hq⟩=>⟨he,q,#[],by rw[hq,grow_empty]⟩) (ziv A3 name)
 change Calls Tryz.prog 114 _ _ _ at hS
 have C2:=Fd.place_le F name;have F1:=fun h=>aa (Fd.tells_none (F:=F) (s:=name) h day ago);have HP:=aa (show(List.range F.length).countP (fun i=>!(!Fd.lt (Fd.at' F i).1 name))=Fd.place F name from rfl);rw[HP.out] at hS;have HS:=aa hS;have F0:=aa A0;clear A0;have C3:=aa c3;have C4:=aa c4;have C5:=aa c5;have M3:=aa m3;have M4:=aa m4;have B0:=aa F3;have F6:=aa B3;have F8:=aa B9;have F5:=aa D0;have HD:=aa hd;have HA:=aa ha;have D6:=aa C2;have D7:=aa A3;have F2:=aa A4;clear c3 c4 c5 hS A8 C6 hF F3 B3 B9 D1 D0 hd ha HP C2 A3 A4 m3 E8 F1;obtain⟨P,hP⟩:∃ P,Hid (P=Fd.place F name):=⟨_,rfl⟩
 rw[←hP.out] at HS D6;go_enter Tryz.func60,Tryz.ntmps60;obtain⟨vfp,vfc,E0, -, -⟩:=B0.out;subst E0;go_upto_region 1 with(fail)
 rw[←F0.out];have c3:=C3.out;have D8:=m4;go_upto_region 2 with(go_at_call 114; refine HS.out.mono ?_; rintro e w4 ⟨rfl,q,os,B8⟩)
 have B34:=below_grown_sl W3.heap.size W3 q os (Nat.le_refl _);rw[←B8] at B34 ⊢;clear B8 HS c3 m4 D8;have B04:=aa (Below.more F6.out B34);have F4:=aa (B0.out.below B34);have c3:=ax B34 _ _ C3.out;have c4:=ax B34 _ _ C4.out;have m4:=ax B34 _ _ M4.out;have C5':=aa (ax B34 _ _ C5.out);have M3':=aa (ax B34 _ _ M3.out);have C3':=aa c3;clear C3 C4 C5 M3 M4 B34 B0;by_cases C8:P=F.length
 ·subst C8;have e:=aa (Fd.tells_none (F:=F) (s:=name) (by rw[←hP.out]; exact List.getElem?_eq_none (Nat.le_refl _)) day ago);have g:((F.length:Int) == (F.length:Int))=true:=beq_self_eq_true _;clear hP;go_quiet (fail)
  go_wp2_with fail
  go_ret2;exact⟨by rw[e.out]; rfl,Below.drewn B04.out _⟩
 ·have C7:P<F.length:=by have:=D6.out; omega
  obtain⟨x,hx⟩:∃ x,F[P]? = some x:=⟨_,List.getElem?_eq_getElem C7⟩
  have A1:F[Fd.place F name]? = some x:=by rw[←hP.out]; exact hx
  obtain⟨fp,fc,efp,⟨E6,E5⟩,hf⟩:=F4.out;obtain⟨fb,fo,sv,efb,E7,⟨x0,x1⟩,C0,D9⟩:=hf P x hx;obtain⟨rfl,rfl⟩:vfp=fp∧vfc=fc:=by simpa using efp
  subst efb;have g:((P:Int) == (F.length:Int))=false:=by rw[beq_eq_false_iff_ne]; omega
  have j1:(0:Int)≤(P:Int):=by omega
  have j2:(P:Int)<(F.length:Int):=by omega
  have D4:=aa C0;have HX:=aa hx;clear C8 efp E6 E5 hf D9 C0 E7 hx;by_cases hn:x.1=name
  ·rw[hn] at x0;have g2:(name.toList == name.toList)=true:=beq_self_eq_true _;have TE:=fun h=>aa (Fd.tells_early A1 hn (day:=day) (ago:=ago) h);have TS:=fun k h=>aa (Fd.tells_some A1 hn (day:=day) (ago:=ago) (k:=k) h);have A6:=aa TE;have A5:=aa TS;clear TE TS A1 hn;go_quiet (fail)
   clear c4;have B4:=aa (Below.drewn B04.out nq);have ST:=aa (D4.out.below (Below.drewn (Below.refl _ w4) nq));have D2:=aa (show(w4.drewN nq).cell? ⟨mb,3,none⟩=some (.int .i64 day) from M3'.out);have B1:=aa (show(w4.drewN nq).cell? ⟨w.heap.size+1+1,0,none⟩=some (.int .i64 ago) from C5'.out);have B2:=aa (show(w4.drewN nq).cell? ⟨w.heap.size,0,none⟩=some (.pointer (some ⟨mb,0,none⟩)) from C3'.out);replace c3:=B2.out;replace m4:=(show(w4.drewN nq).cell? ⟨mb,4,none⟩=_ from m4)
   replace x1:=(show(w4.drewN nq).cell? ⟨fb,fo+P * 2+1,none⟩=_ from x1)
   clear x0 B04 M3' C5' C3' F4 D4;generalize w4.drewN nq=w5 at *;obtain⟨sp,sc,rfl,⟨E3,E2⟩, -⟩:=id ST.out;clear E3 E2;obtain⟨w6,A2⟩:∃ w6,w6=w5.alloc (.cells #[.slice sp x.2.length sc] 110):=⟨_,rfl⟩
   have B56:Below w5.heap.size w5 w6:=by rw[A2]; exact(Below.refl _ _).alloc (Nat.le_refl _) _
   have c9:w6.cell? ⟨w5.heap.size,0,none⟩=some (.slice sp x.2.length sc):=by rw[A2]; exact zoj w5 _ _
   have A7:w6.heap.size=w5.heap.size+1:=by rw[A2]; simp
   have q3:=ax B56 _ _ B2.out;have q5:=ax B56 _ _ B1.out;have qm:=ax B56 _ _ D2.out;have A9:=ST.out.below B56;have h5:=World.block_lt_of_cell? _ _ B1.out;have E9:w.heap.size+1+1<w5.heap.size:=h5;have A4:=F2.out;have E4:=((D7.out).2 P x HX.out).len;have hS:=Any.sort_Search Tryz.search 116 #[.pointer (some ⟨w5.heap.size,0,none⟩),.pointer (some ⟨w.heap.size,0,none⟩),.pointer (some ⟨w.heap.size+1+1,0,none⟩)] x.2.length (fun k=>decide (day - ago<(Fd.stampAt x.2 k).1)) w6 F5.out (by omega)
    (fun m os k hk=>(zrg w5.heap.size w.heap.size (w.heap.size+1+1) mb k x.2 (.slice sp x.2.length sc) day ago HD.out HA.out _ (cell_grown (by show w5.heap.size<_; omega) c9 m os) (cell_grown (by show w.heap.size<_; omega) q3 m os) (cell_grown (by show w.heap.size+1+1<_; omega) q5 m os) (cell_grown (by show mb<_; omega) qm m os) (A9.grown m os) hk).mono
     fun _ _ ⟨he,q,hq⟩=>⟨he,q,#[],by rw[hq,grow_empty]⟩) (zkk D7.out HX.out (day - ago))
   change Calls Tryz.prog 114 _ _ _ at hS
   rw[show(List.range x.2.length).countP (fun k=>!(decide (day - ago<(Fd.stampAt x.2 k).1)))=Fd.upto x.2 (day - ago) from rfl] at hS;have E1:=Fd.upto_le x.2 (day - ago);obtain⟨U,hU⟩:∃ U,Fd.upto x.2 (day - ago)=U:=⟨_,rfl⟩
   rw[hU] at hS A6 A5 E1;clear hU q3 q5 qm h5 E9 A4;have D5:=aa hS;have D3:=aa A2;have F9:=aa (ax B56);have C9:=aa c9;have B6:=aa (Below.more B4.out B56);have S6:=aa A9;clear A2 hS B56 A9 A7 B4 D2 B1 B2;go_upto_region 5 with(fail)
   rw[←D3.out];clear x1 m4 c3 D3;go_upto_region 6 with(go_at_call 114; refine D5.out.mono ?_; rintro e w7 ⟨rfl,q',os',B5⟩)
   have B67:=below_grown_sl w6.heap.size w6 q' os' (Nat.le_refl _);rw[←B5] at B67 ⊢;have B7:=aa (Below.more B6.out B67);have S7:=aa (S6.out.below B67);have F7:=ax B67 _ _ C9.out;clear B5 B67 S6 C9 c9 D5 B6;cases U with
   |zero=>
    have e:=aa (A6.out rfl).out;clear A6 A5;go_wp2_with fail
    go_ret2;exact⟨by rw[e.out]; rfl,B7.out⟩
   |succ k=>
    have e:=aa (A5.out k rfl).out;clear A6 A5;have hk:x.2[k]? = some (Fd.stampAt x.2 k):=by unfold Fd.stampAt; rw[List.getElem?_eq_getElem (by omega)]; rfl
    obtain⟨sp',sc',e2, -,C1⟩:=S7.out;obtain⟨rfl,rfl⟩:sp=sp'∧sc=sc':=by simpa using e2
    obtain⟨sb,so,rfl, -,⟨y0,y1⟩, -, -⟩:=C1 k _ hk;generalize Fd.stampAt x.2 k=y at *;have g0:(((k+1:Nat):Int) == 0)=false:=by rw[beq_eq_false_iff_ne]; omega
    have v1:IntKind.i64.wrap (((k+1:Nat):Int) - 1)=(k:Int):=by rw[IntWalk.i64_in _ (by omega)]; omega
    have v2:(0:Int)≤(k:Int):=by omega
    have v3:(k:Int)<(x.2.length:Int):=by omega
    clear e2 C1 hk y0;go_wp2_with fail
    go_ret2;exact⟨by rw[e.out]; rfl,B7.out⟩
  ·have e:=aa (Fd.tells_other A1 hn day ago);have g2:(x.1.toList == name.toList)=false:=by
    rw[beq_eq_false_iff_ne];intro e2;apply hn;apply zcc;rw[ByteArray.toList_eq,ByteArray.toList_eq] at e2;exact e2
   clear A1 hn C7;go_quiet (fail)
   go_wp2_with fail
   go_ret2;exact⟨by rw[e.out]; rfl,Below.drewn B04.out _⟩
end
section
open Go.RowKit
open Gen
open Rw
set_option maxRecDepth 100000
structure LSt (W0:World)(mb:Nat)(c:Gen.Cd)(day:Int)(vw vi vf:Value)(st:Vm.St)(vh vo:Value)(rg:Nat)(r:List Int)(w W:World):Prop where
 m:Mach W0 mb c day vw vi vf st vh vo W
 rb:RegBox W rg r
 kp:KpM mb w W
 lt:mb<rg
def zya (W0:World)(mb:Nat)(c:Gen.Cd)(day:Int)(vw vi vf:Value)(st:Vm.St)(w:World)(e:Ending)(w':World):Prop:=
 (∃ r,e=.returned r)∧(∃ vh vo,Mach W0 mb c day vw vi vf st vh vo w')∧KpM mb w w'
structure RunEnv (W0:World)(mb:Nat)(c:Gen.Cd)(F:List Fd.Feed)(day:Int)(vw vi vf:Value):Prop where
 cd:CdAt W0 (.agg #[.int .i64 c.regs,vw,vi]) c
 fs:FeedsAt W0 vf F
 rt:Gen.right c=true
 ok:Fd.Ok F
 day:0≤day∧day≤73048
 mb:W0.heap.size≤mb
theorem zoo:Tryz.zeroCells115=zm Vm.zeros:=by kernel_rfl
theorem zaw:Vm.zeros.length=256:=by unfold Vm.zeros; rw[List.length_replicate]
theorem LSt.start {W0:World}{mb:Nat}{c:Gen.Cd}{day:Int}{vw vi vf:Value}{st:Vm.St}{vh vo:Value}{w:World}(h:Mach W0 mb c day vw vi vf st vh vo w):
  LSt W0 mb c day vw vi vf st vh vo w.heap.size Vm.zeros w (w.alloc (.cells Tryz.zeroCells115 115)):=by
 have B:=(Below.refl w.heap.size w).alloc (Nat.le_refl _) (.cells Tryz.zeroCells115 115);exact⟨h.below B,⟨zaw,by rw[zoo]; exact heap_alloc_new _ _⟩,KpM.below B (Nat.le_of_lt h.lt),h.lt⟩
theorem LSt.below {W0:World}{mb:Nat}{c:Gen.Cd}{day:Int}{vw vi vf:Value}{st:Vm.St}{vh vo:Value}{rg:Nat}{r:List Int}{w W W':World}(h:LSt W0 mb c day vw vi vf st vh vo rg r w W)(b:Below W.heap.size W W'):LSt W0 mb c day vw vi vf st vh vo rg r w W':=
 ⟨h.m.below b,⟨h.rb.1,ag b h.rb.2⟩,h.kp.trans (KpM.below b (Nat.le_of_lt h.m.lt)),h.lt⟩
def zzb (W:World)(b:Nat)(x:Gen.Ix):Prop:=W.heap[b]? = some (.cells #[.int .i64 x.op,.int .i64 x.a,.int .i64 x.b,.int .i64 x.c,.int .i64 x.n,.string x.s,.int .i64 x.to] 73 (0,0))
theorem LSt.steps {W0:World}{mb:Nat}{c:Gen.Cd}{day:Int}{vw vi vf:Value}{st:Vm.St}{vh vo:Value}{rg:Nat}{r:List Int}{w W:World}(h:LSt W0 mb c day vw vi vf st vh vo rg r w W):
  LSt W0 mb c day vw vi vf ⟨st.holds,st.out,st.steps+1,st.over⟩ vh vo rg r w (W.setCell ⟨mb,7,none⟩ (.int .i64 ((st.steps:Int)+1))):=
 ⟨h.m.steps,⟨h.rb.1,(KpM.mset W 7 _).box (by have:=h.lt; omega) (by decide) (by decide) h.rb.2⟩,h.kp.trans (KpM.mset W 7 _),h.lt⟩
theorem LSt.setOver {W0:World}{mb:Nat}{c:Gen.Cd}{day:Int}{vw vi vf:Value}{st:Vm.St}{vh vo:Value}{rg:Nat}{r:List Int}{w W:World}(h:LSt W0 mb c day vw vi vf st vh vo rg r w W)(o:Bool):
  LSt W0 mb c day vw vi vf ⟨st.holds,st.out,st.steps,o⟩ vh vo rg r w (W.setCell ⟨mb,8,none⟩ (.bool o)):=
 ⟨h.m.setOver o,⟨h.rb.1,(KpM.mset W 8 _).box (by have:=h.lt; omega) (by decide) (by decide) h.rb.2⟩,h.kp.trans (KpM.mset W 8 _),h.lt⟩
theorem LSt.setReg {W0:World}{mb:Nat}{c:Gen.Cd}{day:Int}{vw vi vf:Value}{st:Vm.St}{vh vo:Value}{rg:Nat}{r:List Int}{w W:World}(h:LSt W0 mb c day vw vi vf st vh vo rg r w W)(hw:w.heap.size≤rg)(i v:Int):
  LSt W0 mb c day vw vi vf st vh vo rg (Vm.setReg r i v) w (W.setCell ⟨rg,i.toNat,none⟩ (.int .i64 v)):=by
 refine⟨h.m.other h.lt h.rb.2 (by decide) (by decide) _ _,h.rb.set i v,⟨h.kp.bel.setCell (p:=⟨rg,i.toNat,none⟩) (Nat.le_of_lt h.lt) _,fun k cur t hk h1 h2 e=>?_⟩,h.lt⟩
 have:=af e;rw[Below.heap_setCell W ⟨rg,i.toNat,none⟩ _ k (by show k≠rg; omega)];exact h.kp.oth k cur t hk h1 h2 e
theorem LSt.call {W0:World}{mb:Nat}{c:Gen.Cd}{day:Int}{vw vi vf:Value}{st st':Vm.St}{vh vo vh' vo':Value}{rg:Nat}{r:List Int}{w W W':World}(h:LSt W0 mb c day vw vi vf st vh vo rg r w W)(h':Mach W0 mb c day vw vi vf st' vh' vo' W')(k:KpM mb W W'):
  LSt W0 mb c day vw vi vf st' vh' vo' rg r w W':=
 ⟨h',⟨h.rb.1,k.box (by have:=h.lt; omega) (by decide) (by decide) h.rb.2⟩,h.kp.trans k,h.lt⟩
theorem LSt.pushTran {W0:World}{mb:Nat}{c:Gen.Cd}{day:Int}{vw vi vf:Value}{st:Vm.St}{vh vo v':Value}{rg:Nat}{r:List Int}{w W W':World}(h:LSt W0 mb c day vw vi vf st vh vo rg r w W){y:ByteArray × Int}
  (row:TranRow (mb+1) W' v' day (st.out++[y])) (g:W.grownBy W' vo.ownBlock):LSt W0 mb c day vw vi vf ⟨st.holds,st.out++[y],st.steps,st.over⟩ vh v' rg r w (W'.setCell ⟨mb,6,none⟩ v'):=by
 have K:=(KpM.row h.m.ts (.inr rfl) g h.m.lt).trans (KpM.mset W' 6 v');exact⟨h.m.pushTran row g,⟨h.rb.1,K.box (by have:=h.lt; omega) (by decide) (by decide) h.rb.2⟩,h.kp.trans K,h.lt⟩
theorem LSt.pushHold {W0:World}{mb:Nat}{c:Gen.Cd}{day:Int}{vw vi vf:Value}{st:Vm.St}{vh vo v':Value}{rg:Nat}{r:List Int}{w W W':World}(h:LSt W0 mb c day vw vi vf st vh vo rg r w W){y:Int × Int}
  (row:mq (mb+1) W' v' (st.holds++[y])) (g:W.grownBy W' vh.ownBlock):LSt W0 mb c day vw vi vf ⟨st.holds++[y],st.out,st.steps,st.over⟩ v' vo rg r w (W'.setCell ⟨mb,5,none⟩ v'):=by
 have K:=(KpM.row h.m.hs (.inl rfl) g h.m.lt).trans (KpM.mset W' 5 v');exact⟨h.m.pushHold row g,⟨h.rb.1,K.box (by have:=h.lt; omega) (by decide) (by decide) h.rb.2⟩,h.kp.trans K,h.lt⟩
namespace Vm
theorem act2_none {c:Cd}{E:Env}{x:Ix}{a f:Int}{r:List Int}(h:x.op=2)(hf:E.feed x.s x.n=none):act c E x a f r=.next x.to f r:=by rw[act,if_neg (by omega),if_neg (by omega),if_neg (by omega),if_pos h,hf]
theorem act2_some {c:Cd}{E:Env}{x:Ix}{a f:Int}{r:List Int}{n:Int}(h:x.op=2)(hf:E.feed x.s x.n=some n):act c E x a f r=.next (a+1) f (setReg r x.a n):=by rw[act,if_neg (by omega),if_neg (by omega),if_neg (by omega),if_pos h,hf]
theorem act_jump {c:Cd}{E:Env}{x:Ix}{a f:Int}{r:List Int}(h:x.op=20∨x.op=19∨x.op=21∨x.op=22){b:Bool}(hj:jumps E x (reg r x.b)=b):act c E x a f r=.next (if b=true then x.to else a+1) f r:=by
 rw[act,if_neg (by omega),if_neg (by omega),if_neg (by omega),if_neg (by omega),if_pos h,hj]
theorem act_pay0 {c:Cd}{E:Env}{x:Ix}{a f:Int}{r:List Int}(h:x.op=27)(hf:f=0):act c E x a f r=.next (a+1) f r:=by
 rw[act,if_neg (by omega),if_neg (by omega),if_neg (by omega),if_neg (by omega),if_neg (by omega),if_neg (by omega),if_neg (by omega),if_neg (by omega),if_neg (by omega),if_pos h,if_pos hf]
theorem act_pay {c:Cd}{E:Env}{x:Ix}{a f:Int}{r:List Int}(h:x.op=27)(hf:¬f=0):act c E x a f r=.pay:=by
 rw[act,if_neg (by omega),if_neg (by omega),if_neg (by omega),if_neg (by omega),if_neg (by omega),if_neg (by omega),if_neg (by omega),if_neg (by omega),if_neg (by omega),if_pos h,if_neg hf]
theorem act_default {c:Cd}{E:Env}{x:Ix}{a f:Int}{r:List Int}(h:¬(x.op=30∨x.op=1∨x.op=25∨x.op=24∨x.op=26∨x.op=23∨x.op=3∨x.op=2∨x.op=20∨x.op=19∨x.op=21∨x.op=22∨x.op=27∨x.op=28∨x.op=29)):act c E x a f r=.next (a+1) f (setReg r x.a (E.rk x.op (reg r x.b) (reg r x.c))):=by
 rw[act,if_neg (by omega),if_neg (by omega),if_neg (by omega),if_neg (by omega),if_neg (by omega),if_neg (by omega),if_neg (by omega),if_neg (by omega),if_neg (by omega),if_neg (by omega),if_neg (by omega),if_neg (by omega)]
end Vm
set_option maxHeartbeats 40000000 in
theorem zck (W0:World)(mb:Nat)(c:Gen.Cd)(F:List Fd.Feed)(day:Int)(vw vi vf:Value)(hE:RunEnv W0 mb c F day vw vi vf):∀(d a:Nat) (f:Int) (st:Vm.St) (vh vo:Value) (w:World),c.ins.length - a≤d→a<c.ins.length→Vm.StOk st→Mach W0 mb c day vw vi vf st vh vo w →
  Calls Tryz.prog 31 #[.pointer (some ⟨mb,0,none⟩),.int .i64 (a:Int),.int .i64 f] w (zya W0 mb c day vw vi vf (Vm.run c (Vm.env F day) (a:Int) f Vm.zeros st) w):=by
 intro d;induction d with
 |zero=>intro a f st vh vo w h1 h2; omega
 |succ d ih=>
  intro a f st vh vo w hd ha G5 hm;have IH:=aa ih;have HE:=aa hE;have HM:=aa hm;have B8:=aa G5;obtain⟨R,hR⟩:∃ R,Hid (Vm.run c (Vm.env F day) (a:Int) f Vm.zeros st=R):=⟨_,rfl⟩
  rw[hR.out];clear ih hE hm G5;go_enter Tryz.func31,Tryz.ntmps31;go_step3
  go_upto_region 1 with(fail)
  have G1:=aa (LSt.start HM.out);have J5:=aa (Nat.le_refl w.heap.size);clear HM;generalize w.alloc (.cells Tryz.zeroCells115 115)=w1 at *;obtain⟨rg,G6⟩:∃ rg,rg=w.heap.size:=⟨_,rfl⟩
  rw[←G6] at G1 ⊢;have D1:=aa (show w.heap.size≤rg by omega);clear G6 J5;go_step3
  go_wp2_with fail
  go_loopw [1,2] (fun av fv wr=>∃(a':Nat) (f':Int) (r:List Int) (st':Vm.St) (vh' vo':Value),av=.int .i64 (a':Int)∧fv=.int .i64 f'∧(a≤a'∧a'<c.ins.length)∧Hid (Vm.run c (Vm.env F day) (a':Int) f' r st'=R)∧Hid (Vm.StOk st')∧Hid (LSt W0 mb c day vw vi vf st' vh' vo' rg r w wr)) (fun av _ _=>c.ins.length - (intOf av).toNat)
  case atStart=>exact⟨a,f,Vm.zeros,st,vh,vo,rfl,rfl,⟨Nat.le_refl _,ha⟩,hR,B8,G1⟩
  case round=>
   clear hR B8 G1;obtain⟨a',f',r,⟨H,O,s,o⟩,vh',vo',rfl,rfl,⟨H5,E5⟩,hR,B8,HL⟩:=hrel;obtain⟨x,hx⟩:∃ x,c.ins[a']? = some x:=⟨_,List.getElem?_eq_getElem E5⟩
   obtain⟨ip,ic,I6,⟨J0,I9⟩,H3⟩:=(show InsAt W0 vi c.ins from by
    obtain⟨vw',vi',e,_,h2,_⟩:=HE.out.cd;simp only[Value.agg.injEq,Array.mk.injEq,List.cons.injEq,and_true,true_and] at e;obtain⟨rfl,rfl⟩:=e;exact h2)
   obtain⟨ib,io,rfl,I8,⟨y0,y1,y2,y3,y4,y5,y6⟩,G2⟩:=H3 a' x hx;subst I6;have HF:=aa (Vm.fwd HE.out.rt hx);have G8:W0.heap.size≤mb:=HE.out.mb;have B9:=aa (fun (k:Nat) (v:Value) (hc:W0.cell? ⟨ib,k,none⟩=some v)=>(show wr.cell? ⟨ib,k,none⟩=some v from(HL.out.m.bel.cell (p:=⟨ib,k,none⟩) (Nat.lt_of_lt_of_le I8 G8)).trans hc));replace y0:=B9.out _ _ y0;replace y1:=B9.out _ _ y1;replace y2:=B9.out _ _ y2;replace y3:=B9.out _ _ y3;replace y4:=B9.out _ _ y4;replace y5:=B9.out _ _ y5;replace y6:=B9.out _ _ y6;have q2:=ab HL.out.m.box 2 _ rfl;have j1:(0:Int)≤(a':Int):=by omega
   have j2:(a':Int)<(c.ins.length:Int):=by omega
   have M2:=aa G2;have HX:=aa hx;have HA:=aa (And.intro H5 E5);clear hx G2 H3 J0 I9 H5 E5 G8;go_upto_region 2 with(fail)
   have BX:=(Below.refl wr.heap.size wr).alloc (Nat.le_refl _) (.cells #[.int .i64 x.op,.int .i64 x.a,.int .i64 x.b,.int .i64 x.c,.int .i64 x.n,.string x.s,.int .i64 x.to] 73);have D6:=aa (HL.out.below BX);have H6:=aa (show zzb _ wr.heap.size x from heap_alloc_new wr _);have J6:=aa (show mb<wr.heap.size from HL.out.m.lt);have M3:=aa (show rg<wr.heap.size from af HL.out.rb.2);clear y0 y1 y2 y3 y4 y5 y6 q2 BX HL B9;generalize wr.alloc (.cells #[.int .i64 x.op,.int .i64 x.a,.int .i64 x.b,.int .i64 x.c,.int .i64 x.n,.string x.s,.int .i64 x.to] 73)=w2 at *;generalize wr.heap.size=xb at *;have q7:=ab D6.out.m.box 7 _ rfl;have f7:=frozen_of (o:=7) D6.out.m.box;have v7:IntKind.i64.wrap ((s:Int)+1)=(s:Int)+1:=IntWalk.i64_in _ (by have:=B8.out.most; simp only at this; omega);go_upto_region 3 with(fail)
   have A2:=aa (LSt.steps D6.out);have A1:=aa (show zzb (w2.setCell ⟨mb,7,none⟩ (.int .i64 ((s:Int)+1))) xb x from(KpM.mset w2 7 _).box (by have:=J6.out; omega) (by decide) (by decide) H6.out);clear q7 f7 v7 D6 H6;simp only at A2;generalize w2.setCell ⟨mb,7,none⟩ (.int .i64 ((s:Int)+1))=w3 at *;obtain⟨t,ht⟩:∃ t,t=s+1:=⟨_,rfl⟩
   rw[←ht] at A2;have HT:=aa ht;clear ht;have q7:=ab A2.out.m.box 7 _ rfl;have q8:=ab A2.out.m.box 8 _ rfl;by_cases A7:65536<t∨o=true
   ·have hq:=aa (hR.out.symm.trans (Vm.run_out c (Vm.env F day) (a':Int) f' r (st:=⟨H,O,s,o⟩) (by rw[←HT.out]; exact A7)));rw[←HT.out] at hq;have f8:=frozen_of (o:=8) A2.out.m.box;have B5:=aa (LSt.setOver A2.out true);simp only at B5;by_cases h1:65536<t
    ·have g1:decide ((65536:Int)<(t:Int))=true:=decide_eq_true (by omega);have g1n:decide (65536<t)=true:=decide_eq_true h1;clear A7 h1;go_wp2_with fail
     refine bodyPost_end (results_none rfl _ _ _) rfl ⟨⟨_,rfl⟩,⟨vh',vo',?_⟩,B5.out.kp⟩;rw[hq.out];exact B5.out.m
    ·obtain rfl:o=true:=A7.resolve_left h1;have g1:decide ((65536:Int)<(t:Int))=false:=decide_eq_false (by omega);have g1n:decide (65536<t)=false:=decide_eq_false h1;clear A7 h1;go_wp2_with fail
     refine bodyPost_end (results_none rfl _ _ _) rfl ⟨⟨_,rfl⟩,⟨vh',vo',?_⟩,B5.out.kp⟩;rw[hq.out];exact B5.out.m
   ·obtain rfl:o=false:=by
     cases o with
     |false=>rfl
     |true=>exact absurd (.inr rfl) A7
    have C8:t≤65536:=by rcases Nat.lt_or_ge 65536 t with h|h; exact absurd (.inl h) A7; exact h
    have g1:decide ((65536:Int)<(t:Int))=false:=decide_eq_false (by omega);have g1n:decide (65536<t)=false:=decide_eq_false (by omega);have A4:=aa (hR.out.symm.trans (Vm.run_in c (Vm.env F day) HX.out f' r (H:=H) (O:=O) (s:=s) (by rw[←HT.out]; exact C8)));rw[←HT.out] at A4;have A6:Hid (H.length<t∧O.length<t∧t≤65536∧H.length≤250):=aa (by
     have h1:=B8.out.holds;have h2:=B8.out.out;have h3:=(B8.out.fine rfl).2;have h4:=HT.out;simp only at h1 h2 h3;omega)
    have J7:=HA.out;have va:IntKind.i64.wrap ((a':Int)+1)=(a':Int)+1:=IntWalk.i64_in _ (by have:=(du HE.out.rt).2.2.2.1; omega);have HN:Hid (Vm.StOk ⟨H,O,t,false⟩):=aa ⟨by have:=A6.out; simp only; omega,by have:=A6.out; simp only; omega,by have:=A6.out; simp only; omega,fun _=>by have:=A6.out; simp only; omega⟩;clear A7 C8 hR B8 J7;go_upto_region 6 with(fail)
    clear q7 q8 g1 g1n va j1 j2;obtain⟨xo,xa,A5,xc,xn,xs,xt⟩:=x;have A8:=HF.out;have z0:=ab A1.out 0 _ rfl;have z1:=ab A1.out 1 _ rfl;have z2:=ab A1.out 2 _ rfl;have z4:=ab A1.out 4 _ rfl;have z5:=ab A1.out 5 _ rfl;have z6:=ab A1.out 6 _ rfl;simp only at z0 z1 z2 z4 z5 z6;have ra:=A8.ra;have rb:=A8.rb;have rc:=A8.rc;simp only at ra rb rc;obtain⟨D3,D2⟩:=ra;obtain⟨C5,C4⟩:=rb;have cb:=A2.out.rb.cell C5 C4;have ca:=A2.out.rb.cell D3 D2;have fa:=frozen_of (o:=xa.toNat) A2.out.rb.2;have wa:IntKind.i64.wrap ((a':Int)+1)=(a':Int)+1:=IntWalk.i64_in _ (by have:=(du HE.out.rt).2.2.2.1; have:=HA.out; omega);have A0:=aa A8.more;have C6:=aa A8.go;have B7:=aa A8.call;have C7:=aa A8.wait;have C1:=aa A8.now;have B1:=A8.lo;have B2:=A8.hi;simp only at A0 C6 B7 C7 C1 B1 B2;clear A8;by_cases D5:xo=30
    ·subst D5;as_aux_lemma=>
      have hq:=aa (show R=⟨H,O,t,false⟩ from A4.out);go_wp2_with fail
      refine bodyPost_end (results_none rfl _ _ _) rfl ⟨⟨_,rfl⟩,⟨vh',vo',?_⟩,A2.out.kp⟩;rw[hq.out];exact A2.out.m
    by_cases h1:xo=1
    ·subst h1;as_aux_lemma=>
      have hq:=aa (show R=Vm.run c (Vm.env F day) ((a'+1:Nat):Int) (f') (Vm.setReg r xa xn) ⟨H,O,t,false⟩ from A4.out);have A9:=aa (A2.out.setReg D1.out xa xn);clear B1 B2;go_wp2_with fail
      go_roundw;case rel=>exact⟨a'+1,f',Vm.setReg r xa xn,⟨H,O,t,false⟩,vh',vo',by first|rfl|go_num,rfl,⟨by have:=HA.out; omega,by have:=A0.out (by decide); omega⟩,aa hq.out.symm,HN,A9⟩
      case measure=>have:=A0.out (by decide); simp[intOf]; omega
    by_cases F0:xo=25
    ·subst F0;as_aux_lemma=>
      have hq:=aa (show R=Vm.run c (Vm.env F day) ((a'+1:Nat):Int) (f') (Vm.setReg r xa f') ⟨H,O,t,false⟩ from A4.out);have A9:=aa (A2.out.setReg D1.out xa f');clear B1 B2;go_wp2_with fail
      go_roundw;case rel=>exact⟨a'+1,f',Vm.setReg r xa f',⟨H,O,t,false⟩,vh',vo',by first|rfl|go_num,rfl,⟨by have:=HA.out; omega,by have:=A0.out (by decide); omega⟩,aa hq.out.symm,HN,A9⟩
      case measure=>have:=A0.out (by decide); simp[intOf]; omega
    by_cases F1:xo=24
    ·subst F1;as_aux_lemma=>
      have hq:=aa (show R=Vm.run c (Vm.env F day) ((a'+1:Nat):Int) (Num.neg f') (r) ⟨H,O,t,false⟩ from A4.out);have HC:=aa (fun W=>zfs f' W);clear B1 B2;go_wp2_with (first|(go_at_call 63; refine(HC.out _).mono ?_; rintro e w4 ⟨rfl,rfl⟩))
      go_roundw;case rel=>exact⟨a'+1,Num.neg f',r,⟨H,O,t,false⟩,vh',vo',by first|rfl|go_num,rfl,⟨by have:=HA.out; omega,by have:=A0.out (by decide); omega⟩,aa hq.out.symm,HN,A2⟩
      case measure=>have:=A0.out (by decide); simp[intOf]; omega
    by_cases E9:xo=26
    ·subst E9;as_aux_lemma=>
      have hq:=aa (show R=Vm.run c (Vm.env F day) ((a'+1:Nat):Int) (Num.clamp (Vm.reg r A5)) (r) ⟨H,O,t,false⟩ from A4.out);have HC:=aa (fun W=>fg (Vm.reg r A5) W);clear B1 B2;go_wp2_with (first|(go_at_call 36; refine(HC.out _).mono ?_; rintro e w4 ⟨rfl,rfl⟩))
      go_roundw;case rel=>exact⟨a'+1,Num.clamp (Vm.reg r A5),r,⟨H,O,t,false⟩,vh',vo',by first|rfl|go_num,rfl,⟨by have:=HA.out; omega,by have:=A0.out (by decide); omega⟩,aa hq.out.symm,HN,A2⟩
      case measure=>have:=A0.out (by decide); simp[intOf]; omega
    by_cases F2:xo=23
    ·subst F2;as_aux_lemma=>
      have hq:=aa (show R=Vm.run c (Vm.env F day) ((a'+1:Nat):Int) (Num.mul f' (Vm.reg r A5)) (r) ⟨H,O,t,false⟩ from A4.out);have HC:=aa (fun W=>zft f' (Vm.reg r A5) W);clear B1 B2;go_wp2_with (first|(go_at_call 62; refine(HC.out _).mono ?_; rintro e w4 ⟨rfl,nd,rfl⟩))
      go_roundw;case rel=>exact⟨a'+1,Num.mul f' (Vm.reg r A5),r,⟨H,O,t,false⟩,vh',vo',by first|rfl|go_num,rfl,⟨by have:=HA.out; omega,by have:=A0.out (by decide); omega⟩,aa hq.out.symm,HN,aa (A2.out.below (Below.drewn (Below.refl _ _) nd))⟩
      case measure=>have:=A0.out (by decide); simp[intOf]; omega
    by_cases h3:xo=3
    ·subst h3;as_aux_lemma=>
      have hq:=aa (show R=Vm.run c (Vm.env F day) ((a'+1:Nat):Int) f' (Vm.setReg r xa (Dt.plus day (-xn))) ⟨H,O,t,false⟩ from A4.out);have hn:=C1.out (.inr rfl);have vn:IntKind.i64.wrap (-xn) = -xn:=IntWalk.i64_in _ (by omega);have HC:=aa (fun W=>zbw day (-xn) W);have HK:=aa (fun (W:World) (b:Below w3.heap.size w3 W)=>And.intro (ab (ag b A1.out) 1 _ rfl) (And.intro (ab (A2.out.below b).m.box 3 _ rfl) (And.intro (ab (ag b A1.out) 4 _ rfl) (trivial))));clear B1 B2 hn;go_upto_region 12 with(fail)
      have B3:=(Below.refl w3.heap.size w3).drew;refine mr (fun w'=>Below w3.heap.size w3 w') 11 (by kernel_rfl) (by kernel_rfl) B3 ?_;simp only[List.take_succ_cons,List.take_zero,List.drop_succ_cons,List.drop_zero];repeat (first
       |(refine br ?_ ?_
         ·rfl
         simp only[Act.put,List.setIfInBounds_toArray,List.set_cons_zero,List.set_cons_succ])
       |(apply az 59 #[.int .i64 day,.int .i64 (-xn)]
         ·rfl
         ·(intro w A3; obtain⟨c1,cd,c4, -⟩:=HK.out w A3; go_simp; done)
         ·(intro w A3; exact(HC.out w).mono fun e w'' h=>⟨h.1,by rw[h.2]; exact A3⟩)
         simp only[Act.put,List.setIfInBounds_toArray,List.set_cons_zero,List.set_cons_succ])
       |(apply cg
         ·rfl
         ·(intro w A3; obtain⟨c1,cd,c4, -⟩:=HK.out w A3; first|(go_simp; done)|(go_simp; with_reducible rfl))
         simp only[Act.put,List.setIfInBounds_toArray,List.set_cons_zero,List.set_cons_succ]))
      refine ch ?_;intro w4 B0;have A9:=aa ((A2.out.below B0).setReg D1.out xa (Dt.plus day (-xn)));have J4:=(A2.out.below B0).rb.cell D3 D2;have J3:=frozen_of (o:=xa.toNat) (A2.out.below B0).rb.2;clear z0 z1 z2 z4 z5 z6 cb ca fa vn;go_wp2_with fail
      go_roundw;case rel=>exact⟨a'+1,f',Vm.setReg r xa (Dt.plus day (-xn)),⟨H,O,t,false⟩,vh',vo',by first|rfl|go_num,rfl,⟨by have:=HA.out; omega,by have:=A0.out (by decide); omega⟩,aa hq.out.symm,HN,A9⟩
      case measure=>have:=A0.out (by decide); simp[intOf]; omega
    by_cases h2:xo=2
    ·subst h2;as_aux_lemma=>
      have hn:=C1.out (.inl rfl);have hg:=C6.out rfl;have HC:=aa (zvf mb F HE.out.ok day xn xs HE.out.day hn vf w3 (ab A2.out.m.box 3 _ rfl) (ab A2.out.m.box 4 _ rfl) (HE.out.fs.below (A2.out.m.bel.mono HE.out.mb)));have HG:=aa hg;clear B1 B2 hn hg;cases hf:Fd.tells F day xs xn with
      |none=>
       have hq:=aa (show R=Vm.run c (Vm.env F day) xt f' r ⟨H,O,t,false⟩ by
        have h:=A4.out;rw[Vm.act2_none rfl (show(Vm.env F day).feed xs xn=none from hf)] at h;exact h)
       rw[hf,zjv] at HC;clear hf;go_wp2_with (first|(go_at_call 60; refine HC.out.mono ?_; rintro e w4 ⟨rfl,b4⟩; have A9:=aa (A2.out.below b4); replace z6:=ax b4 _ _ z6))
       obtain⟨u,hu⟩:∃ u:Nat,(u:Int)=xt:=⟨xt.toNat,by have:=HG.out; omega⟩
       subst hu;go_roundw;case rel=>exact⟨u,f',r,⟨H,O,t,false⟩,vh',vo',rfl,rfl,⟨by have:=HA.out; have:=HG.out; omega,by have:=HG.out; omega⟩,aa hq.out.symm,HN,A9⟩
       case measure=>have:=HG.out; simp[intOf]; omega
      |some n=>
       have hq:=aa (show R=Vm.run c (Vm.env F day) ((a'+1:Nat):Int) f' (Vm.setReg r xa n) ⟨H,O,t,false⟩ by
        have h:=A4.out;rw[Vm.act2_some rfl (show(Vm.env F day).feed xs xn=some n from hf)] at h;exact h)
       rw[hf,zju] at HC;clear hf;go_wp2_with (first|(go_at_call 60; refine HC.out.mono ?_; rintro e w4 ⟨rfl,b4⟩; have A9:=aa ((A2.out.below b4).setReg D1.out xa n); replace z1:=ax b4 _ _ z1; replace ca:=(A2.out.below b4).rb.cell D3 D2; replace fa:=frozen_of (o:=xa.toNat) (A2.out.below b4).rb.2))
       go_roundw;case rel=>exact⟨a'+1,f',Vm.setReg r xa n,⟨H,O,t,false⟩,vh',vo',by first|rfl|go_num,rfl,⟨by have:=HA.out; omega,by have:=A0.out (by decide); omega⟩,aa hq.out.symm,HN,A9⟩
       case measure=>have:=A0.out (by decide); simp[intOf]; omega
    by_cases F5:xo=20
    ·subst F5;as_aux_lemma=>
      have hg:=C6.out rfl;obtain⟨jb,hj⟩:∃ jb,Vm.jumps (Vm.env F day) ⟨20,xa,A5,xc,xn,xs,xt⟩ (Vm.reg r A5)=jb:=⟨_,rfl⟩
      have hq:=aa (show R=Vm.run c (Vm.env F day) (if jb=true then xt else((a'+1:Nat):Int)) f' r ⟨H,O,t,false⟩ by
       have h:=A4.out;rw[Vm.act_jump (by simp) hj] at h;exact h)
      have HC:=aa (fun (W:World) (b:Below w3.heap.size w3 W)=>wj mb ⟨20,xa,A5,xc,xn,xs,xt⟩ F day (Vm.reg r A5) W (ab (A2.out.below b).m.box 3 _ rfl) (by simp));rw[hj] at HC;have HG:=aa hg;have HK:=aa (fun (W:World) (b:Below w3.heap.size w3 W)=>And.intro (ab (ag b A1.out) 0 _ rfl) (And.intro (ab (ag b A1.out) 1 _ rfl) (And.intro (ab (ag b A1.out) 2 _ rfl) (And.intro (ab (ag b A1.out) 3 _ rfl) (And.intro (ab (ag b A1.out) 4 _ rfl) (And.intro (ab (ag b A1.out) 5 _ rfl) (And.intro (ab (ag b A1.out) 6 _ rfl) (And.intro ((A2.out.below b).rb.cell C5 C4) (trivial)))))))));clear B1 B2 hg hj;go_upto_region 22 with(fail)
      have B3:=(Below.refl w3.heap.size w3).drew;refine bj (fun w'=>Below w3.heap.size w3 w') (by kernel_rfl) (by kernel_rfl) B3 ?_;repeat (first
       |(refine br ?_ ?_
         ·rfl
         simp only[Act.put,List.setIfInBounds_toArray,List.set_cons_zero,List.set_cons_succ])
       |(apply az 61 #[.pointer (some ⟨mb,0,none⟩),.agg #[.int .i64 20,.int .i64 xa,.int .i64 A5,.int .i64 xc,.int .i64 xn,.string xs,.int .i64 xt],.int .i64 (Vm.reg r A5)]
         ·rfl
         ·(intro w A3; obtain⟨c0,c1,c2,c3,c4,c5,c6,cb, -⟩:=HK.out w A3; go_simp; done)
         ·(intro w A3; exact(HC.out w A3).mono fun e w'' h=>⟨h.1,Below.more A3 h.2⟩)
         simp only[Act.put,List.setIfInBounds_toArray,List.set_cons_zero,List.set_cons_succ])
       |(apply cg
         ·rfl
         ·(intro w A3; obtain⟨c0,c1,c2,c3,c4,c5,c6,cb, -⟩:=HK.out w A3; first|(go_simp; done)|(go_simp; with_reducible rfl))
         simp only[Act.put,List.setIfInBounds_toArray,List.set_cons_zero,List.set_cons_succ]))
      refine ch ?_;intro w4 B0;have A9:=aa (A2.out.below B0);have D7:=ab (ag B0 A1.out) 6 _ rfl;clear z0 z1 z2 z4 z5 z6 cb ca fa;cases jb with
      |true=>
       go_wp2_with fail
       obtain⟨u,hu⟩:∃ u:Nat,(u:Int)=xt:=⟨xt.toNat,by have:=HG.out; omega⟩
       subst hu;go_roundw;case rel=>exact⟨u,f',r,⟨H,O,t,false⟩,vh',vo',rfl,rfl,⟨by have:=HA.out; have:=HG.out; omega,by have:=HG.out; omega⟩,aa hq.out.symm,HN,A9⟩
       case measure=>have:=HG.out; simp[intOf]; omega
      |false=>
       go_wp2_with fail
       go_roundw;case rel=>exact⟨a'+1,f',r,⟨H,O,t,false⟩,vh',vo',by first|rfl|go_num,rfl,⟨by have:=HA.out; omega,by have:=A0.out (by decide); omega⟩,aa hq.out.symm,HN,A9⟩
       case measure=>have:=A0.out (by decide); simp[intOf]; omega
    by_cases F6:xo=19
    ·subst F6;as_aux_lemma=>
      have hg:=C6.out rfl;obtain⟨jb,hj⟩:∃ jb,Vm.jumps (Vm.env F day) ⟨19,xa,A5,xc,xn,xs,xt⟩ (Vm.reg r A5)=jb:=⟨_,rfl⟩
      have hq:=aa (show R=Vm.run c (Vm.env F day) (if jb=true then xt else((a'+1:Nat):Int)) f' r ⟨H,O,t,false⟩ by
       have h:=A4.out;rw[Vm.act_jump (by simp) hj] at h;exact h)
      have HC:=aa (fun (W:World) (b:Below w3.heap.size w3 W)=>wj mb ⟨19,xa,A5,xc,xn,xs,xt⟩ F day (Vm.reg r A5) W (ab (A2.out.below b).m.box 3 _ rfl) (by simp));rw[hj] at HC;have HG:=aa hg;have HK:=aa (fun (W:World) (b:Below w3.heap.size w3 W)=>And.intro (ab (ag b A1.out) 0 _ rfl) (And.intro (ab (ag b A1.out) 1 _ rfl) (And.intro (ab (ag b A1.out) 2 _ rfl) (And.intro (ab (ag b A1.out) 3 _ rfl) (And.intro (ab (ag b A1.out) 4 _ rfl) (And.intro (ab (ag b A1.out) 5 _ rfl) (And.intro (ab (ag b A1.out) 6 _ rfl) (And.intro ((A2.out.below b).rb.cell C5 C4) (trivial)))))))));clear B1 B2 hg hj;go_upto_region 22 with(fail)
      have B3:=(Below.refl w3.heap.size w3).drew;refine bj (fun w'=>Below w3.heap.size w3 w') (by kernel_rfl) (by kernel_rfl) B3 ?_;repeat (first
       |(refine br ?_ ?_
         ·rfl
         simp only[Act.put,List.setIfInBounds_toArray,List.set_cons_zero,List.set_cons_succ])
       |(apply az 61 #[.pointer (some ⟨mb,0,none⟩),.agg #[.int .i64 19,.int .i64 xa,.int .i64 A5,.int .i64 xc,.int .i64 xn,.string xs,.int .i64 xt],.int .i64 (Vm.reg r A5)]
         ·rfl
         ·(intro w A3; obtain⟨c0,c1,c2,c3,c4,c5,c6,cb, -⟩:=HK.out w A3; go_simp; done)
         ·(intro w A3; exact(HC.out w A3).mono fun e w'' h=>⟨h.1,Below.more A3 h.2⟩)
         simp only[Act.put,List.setIfInBounds_toArray,List.set_cons_zero,List.set_cons_succ])
       |(apply cg
         ·rfl
         ·(intro w A3; obtain⟨c0,c1,c2,c3,c4,c5,c6,cb, -⟩:=HK.out w A3; first|(go_simp; done)|(go_simp; with_reducible rfl))
         simp only[Act.put,List.setIfInBounds_toArray,List.set_cons_zero,List.set_cons_succ]))
      refine ch ?_;intro w4 B0;have A9:=aa (A2.out.below B0);have D7:=ab (ag B0 A1.out) 6 _ rfl;clear z0 z1 z2 z4 z5 z6 cb ca fa;cases jb with
      |true=>
       go_wp2_with fail
       obtain⟨u,hu⟩:∃ u:Nat,(u:Int)=xt:=⟨xt.toNat,by have:=HG.out; omega⟩
       subst hu;go_roundw;case rel=>exact⟨u,f',r,⟨H,O,t,false⟩,vh',vo',rfl,rfl,⟨by have:=HA.out; have:=HG.out; omega,by have:=HG.out; omega⟩,aa hq.out.symm,HN,A9⟩
       case measure=>have:=HG.out; simp[intOf]; omega
      |false=>
       go_wp2_with fail
       go_roundw;case rel=>exact⟨a'+1,f',r,⟨H,O,t,false⟩,vh',vo',by first|rfl|go_num,rfl,⟨by have:=HA.out; omega,by have:=A0.out (by decide); omega⟩,aa hq.out.symm,HN,A9⟩
       case measure=>have:=A0.out (by decide); simp[intOf]; omega
    by_cases F4:xo=21
    ·subst F4;as_aux_lemma=>
      have hg:=C6.out rfl;obtain⟨jb,hj⟩:∃ jb,Vm.jumps (Vm.env F day) ⟨21,xa,A5,xc,xn,xs,xt⟩ (Vm.reg r A5)=jb:=⟨_,rfl⟩
      have hq:=aa (show R=Vm.run c (Vm.env F day) (if jb=true then xt else((a'+1:Nat):Int)) f' r ⟨H,O,t,false⟩ by
       have h:=A4.out;rw[Vm.act_jump (by simp) hj] at h;exact h)
      have HC:=aa (fun (W:World) (b:Below w3.heap.size w3 W)=>wj mb ⟨21,xa,A5,xc,xn,xs,xt⟩ F day (Vm.reg r A5) W (ab (A2.out.below b).m.box 3 _ rfl) (by simp));rw[hj] at HC;have HG:=aa hg;have HK:=aa (fun (W:World) (b:Below w3.heap.size w3 W)=>And.intro (ab (ag b A1.out) 0 _ rfl) (And.intro (ab (ag b A1.out) 1 _ rfl) (And.intro (ab (ag b A1.out) 2 _ rfl) (And.intro (ab (ag b A1.out) 3 _ rfl) (And.intro (ab (ag b A1.out) 4 _ rfl) (And.intro (ab (ag b A1.out) 5 _ rfl) (And.intro (ab (ag b A1.out) 6 _ rfl) (And.intro ((A2.out.below b).rb.cell C5 C4) (trivial)))))))));clear B1 B2 hg hj;go_upto_region 22 with(fail)
      have B3:=(Below.refl w3.heap.size w3).drew;refine bj (fun w'=>Below w3.heap.size w3 w') (by kernel_rfl) (by kernel_rfl) B3 ?_;repeat (first
       |(refine br ?_ ?_
         ·rfl
         simp only[Act.put,List.setIfInBounds_toArray,List.set_cons_zero,List.set_cons_succ])
       |(apply az 61 #[.pointer (some ⟨mb,0,none⟩),.agg #[.int .i64 21,.int .i64 xa,.int .i64 A5,.int .i64 xc,.int .i64 xn,.string xs,.int .i64 xt],.int .i64 (Vm.reg r A5)]
         ·rfl
         ·(intro w A3; obtain⟨c0,c1,c2,c3,c4,c5,c6,cb, -⟩:=HK.out w A3; go_simp; done)
         ·(intro w A3; exact(HC.out w A3).mono fun e w'' h=>⟨h.1,Below.more A3 h.2⟩)
         simp only[Act.put,List.setIfInBounds_toArray,List.set_cons_zero,List.set_cons_succ])
       |(apply cg
         ·rfl
         ·(intro w A3; obtain⟨c0,c1,c2,c3,c4,c5,c6,cb, -⟩:=HK.out w A3; first|(go_simp; done)|(go_simp; with_reducible rfl))
         simp only[Act.put,List.setIfInBounds_toArray,List.set_cons_zero,List.set_cons_succ]))
      refine ch ?_;intro w4 B0;have A9:=aa (A2.out.below B0);have D7:=ab (ag B0 A1.out) 6 _ rfl;clear z0 z1 z2 z4 z5 z6 cb ca fa;cases jb with
      |true=>
       go_wp2_with fail
       obtain⟨u,hu⟩:∃ u:Nat,(u:Int)=xt:=⟨xt.toNat,by have:=HG.out; omega⟩
       subst hu;go_roundw;case rel=>exact⟨u,f',r,⟨H,O,t,false⟩,vh',vo',rfl,rfl,⟨by have:=HA.out; have:=HG.out; omega,by have:=HG.out; omega⟩,aa hq.out.symm,HN,A9⟩
       case measure=>have:=HG.out; simp[intOf]; omega
      |false=>
       go_wp2_with fail
       go_roundw;case rel=>exact⟨a'+1,f',r,⟨H,O,t,false⟩,vh',vo',by first|rfl|go_num,rfl,⟨by have:=HA.out; omega,by have:=A0.out (by decide); omega⟩,aa hq.out.symm,HN,A9⟩
       case measure=>have:=A0.out (by decide); simp[intOf]; omega
    by_cases F3:xo=22
    ·subst F3;as_aux_lemma=>
      have hg:=C6.out rfl;obtain⟨jb,hj⟩:∃ jb,Vm.jumps (Vm.env F day) ⟨22,xa,A5,xc,xn,xs,xt⟩ (Vm.reg r A5)=jb:=⟨_,rfl⟩
      have hq:=aa (show R=Vm.run c (Vm.env F day) (if jb=true then xt else((a'+1:Nat):Int)) f' r ⟨H,O,t,false⟩ by
       have h:=A4.out;rw[Vm.act_jump (by simp) hj] at h;exact h)
      have HC:=aa (fun (W:World) (b:Below w3.heap.size w3 W)=>wj mb ⟨22,xa,A5,xc,xn,xs,xt⟩ F day (Vm.reg r A5) W (ab (A2.out.below b).m.box 3 _ rfl) (by simp));rw[hj] at HC;have HG:=aa hg;have HK:=aa (fun (W:World) (b:Below w3.heap.size w3 W)=>And.intro (ab (ag b A1.out) 0 _ rfl) (And.intro (ab (ag b A1.out) 1 _ rfl) (And.intro (ab (ag b A1.out) 2 _ rfl) (And.intro (ab (ag b A1.out) 3 _ rfl) (And.intro (ab (ag b A1.out) 4 _ rfl) (And.intro (ab (ag b A1.out) 5 _ rfl) (And.intro (ab (ag b A1.out) 6 _ rfl) (And.intro ((A2.out.below b).rb.cell C5 C4) (trivial)))))))));clear B1 B2 hg hj;go_upto_region 22 with(fail)
      have B3:=(Below.refl w3.heap.size w3).drew;refine bj (fun w'=>Below w3.heap.size w3 w') (by kernel_rfl) (by kernel_rfl) B3 ?_;repeat (first
       |(refine br ?_ ?_
         ·rfl
         simp only[Act.put,List.setIfInBounds_toArray,List.set_cons_zero,List.set_cons_succ])
       |(apply az 61 #[.pointer (some ⟨mb,0,none⟩),.agg #[.int .i64 22,.int .i64 xa,.int .i64 A5,.int .i64 xc,.int .i64 xn,.string xs,.int .i64 xt],.int .i64 (Vm.reg r A5)]
         ·rfl
         ·(intro w A3; obtain⟨c0,c1,c2,c3,c4,c5,c6,cb, -⟩:=HK.out w A3; go_simp; done)
         ·(intro w A3; exact(HC.out w A3).mono fun e w'' h=>⟨h.1,Below.more A3 h.2⟩)
         simp only[Act.put,List.setIfInBounds_toArray,List.set_cons_zero,List.set_cons_succ])
       |(apply cg
         ·rfl
         ·(intro w A3; obtain⟨c0,c1,c2,c3,c4,c5,c6,cb, -⟩:=HK.out w A3; first|(go_simp; done)|(go_simp; with_reducible rfl))
         simp only[Act.put,List.setIfInBounds_toArray,List.set_cons_zero,List.set_cons_succ]))
      refine ch ?_;intro w4 B0;have A9:=aa (A2.out.below B0);have D7:=ab (ag B0 A1.out) 6 _ rfl;clear z0 z1 z2 z4 z5 z6 cb ca fa;cases jb with
      |true=>
       go_wp2_with fail
       obtain⟨u,hu⟩:∃ u:Nat,(u:Int)=xt:=⟨xt.toNat,by have:=HG.out; omega⟩
       subst hu;go_roundw;case rel=>exact⟨u,f',r,⟨H,O,t,false⟩,vh',vo',rfl,rfl,⟨by have:=HA.out; have:=HG.out; omega,by have:=HG.out; omega⟩,aa hq.out.symm,HN,A9⟩
       case measure=>have:=HG.out; simp[intOf]; omega
      |false=>
       go_wp2_with fail
       go_roundw;case rel=>exact⟨a'+1,f',r,⟨H,O,t,false⟩,vh',vo',by first|rfl|go_num,rfl,⟨by have:=HA.out; omega,by have:=A0.out (by decide); omega⟩,aa hq.out.symm,HN,A9⟩
       case measure=>have:=A0.out (by decide); simp[intOf]; omega
    by_cases E8:xo=27
    ·subst E8;clear B1 B2;by_cases hf:f'=0
     ·have hq:=aa (show R=Vm.run c (Vm.env F day) ((a'+1:Nat):Int) f' r ⟨H,O,t,false⟩ by
       have h:=A4.out;rw[Vm.act_pay0 rfl hf] at h;exact h)
      have g0:(f' != 0)=false:=by rw[hf]; rfl
      have J2:(f' == 0)=true:=by rw[hf]; rfl
      clear hf;go_wp2_with fail
      go_roundw;case rel=>exact⟨a'+1,f',r,⟨H,O,t,false⟩,vh',vo',by first|rfl|go_num,rfl,⟨by have:=HA.out; omega,by have:=A0.out (by decide); omega⟩,aa hq.out.symm,HN,A2⟩
      case measure=>have:=A0.out (by decide); simp[intOf]; omega
     ·have hq:=aa (show R=Vm.run c (Vm.env F day) ((a'+1:Nat):Int) f' r ⟨H,O++[(xs,f')],t,false⟩ by
       have h:=A4.out;rw[Vm.act_pay rfl hf] at h;exact h)
      have g0:(f' != 0)=true:=by rw[bne_iff_ne]; exact hf
      have J2:(f' == 0)=false:=by rw[beq_eq_false_iff_ne]; exact hf
      have F9:Hid (Vm.StOk ⟨H,O++[(xs,f')],t,false⟩):=aa ⟨by have:=A6.out; simp only; omega,by have:=A6.out; simp only[List.length_append,List.length_cons,List.length_nil]; omega,by have:=A6.out; simp only; omega,fun _=>by have:=A6.out; simp only; omega⟩;clear hf;go_upto_region 34 with(fail)
      have r3:=ab A2.out.m.box 3 _ rfl;have r6:=ab A2.out.m.box 6 _ rfl;have I4:=fj r3 (.cells #[.int .i64 day,.string xs,.int .i64 f'] 59);have I2:=fj r6 (.cells #[.int .i64 day,.string xs,.int .i64 f'] 59);have H8:=fj z5 (.cells #[.int .i64 day,.string xs,.int .i64 f'] 59);have D0:Hid (TranRow (mb+1) w3.drew vo' day O):=aa (World.ownsRow.drew A2.out.m.ts);have B6:=aa (A2.out.below (Below.refl w3.heap.size w3).drew);have B5:=aa (show O.length+1≤1000000 by have:=A6.out; omega);have G0:=aa (show mb+1≤w3.drew.heap.size from B6.out.m.lt);go_region_law (first|(refine zoy rfl _ _ (by rfl) (mb+1) vo' day O (by rfl) D0.out (xs,f') (by rfl) B5.out G0.out ?_; intro v' w5 h5 h6; have C2:=(h6.block mb B6.out.m.lt (fun e=>mi D0.out (Nat.lt_succ_self _) e.symm)).trans B6.out.m.box; have H2:=ab C2 6 _ rfl; have H1:=frozen_of (o:=6) C2; obtain⟨hp,J1,rfl⟩:=dt h5))
      all_goals have B4:=aa (LSt.pushTran B6.out (y:=(xs,f')) h5 h6)
      all_goals simp only[List.length_append,List.length_cons,List.length_nil,Nat.zero_add] at B4
      all_goals clear h5 h6 r3 r6 I4 I2 H8 C2 z0 z1 z2 z4 z5 z6 cb ca fa
      all_goals go_wp2_with fail
      all_goals
       go_roundw;case rel=>exact⟨a'+1,f',r,⟨H,O++[(xs,f')],t,false⟩,vh',_,by first|rfl|go_num,rfl,⟨by have:=HA.out; omega,by have:=A0.out (by decide); omega⟩,aa hq.out.symm,F9,B4⟩
       case measure=>have:=A0.out (by decide); simp[intOf]; omega
    by_cases E7:xo=28
    ·subst E7;clear B1 B2;obtain⟨ob,D4⟩:∃ ob,decide (250<H.length+1)=ob:=⟨_,rfl⟩
     have hq:=aa (show R=Vm.run c (Vm.env F day) ((a'+1:Nat):Int) f' r ⟨H++[(xn,f')],O,t,ob⟩ by rw[←D4]; exact A4.out);have F9:Hid (Vm.StOk ⟨H++[(xn,f')],O,t,ob⟩):=aa ⟨by have:=A6.out; simp only[List.length_append,List.length_cons,List.length_nil]; omega,by have:=A6.out; simp only; omega,by have:=A6.out; simp only; omega,fun ho=>by
       have:=A6.out;simp only at ho;rw[ho] at D4
       have:=of_decide_eq_false D4;simp only[List.length_append,List.length_cons,List.length_nil]; omega⟩
     have E1:decide ((250:Int)<((H.length+1:Nat):Int))=ob:=by rw[←D4]; by_cases h:250<H.length+1; rw[decide_eq_true h,decide_eq_true (by omega)]; rw[decide_eq_false h,decide_eq_false (by omega)]
     have I7:decide ((250:Int)<(H.length:Int)+1)=ob:=by rw[←E1]; congr 1
     go_upto_region 36 with(fail)
     have r5:=ab A2.out.m.box 5 _ rfl;have I3:=fj r5 (.cells #[.int .i64 xn,.int .i64 f'] 52);have H9:=fj z4 (.cells #[.int .i64 xn,.int .i64 f'] 52);have D0:Hid (mq (mb+1) w3.drew vh' H):=aa (World.ownsRow.drew A2.out.m.hs);have B6:=aa (A2.out.below (Below.refl w3.heap.size w3).drew);have B5:=aa (show H.length+1≤1000000 by have:=A6.out; omega);have G0:=aa (show mb+1≤w3.drew.heap.size from B6.out.m.lt);go_region_law (first|(refine zoz rfl _ _ (by rfl) (mb+1) vh' H (by rfl) D0.out (xn,f') (by rfl) B5.out G0.out ?_; intro v' w5 h5 h6; have C2:=(h6.block mb B6.out.m.lt (fun e=>mi D0.out (Nat.lt_succ_self _) e.symm)).trans B6.out.m.box; have H2:=ab C2 5 _ rfl; have H1:=frozen_of (o:=5) C2; obtain⟨hp,J1,rfl⟩:=dt h5))
     all_goals have B4:=aa (LSt.pushHold B6.out (y:=(xn,f')) h5 h6)
     all_goals simp only[List.length_append,List.length_cons,List.length_nil,Nat.zero_add] at B4
     all_goals
      clear h5 h6 r5 I3 H9 C2 z0 z1 z2 z4 z5 z6 cb ca fa H2 H1;generalize w5.setCell _ _=w6 at *;have q8:=ab B4.out.m.box 8 _ rfl;have q5:=ab B4.out.m.box 5 _ rfl;have f8:=frozen_of (o:=8) B4.out.m.box;have H7:=aa (LSt.setOver B4.out ob);simp only at H7;go_wp2_with fail
      go_roundw;case rel=>exact⟨a'+1,f',r,⟨H++[(xn,f')],O,t,ob⟩,_,vo',by first|rfl|go_num,rfl,⟨by have:=HA.out; omega,by have:=A0.out (by decide); omega⟩,aa hq.out.symm,F9,H7⟩
      case measure=>have:=A0.out (by decide); simp[intOf]; omega
    by_cases E6:xo=29
    ·subst E6;as_aux_lemma=>
      obtain⟨J9,J8,E4,E3⟩:=B7.out rfl;obtain⟨wt,D9⟩:∃ wt,c.waits[xn.toNat]? = some wt:=⟨_,List.getElem?_eq_getElem (by omega)⟩
      have C3:dq c xn=wt.entry:=by unfold dq; rw[D9]
      obtain⟨wp,wcp,I5, -,G3⟩:=(show WaitsAt W0 vw c.waits from by
       obtain⟨vw',vi',e,h1,_,_⟩:=HE.out.cd;simp only[Value.agg.injEq,Array.mk.injEq,List.cons.injEq,and_true,true_and] at e;obtain⟨rfl,rfl⟩:=e;exact h1)
      obtain⟨wb,wo,rfl,G4,⟨e0, -, -, -, -⟩, -⟩:=G3 _ wt D9;subst I5;have F7:=(A2.out.m.bel.cell (p:=⟨wb,wo+xn.toNat * 5,none⟩) (Nat.lt_of_lt_of_le G4 HE.out.mb)).trans e0;rw[C3] at E4 E3;obtain⟨en,E2⟩:∃ en:Nat,(en:Int)=wt.entry:=⟨wt.entry.toNat,by omega⟩
      rw[←E2] at E4 E3 F7;have G7:=aa (show R=Vm.run c (Vm.env F day) ((a'+1:Nat):Int) f' r (Vm.run c (Vm.env F day) (en:Int) f' Vm.zeros ⟨H,O,t,false⟩) by rw[E2,←C3]; exact A4.out);have C0:=(Vm.run_ok c (Vm.env F day) HE.out.rt _ en f' Vm.zeros ⟨H,O,t,false⟩ (Nat.le_refl _) (by omega) HN.out rfl).1;obtain⟨D8,E0⟩:∃ D8,Vm.run c (Vm.env F day) (en:Int) f' Vm.zeros ⟨H,O,t,false⟩=D8:=⟨_,rfl⟩
      rw[E0] at G7 C0;have F8:=aa C0;have HC:=aa (fun (W:World) (b:Below w3.heap.size w3 W)=>IH.out en f' ⟨H,O,t,false⟩ vh' vo' W (by have:=HA.out; omega) (by omega) HN.out (A2.out.below b).m);rw[E0] at HC;have HK:=aa (fun (W:World) (b:Below w3.heap.size w3 W)=>And.intro (ab (A2.out.below b).m.box 1 _ rfl) (And.intro (ab (ag b A1.out) 4 _ rfl) (And.intro (ax b _ _ F7) (trivial))));clear B1 B2 E4 E3 C3 D9 G3 e0 G4 E0 C0 E2 F7;go_upto_region 39 with(fail)
      have B3:=(Below.refl w3.heap.size w3).drew;refine mr (fun w'=>Below w3.heap.size w3 w') 12 (by kernel_rfl) (by kernel_rfl) B3 ?_;simp only[List.take_succ_cons,List.take_zero,List.drop_succ_cons,List.drop_zero];repeat (first
       |(refine br ?_ ?_
         ·rfl
         simp only[Act.put,List.setIfInBounds_toArray,List.set_cons_zero,List.set_cons_succ])
       |(apply cg
         ·rfl
         ·(intro w A3; obtain⟨cw,c4,ce, -⟩:=HK.out w A3; first|(go_simp; done)|(go_simp; with_reducible rfl))
         simp only[Act.put,List.setIfInBounds_toArray,List.set_cons_zero,List.set_cons_succ]))
      refine ch ?_;intro w4 B0;clear z0 z1 z2 z4 z5 z6 cb ca fa;go_wp2_with (first|(go_at_call 31; refine(HC.out _ B0).mono ?_; rintro e w5 ⟨⟨re,rfl⟩,⟨I1,I0,G9⟩,C9⟩; have B4:=aa (LSt.call (A2.out.below B0) G9 C9); clear G9 C9))
      go_roundw;case rel=>exact⟨a'+1,f',r,D8,I1,I0,by first|rfl|go_num,rfl,⟨by have:=HA.out; omega,by have:=A0.out (by decide); omega⟩,aa G7.out.symm,F8,B4⟩
      case measure=>have:=A0.out (by decide); simp[intOf]; omega
    as_aux_lemma=>
     have H4:=Vm.act_default (c:=c) (E:=Vm.env F day) (x:=⟨xo,xa,A5,xc,xn,xs,xt⟩) (a:=(a':Int)) (f:=f') (r:=r) (by simp only; omega);have hq:=aa (show R=Vm.run c (Vm.env F day) ((a'+1:Nat):Int) f' (Vm.setReg r xa (Vm.rk xo (Vm.reg r A5) (Vm.reg r xc))) ⟨H,O,t,false⟩ by
      have h:=A4.out;rw[H4] at h;exact h)
     have HC:=aa (fun W=>qo xo (Vm.reg r A5) (Vm.reg r xc) W);generalize Vm.rk xo (Vm.reg r A5) (Vm.reg r xc)=rv at *;have L0:(xo == 30)=false:=by rw[beq_eq_false_iff_ne]; exact D5
     have e1:(xo == 1)=false:=by rw[beq_eq_false_iff_ne]; exact h1
     have L5:(xo == 25)=false:=by rw[beq_eq_false_iff_ne]; exact F0
     have L6:(xo == 24)=false:=by rw[beq_eq_false_iff_ne]; exact F1
     have L4:(xo == 26)=false:=by rw[beq_eq_false_iff_ne]; exact E9
     have L7:(xo == 23)=false:=by rw[beq_eq_false_iff_ne]; exact F2
     have e3:(xo == 3)=false:=by rw[beq_eq_false_iff_ne]; exact h3
     have e2:(xo == 2)=false:=by rw[beq_eq_false_iff_ne]; exact h2
     have M0:(xo == 20)=false:=by rw[beq_eq_false_iff_ne]; exact F5
     have M1:(xo == 19)=false:=by rw[beq_eq_false_iff_ne]; exact F6
     have L9:(xo == 21)=false:=by rw[beq_eq_false_iff_ne]; exact F4
     have L8:(xo == 22)=false:=by rw[beq_eq_false_iff_ne]; exact F3
     have L3:(xo == 27)=false:=by rw[beq_eq_false_iff_ne]; exact E8
     have L2:(xo == 28)=false:=by rw[beq_eq_false_iff_ne]; exact E7
     have L1:(xo == 29)=false:=by rw[beq_eq_false_iff_ne]; exact E6
     have HK:=aa (fun (W:World) (b:Below w3.heap.size w3 W)=>And.intro (ab (ag b A1.out) 0 _ rfl) (And.intro (ab (ag b A1.out) 1 _ rfl) (And.intro (ab (ag b A1.out) 2 _ rfl) (And.intro (ab (ag b A1.out) 3 _ rfl) (And.intro ((A2.out.below b).rb.cell C5 C4) (And.intro ((A2.out.below b).rb.cell rc.1 rc.2) (trivial)))))));have H0:=aa (A0.out D5);clear B1 B2 H4 D5 h1 F0 F1 E9 F2 h3 h2 F5 F6 F4 F3 E8 E7 E6;go_upto_region 7 with(fail)
     have B3:=(Below.refl w3.heap.size w3).drew;refine mr (fun w'=>Below w3.heap.size w3 w') 14 (by kernel_rfl) (by kernel_rfl) B3 ?_;simp only[List.take_succ_cons,List.take_zero,List.drop_succ_cons,List.drop_zero];repeat (first
      |(refine br ?_ ?_
        ·rfl
        simp only[Act.put,List.setIfInBounds_toArray,List.set_cons_zero,List.set_cons_succ])
      |(apply az 64 #[.int .i64 xo,.int .i64 (Vm.reg r A5),.int .i64 (Vm.reg r xc)]
        ·rfl
        ·(intro w A3; obtain⟨c0,c1,c2,c3,cb,cc, -⟩:=HK.out w A3; go_simp; done)
        ·(intro w A3; exact(HC.out w).mono fun e w'' h=>⟨h.1,Below.more A3 h.2⟩)
        simp only[Act.put,List.setIfInBounds_toArray,List.set_cons_zero,List.set_cons_succ])
      |(apply cg
        ·rfl
        ·(intro w A3; obtain⟨c0,c1,c2,c3,cb,cc, -⟩:=HK.out w A3; first|(go_simp; done)|(go_simp; with_reducible rfl))
        simp only[Act.put,List.setIfInBounds_toArray,List.set_cons_zero,List.set_cons_succ]))
     refine ch ?_;intro w4 B0;have A9:=aa ((A2.out.below B0).setReg D1.out xa rv);have J4:=(A2.out.below B0).rb.cell D3 D2;have J3:=frozen_of (o:=xa.toNat) (A2.out.below B0).rb.2;clear z0 z1 z2 z4 z5 z6 cb ca fa;go_wp2_with fail
     go_roundw;case rel=>exact⟨a'+1,f',Vm.setReg r xa rv,⟨H,O,t,false⟩,vh',vo',by first|rfl|go_num,rfl,⟨by have:=HA.out; omega,by have:=H0.out; omega⟩,aa hq.out.symm,HN,A9⟩
     case measure=>have:=H0.out; simp[intOf]; omega
end
section
open Go.RowKit
open Gen
open Rw
set_option maxRecDepth 100000
theorem Mach.start (W0:World)(c:Gen.Cd)(day:Int)(vw vi vf:Value):
  Mach W0 W0.heap.size c day vw vi vf Vm.st0 (.slice none 0 0) (.slice none 0 0) (W0.alloc (.cells #[.int .i64 c.regs,vw,vi,.int .i64 day,vf,.slice none 0 0,.slice none 0 0,.int .i64 0,.bool false] 82)):=
 ⟨(Below.refl _ _).alloc (Nat.le_refl _) _,heap_alloc_new _ _,World.ownsRow_nil _ _ _ _,World.ownsRow_nil _ _ _ _⟩
def zxw (c:Gen.Cd)(L:List (Int × Int))(day:Int)(Fr:Bool)(pk np:Bool):Bool:=
 !((pk || np) && (Gen.right c && ((decide (0≤day) && decide (day≤73048)) && (Fr && decide (L.length≤250)))))
set_option maxHeartbeats 8000000 in
theorem zin (c:Gen.Cd)(L:List (Int × Int))(day:Int)(F:List Fd.Feed)(lab:ByteArray)(wh:Int)(vw vi vl vf:Value)(w:World)(hc:CdAt w (.agg #[.int .i64 c.regs,vw,vi]) c)(hl:StampsAt w vl L)(hF:FeedsAt w vf F)(D8:lab.size≤2000000):
  Calls Tryz.prog 15 #[.agg #[.int .i64 c.regs,vw,vi],vl,.int .i64 day,vf,.agg #[.string lab,.int .i64 wh]] w (zkh (Vm.step c L day F lab wh) day w):=by
 have J3:=aa hc;have I9:=aa hl;have J1:=aa hF;have H4:=aa D8;obtain⟨wp,wk,rfl,H8⟩:∃ wp wk,vw=.slice wp c.waits.length wk∧(c.waits.length≤wk∧wk≤maxLen):=by
  obtain⟨vw',vi',e,⟨p,cc,e2,h2,_⟩,_⟩:=hc;simp only[Value.agg.injEq,Array.mk.injEq,List.cons.injEq,and_true,true_and] at e;obtain⟨rfl,rfl⟩:=e;exact⟨p,cc,e2,h2⟩
 obtain⟨ip,ic,rfl⟩:∃ ip ic,vi=.slice ip c.ins.length ic:=by
  obtain⟨vw',vi',e,_,⟨p,cc,e2,_,_⟩,_⟩:=hc;simp only[Value.agg.injEq,Array.mk.injEq,List.cons.injEq,and_true,true_and] at e;obtain⟨rfl,rfl⟩:=e;exact⟨p,cc,e2⟩
 obtain⟨lp,lc,rfl,⟨L1,I5⟩, -⟩:=hl;obtain⟨fp,fc,rfl, -, -⟩:=hF;have L7:(c.waits.length:Int)≤9223372036854775807:=by have:=H8.2; unfold maxLen at this; omega
 have L8:(L.length:Int)≤9223372036854775807:=by unfold maxLen at I5; omega
 obtain⟨R,hR⟩:∃ R,Hid (R=Vm.step c L day F lab wh):=⟨_,rfl⟩
 rw[←hR.out];clear hc D8 H8 L1 I5;have B0:=((Below.refl w.heap.size w).alloc (Nat.le_refl _) (.cells #[.int .i64 c.regs,.slice wp c.waits.length wk,.slice ip c.ins.length ic] 29)).alloc (by simp) (.cells #[.string lab,.int .i64 wh] 46);have J4:=aa B0;have C5:=aa (show((w.alloc (.cells #[.int .i64 c.regs,.slice wp c.waits.length wk,.slice ip c.ins.length ic] 29)).alloc (.cells #[.string lab,.int .i64 wh] 46)).heap[w.heap.size]? = some (.cells #[.int .i64 c.regs,.slice wp c.waits.length wk,.slice ip c.ins.length ic] 29 (0,0)) from(zgm w _ _).1);have C0:=aa (show((w.alloc (.cells #[.int .i64 c.regs,.slice wp c.waits.length wk,.slice ip c.ins.length ic] 29)).alloc (.cells #[.string lab,.int .i64 wh] 46)).heap[w.heap.size+1]? = some (.cells #[.string lab,.int .i64 wh] 46 (0,0)) from by
  have:=heap_alloc_new (w.alloc (.cells #[.int .i64 c.regs,.slice wp c.waits.length wk,.slice ip c.ins.length ic] 29)) (.cells #[.string lab,.int .i64 wh] 46);rwa [World.size_alloc] at this)
 clear B0;go_enter Tryz.func15,Tryz.ntmps15;go_upto_region 1 with(fail)
 obtain⟨b5,A4⟩:∃ b5,b5=w.heap.size:=⟨_,rfl⟩
 rw[←A4] at C5 C0 ⊢;clear A4;generalize (w.alloc (.cells #[.int .i64 c.regs,.slice wp c.waits.length wk,.slice ip c.ins.length ic] 29)).alloc (.cells #[.string lab,.int .i64 wh] 46)=w2 at *;have s0:=ab C0.out 0 _ rfl;have s1:=ab C0.out 1 _ rfl;obtain⟨pk,G1⟩:∃ pk,Hid (pk=Vm.picksB lab wh):=⟨_,rfl⟩
 go_cut [14] (fun v wx=>v=.bool pk∧Hid (Below w2.heap.size w2 wx));case first=>
  have HC:=aa (fun W=>zcx lab W (by have:=H4.out; omega));have hb:=aa (show pk=(Led.isName lab && (decide (wh=1) || decide (wh=2))) from G1.out);cases hn:Led.isName lab with
  |false=>
   rw[hn] at HC hb;have hq:=aa (show pk=false from hb.out);clear hn hb;go_wp2_with (first|(go_at_call 33; refine(HC.out _).mono ?_; rintro e w3 ⟨rfl,b3⟩))
   go_meet;exact⟨by rw[hq.out],b3⟩
  |true=>
   rw[hn] at HC hb;clear hn;by_cases h1:wh=1
   ·subst h1;have hq:=aa (show pk=true from hb.out);clear hb;go_wp2_with (first|(go_at_call 33; refine(HC.out _).mono ?_; rintro e w3 ⟨rfl,b3⟩; replace s1:=ax b3 _ _ s1))
    go_meet;exact⟨by rw[hq.out],b3⟩
   ·have g1:(wh == 1)=false:=by rw[beq_eq_false_iff_ne]; exact h1
    by_cases h2:wh=2
    ·subst h2;have hq:=aa (show pk=true from hb.out);clear hb h1;go_wp2_with (first|(go_at_call 33; refine(HC.out _).mono ?_; rintro e w3 ⟨rfl,b3⟩; replace s1:=ax b3 _ _ s1))
     go_meet;exact⟨by rw[hq.out],b3⟩
    ·have g2:(wh == 2)=false:=by rw[beq_eq_false_iff_ne]; exact h2
     have hq:=aa (show pk=false by rw[hb.out,decide_eq_false h1,decide_eq_false h2]; rfl);clear hb h1 h2;go_wp2_with (first|(go_at_call 33; refine(HC.out _).mono ?_; rintro e w3 ⟨rfl,b3⟩; replace s1:=ax b3 _ _ s1))
     go_meet;exact⟨by rw[hq.out],b3⟩
 case rest=>
  obtain⟨rfl,F8⟩:=hcut;have B3:=aa (ag F8.out C5.out);have B6:=aa (ag F8.out C0.out);have F6:=aa (Below.more J4.out F8.out);clear s0 s1 C5 C0 J4 F8;obtain⟨w3,L0⟩:∃ w3,w3=wc:=⟨_,rfl⟩
  subst L0;have s0:=ab B6.out 0 _ rfl;have s1:=ab B6.out 1 _ rfl;have d0:=ab B3.out 0 _ rfl;have d1:=ab B3.out 1 _ rfl;have d2:=ab B3.out 2 _ rfl;obtain⟨np,I2⟩:∃ np,Hid (np=Vm.noPick lab wh):=⟨_,rfl⟩
  obtain⟨bad,A6⟩:∃ bad,Hid (bad=zxw c L day (Fd.right F) pk np):=⟨_,rfl⟩
  go_upto_region 2 with(fail)
  go_cut [59] (fun v wx=>v=.bool bad∧Hid (Below w3.heap.size w3 wx));case first=>
   have HR:=aa (fun (W:World) (b:Below w3.heap.size w3 W)=>uy (.agg #[.int .i64 c.regs,.slice wp c.waits.length wk,.slice ip c.ins.length ic]) c W ((J3.out.below F6.out).below b));have A7:=aa (fun (W:World) (b:Below w3.heap.size w3 W)=>xz (.slice fp F.length fc) F W ((J1.out.below F6.out).below b));have A8:=aa (fun W=>nw day W);have hb:=aa (show bad = !((pk || np) && (Gen.right c && ((decide (0≤day) && decide (day≤73048)) && (Fd.right F && decide (L.length≤250))))) from A6.out);cases pk with
   |true=>
    cases hr:Gen.right c with
    |false=>
     rw[hr] at HR hb;have hq:=aa (show bad=true from hb.out);clear hb  hr;go_wp2_with (first|(go_at_call 11; refine(HR.out _ (Below.refl _ _)).mono ?_; rintro e wa ⟨rfl,b3⟩; have A1:=aa b3; clear b3)|(go_at_call 29; refine(A8.out _).mono ?_; rintro e wb ⟨rfl,rfl⟩)|(go_at_call 30; refine(A7.out _ A1.out).mono ?_; rintro e wd ⟨rfl,A0⟩; have A4:=aa (Below.more A1.out A0); clear A0))
     go_meet;exact⟨by rw[hq.out],A1⟩
    |true=>
     rw[hr] at HR hb;clear hr;cases hD:(decide (0≤day) && decide (day≤73048)) with
     |false=>
      rw[hD] at A8 hb;have hq:=aa (show bad=true from hb.out);clear hb hD;go_wp2_with (first|(go_at_call 11; refine(HR.out _ (Below.refl _ _)).mono ?_; rintro e wa ⟨rfl,b3⟩; have A1:=aa b3; clear b3)|(go_at_call 29; refine(A8.out _).mono ?_; rintro e wb ⟨rfl,rfl⟩)|(go_at_call 30; refine(A7.out _ A1.out).mono ?_; rintro e wd ⟨rfl,A0⟩; have A4:=aa (Below.more A1.out A0); clear A0))
      go_meet;exact⟨by rw[hq.out],A1⟩
     |true=>
      rw[hD] at A8 hb;clear hD;cases hF2:Fd.right F with
      |false=>
       rw[hF2] at A7 hb;have hq:=aa (show bad=true from hb.out);clear hb hF2;go_wp2_with (first|(go_at_call 11; refine(HR.out _ (Below.refl _ _)).mono ?_; rintro e wa ⟨rfl,b3⟩; have A1:=aa b3; clear b3)|(go_at_call 29; refine(A8.out _).mono ?_; rintro e wb ⟨rfl,rfl⟩)|(go_at_call 30; refine(A7.out _ A1.out).mono ?_; rintro e wd ⟨rfl,A0⟩; have A4:=aa (Below.more A1.out A0); clear A0))
       go_meet;exact⟨by rw[hq.out],A4⟩
      |true=>
       rw[hF2] at A7 hb;clear hF2;by_cases A2:250<L.length
       ·have g1:decide (250<L.length)=true:=decide_eq_true A2;have g1i:decide ((250:Int)<(L.length:Int))=true:=decide_eq_true (by omega);rw[decide_eq_false (by omega:¬L.length≤250)] at hb;have hq:=aa (show bad=true from hb.out);clear hb A2;go_wp2_with (first|(go_at_call 11; refine(HR.out _ (Below.refl _ _)).mono ?_; rintro e wa ⟨rfl,b3⟩; have A1:=aa b3; clear b3)|(go_at_call 29; refine(A8.out _).mono ?_; rintro e wb ⟨rfl,rfl⟩)|(go_at_call 30; refine(A7.out _ A1.out).mono ?_; rintro e wd ⟨rfl,A0⟩; have A4:=aa (Below.more A1.out A0); clear A0))
        go_meet;exact⟨by rw[hq.out],A4⟩
       ·have g1:decide (250<L.length)=false:=decide_eq_false A2;have g1i:decide ((250:Int)<(L.length:Int))=false:=decide_eq_false (by omega);rw[decide_eq_true (by omega:L.length≤250)] at hb;have hq:=aa (show bad=false from hb.out);clear hb A2;go_wp2_with (first|(go_at_call 11; refine(HR.out _ (Below.refl _ _)).mono ?_; rintro e wa ⟨rfl,b3⟩; have A1:=aa b3; clear b3)|(go_at_call 29; refine(A8.out _).mono ?_; rintro e wb ⟨rfl,rfl⟩)|(go_at_call 30; refine(A7.out _ A1.out).mono ?_; rintro e wd ⟨rfl,A0⟩; have A4:=aa (Below.more A1.out A0); clear A0))
        go_meet;exact⟨by rw[hq.out],A4⟩
   |false=>
    have hn:=aa (show np=(decide (lab=⟨#[]⟩) && decide (wh=0)) from I2.out);by_cases D9:lab=⟨#[]⟩
    ·by_cases C1:wh=0
     ·subst D9;subst C1;obtain rfl:np=true:=hn.out;clear hn;cases hr:Gen.right c with
      |false=>
       rw[hr] at HR hb;have hq:=aa (show bad=true from hb.out);clear hb  hr;go_wp2_with (first|(go_at_call 11; refine(HR.out _ (Below.refl _ _)).mono ?_; rintro e wa ⟨rfl,b3⟩; have A1:=aa b3; clear b3)|(go_at_call 29; refine(A8.out _).mono ?_; rintro e wb ⟨rfl,rfl⟩)|(go_at_call 30; refine(A7.out _ A1.out).mono ?_; rintro e wd ⟨rfl,A0⟩; have A4:=aa (Below.more A1.out A0); clear A0))
       go_meet;exact⟨by rw[hq.out],A1⟩
      |true=>
       rw[hr] at HR hb;clear hr;cases hD:(decide (0≤day) && decide (day≤73048)) with
       |false=>
        rw[hD] at A8 hb;have hq:=aa (show bad=true from hb.out);clear hb hD;go_wp2_with (first|(go_at_call 11; refine(HR.out _ (Below.refl _ _)).mono ?_; rintro e wa ⟨rfl,b3⟩; have A1:=aa b3; clear b3)|(go_at_call 29; refine(A8.out _).mono ?_; rintro e wb ⟨rfl,rfl⟩)|(go_at_call 30; refine(A7.out _ A1.out).mono ?_; rintro e wd ⟨rfl,A0⟩; have A4:=aa (Below.more A1.out A0); clear A0))
        go_meet;exact⟨by rw[hq.out],A1⟩
       |true=>
        rw[hD] at A8 hb;clear hD;cases hF2:Fd.right F with
        |false=>
         rw[hF2] at A7 hb;have hq:=aa (show bad=true from hb.out);clear hb hF2;go_wp2_with (first|(go_at_call 11; refine(HR.out _ (Below.refl _ _)).mono ?_; rintro e wa ⟨rfl,b3⟩; have A1:=aa b3; clear b3)|(go_at_call 29; refine(A8.out _).mono ?_; rintro e wb ⟨rfl,rfl⟩)|(go_at_call 30; refine(A7.out _ A1.out).mono ?_; rintro e wd ⟨rfl,A0⟩; have A4:=aa (Below.more A1.out A0); clear A0))
         go_meet;exact⟨by rw[hq.out],A4⟩
        |true=>
         rw[hF2] at A7 hb;clear hF2;by_cases A2:250<L.length
         ·have g1:decide (250<L.length)=true:=decide_eq_true A2;have g1i:decide ((250:Int)<(L.length:Int))=true:=decide_eq_true (by omega);rw[decide_eq_false (by omega:¬L.length≤250)] at hb;have hq:=aa (show bad=true from hb.out);clear hb A2;go_wp2_with (first|(go_at_call 11; refine(HR.out _ (Below.refl _ _)).mono ?_; rintro e wa ⟨rfl,b3⟩; have A1:=aa b3; clear b3)|(go_at_call 29; refine(A8.out _).mono ?_; rintro e wb ⟨rfl,rfl⟩)|(go_at_call 30; refine(A7.out _ A1.out).mono ?_; rintro e wd ⟨rfl,A0⟩; have A4:=aa (Below.more A1.out A0); clear A0))
          go_meet;exact⟨by rw[hq.out],A4⟩
         ·have g1:decide (250<L.length)=false:=decide_eq_false A2;have g1i:decide ((250:Int)<(L.length:Int))=false:=decide_eq_false (by omega);rw[decide_eq_true (by omega:L.length≤250)] at hb;have hq:=aa (show bad=false from hb.out);clear hb A2;go_wp2_with (first|(go_at_call 11; refine(HR.out _ (Below.refl _ _)).mono ?_; rintro e wa ⟨rfl,b3⟩; have A1:=aa b3; clear b3)|(go_at_call 29; refine(A8.out _).mono ?_; rintro e wb ⟨rfl,rfl⟩)|(go_at_call 30; refine(A7.out _ A1.out).mono ?_; rintro e wd ⟨rfl,A0⟩; have A4:=aa (Below.more A1.out A0); clear A0))
          go_meet;exact⟨by rw[hq.out],A4⟩
     ·have D7:np=false:=by rw[hn.out,decide_eq_false C1,Bool.and_false]
      subst D9;rw[D7] at hb;have hq:=aa (show bad=true from hb.out);have g1:(wh == 0)=false:=by rw[beq_eq_false_iff_ne]; exact C1
      clear hb hn D7 C1;go_wp2_with fail
      go_meet;exact⟨by rw[hq.out],Below.refl _ _⟩
    ·have D7:np=false:=by rw[hn.out,decide_eq_false D9,Bool.false_and]
     rw[D7] at hb;have hq:=aa (show bad=true from hb.out);have g1:lab.toList.isEmpty=false:=eh D9;clear hb hn D7 D9;go_wp2_with fail
     go_meet;exact⟨by rw[hq.out],Below.refl _ _⟩
  case rest=>
   obtain⟨rfl,F7⟩:=hcut;have C5:=aa (ag F7.out B3.out);have C0:=aa (ag F7.out B6.out);have F5:=aa (Below.more F6.out F7.out);clear s0 s1 d0 d1 d2 B3 B6 F6 F7;have C3:=aa (show Vm.step c L day F lab wh=if((pk || np) && (Gen.right c && ((decide (0≤day) && decide (day≤73048)) && (Fd.right F && (decide (L.length≤250) && !L.any (Vm.holdBad c))))))=true∧(Vm.all c (Vm.env F day) (Vm.entryOf c lab wh) L Vm.st0).over=false then some (Vm.all c (Vm.env F day) (Vm.entryOf c lab wh) L Vm.st0) else none by rw[G1.out,I2.out]; rfl);cases hbd:bad with
   |true=>
    have C4:=aa (show R=none by
     have h:=A6.out;rw[hbd] at h;have h2:((pk || np) && (Gen.right c && ((decide (0≤day) && decide (day≤73048)) && (Fd.right F && decide (L.length≤250)))))=false:=by
      have h3:true = !((pk || np) && (Gen.right c && ((decide (0≤day) && decide (day≤73048)) && (Fd.right F && decide (L.length≤250))))):=h;revert h3
      cases((pk || np) && (Gen.right c && ((decide (0≤day) && decide (day≤73048)) && (Fd.right F && decide (L.length≤250)))))<;>simp
     rw[hR.out,C3.out,if_neg];rintro⟨h4, -⟩;simp only[Bool.and_eq_true] at h4;rw[h4.1,h4.2.1,h4.2.2.1.1,h4.2.2.1.2,h4.2.2.2.1,h4.2.2.2.2.1] at h2;cases h2)
    clear hbd;go_wp2_with fail
    exact bodyPost_ret (et rfl _ _ _) rfl ⟨F5.out,by rw[C4.out]; rfl⟩
   |false=>
    have E1:=(show((pk || np) && (Gen.right c && ((decide (0≤day) && decide (day≤73048)) && (Fd.right F && decide (L.length≤250)))))=true from by
     have h:=A6.out;rw[hbd] at h;have h3:false = !((pk || np) && (Gen.right c && ((decide (0≤day) && decide (day≤73048)) && (Fd.right F && decide (L.length≤250))))):=h;revert h3
     cases((pk || np) && (Gen.right c && ((decide (0≤day) && decide (day≤73048)) && (Fd.right F && decide (L.length≤250)))))<;>simp)
    simp only[Bool.and_eq_true] at E1;obtain⟨I1,G6,⟨G5,G4⟩,G3,G2⟩:=E1;rw[I1,G6,G5,G4,G3,G2] at C3;have B4:=aa (And.intro G6 (And.intro (And.intro (of_decide_eq_true G5) (of_decide_eq_true G4)) (And.intro (Fd.right_ok G3) (of_decide_eq_true G2))));clear I1 G6 G5 G4 G3 G2 hbd;have d1:=ab C5.out 1 _ rfl;have E6:=aa (zdw c b5 wp wk (.slice lp L.length lc) L wc d1 (I9.out.below F5.out));cases hany:L.any (Vm.holdBad c) with
    |true=>
     rw[hany] at E6 C3;have C4:=aa (show R=none by rw[hR.out,C3.out,if_neg]; rintro⟨h4, -⟩; cases h4);clear hany d1;go_wp2_with (first|(go_at_call 34; refine E6.out.mono ?_; rintro e w5 ⟨rfl,A0⟩; have D0:=aa (Below.more F5.out A0); clear A0))
     exact bodyPost_ret (et rfl _ _ _) rfl ⟨D0.out,by rw[C4.out]; rfl⟩
    |false=>
     rw[hany] at E6 C3;have H6:=aa (show ∀(i:Nat) x,L[i]? = some x→Vm.holdBad c x=false from fun i x hx=>by
      have:=List.any_eq_false.1 hany x (List.mem_of_getElem? hx);revert this
      cases Vm.holdBad c x<;>simp)
     have C2:=aa (show R=if(Vm.all c (Vm.env F day) (Vm.entryOf c lab wh) L Vm.st0).over=false then some (Vm.all c (Vm.env F day) (Vm.entryOf c lab wh) L Vm.st0) else none by
      rw[hR.out,C3.out];by_cases h:(Vm.all c (Vm.env F day) (Vm.entryOf c lab wh) L Vm.st0).over=false
      ·rw[if_pos ⟨rfl,h⟩,if_pos h]
      ·rw[if_neg (fun hh=>h hh.2),if_neg h])
     clear hany d1 C3 hR;go_upto_region 6 with(first|(go_at_call 34; refine E6.out.mono ?_; rintro e w5 ⟨rfl,A0⟩; have D0:=aa A0; clear A0))
     have E8:=aa (Below.more F5.out D0.out);have H5:=aa (ag D0.out C5.out);have H9:=aa (ag D0.out C0.out);clear C5 C0 E6 D0;have d0:=ab H5.out 0 _ rfl;have d1:=ab H5.out 1 _ rfl;have d2:=ab H5.out 2 _ rfl;have H3:=aa (Mach.start w5 c day (.slice wp c.waits.length wk) (.slice ip c.ins.length ic) (.slice fp F.length fc));have E5:Hid (RunEnv w5 w5.heap.size c F day (.slice wp c.waits.length wk) (.slice ip c.ins.length ic) (.slice fp F.length fc)):=aa ⟨J3.out.below E8.out,J1.out.below E8.out,B4.out.1,B4.out.2.2.1,B4.out.2.1,Nat.le_refl _⟩;have L6:=aa (I9.out.below E8.out);have F3:=aa (show w.heap.size≤w5.heap.size from E8.out.size);go_upto_region 7 with(fail)
     clear d0 d1 d2;obtain⟨mb,F0⟩:∃ mb,mb=w5.heap.size:=⟨_,rfl⟩
     rw[←F0] at H3 E5 F3 ⊢;have L3:b5<mb:=by rw[F0]; exact af H5.out
     have L2:b5+1<mb:=by rw[F0]; exact af H9.out
     have L5:=aa (show w5.heap.size≤mb by omega);clear F0;generalize w5.alloc _=w6 at *;go_wp2_with fail
     have J5:=aa (show Vm.all c (Vm.env F day) (Vm.entryOf c lab wh) (L.take 0) Vm.st0=Vm.st0 from rfl);have J0:=aa (show Vm.StOk Vm.st0∧Vm.st0.steps≤82000+0 from⟨Vm.st0_ok,Nat.zero_le _⟩);go_loopw [70] (fun iv wr=>∃(i:Nat) (st:Vm.St) (vh vo:Value),iv=.int .i64 (i:Int)∧i≤L.length∧Hid (Vm.all c (Vm.env F day) (Vm.entryOf c lab wh) (L.take i) Vm.st0=st)∧Hid (Vm.StOk st∧st.steps≤82000+i)∧Hid (Mach w5 mb c day (.slice wp c.waits.length wk) (.slice ip c.ins.length ic) (.slice fp F.length fc) st vh vo wr)) (fun iv _=>L.length - (intOf iv).toNat)
     case atStart=>exact⟨0,Vm.st0,_,_,rfl,Nat.zero_le _,J5,J0,H3⟩
     case round=>
      clear J5 J0 H3;obtain⟨i,st,vh,vo,rfl,hi,HA,HK,HM⟩:=hrel;by_cases F1:i<L.length
      ·obtain⟨x,hx⟩:∃ x,L[i]? = some x:=⟨_,List.getElem?_eq_getElem F1⟩
       obtain⟨lp',lc',elp, -,I4⟩:=L6.out;obtain⟨rfl,rfl⟩:lp=lp'∧lc=lc':=by simpa using elp
       obtain⟨lb,lo,rfl,G7,⟨y0,y1⟩, -, -⟩:=I4 i x hx;have A6:=H6.out i x hx;have E0:=Vm.entry_lt B4.out.1 A6 (lab:=lab) (wh:=wh);have C1:0≤x.1∧x.1<c.waits.length:=by
        unfold Vm.holdBad at A6;simp only[Bool.or_eq_false_iff,decide_eq_false_iff_not] at A6;omega
       obtain⟨y,hy⟩:∃ y,c.waits[x.1.toNat]? = some y:=⟨_,List.getElem?_eq_getElem (by omega)⟩
       have H7:Vm.waitAt c x.1=y:=by unfold Vm.waitAt; rw[hy]; rfl
       obtain⟨wp',wk',ewp, -,I0⟩:=(show WaitsAt w5 (.slice wp c.waits.length wk) c.waits from by
        obtain⟨vw',vi',e,h1,_,_⟩:=E5.out.cd;simp only[Value.agg.injEq,Array.mk.injEq,List.cons.injEq,and_true,true_and] at e;obtain⟨rfl,rfl⟩:=e;exact h1)
       obtain⟨rfl,rfl⟩:wp=wp'∧wk=wk':=by simpa using ewp
       obtain⟨wb,wo,rfl,C7,⟨e0,e1,e2,e3,e4⟩, -⟩:=I0 _ y hy;have I3:w5.heap.size≤mb:=L5.out;have B8:=aa (fun (b k:Nat) (v:Value) (hb:b<w5.heap.size) (hc:w5.cell? ⟨b,k,none⟩=some v)=>(show wr.cell? ⟨b,k,none⟩=some v from(HM.out.bel.cell (p:=⟨b,k,none⟩) (Nat.lt_of_lt_of_le hb I3)).trans hc));replace y0:=B8.out _ _ _ G7 y0;replace y1:=B8.out _ _ _ G7 y1;have J9:=aa ((HM.out.bel.block b5 L3).trans H5.out);have J7:=aa ((HM.out.bel.block (b5+1) L2).trans H9.out);have j1:(0:Int)≤(i:Int):=by omega
       have j2:(i:Int)<(L.length:Int):=by omega
       have HX:=aa hx;have HI:=aa F1;have B9:=aa (And.intro E0 C1);have C9:=aa (And.intro (B8.out _ _ _ C7 e0) (And.intro (B8.out _ _ _ C7 e1) (And.intro (B8.out _ _ _ C7 e2) (And.intro (B8.out _ _ _ C7 e3) (B8.out _ _ _ C7 e4)))));have L4:=aa H7;clear hx F1 I4 elp A6 E0 C1 hy H7 ewp I0 e0 e1 e2 e3 e4 C7 G7 B8 I3;go_upto_region 10 with(fail)
       have BX:=(Below.refl wr.heap.size wr).alloc (Nat.le_refl _) (.cells #[.int .i64 x.1,.int .i64 x.2] 52);have I7:=aa (HM.out.below BX);have G9:=aa (heap_alloc_new wr (.cells #[.int .i64 x.1,.int .i64 x.2] 52));have J8:=aa (ag BX J9.out);have J6:=aa (ag BX J7.out);have J2:=aa (And.intro (ax BX _ _ C9.out.1) (And.intro (ax BX _ _ C9.out.2.1) (And.intro (ax BX _ _ C9.out.2.2.1) (And.intro (ax BX _ _ C9.out.2.2.2.1) (ax BX _ _ C9.out.2.2.2.2)))));clear y0 y1 HM J9 J7 C9 BX;generalize wr.alloc (.cells #[.int .i64 x.1,.int .i64 x.2] 52)=w7 at *;generalize wr.heap.size=xb at *;have z0:=ab G9.out 0 _ rfl;have c1:=ab J8.out 1 _ rfl;obtain⟨e0,e1,e2,e3,e4⟩:=J2.out;obtain⟨k1,k2⟩:=B9.out.2;go_upto_region 11 with(fail)
       have BX:=(Below.refl w7.heap.size w7).alloc (Nat.le_refl _) (.cells #[.int .i64 y.entry,.int .i64 y.day,.string y.label,.int .i64 y.first,.int .i64 y.second] 76);have I8:=aa (I7.out.below BX);have C8:=aa (heap_alloc_new w7 (.cells #[.int .i64 y.entry,.int .i64 y.day,.string y.label,.int .i64 y.first,.int .i64 y.second] 76));have I6:=aa (ag BX G9.out);have F9:=aa (ag BX J6.out);clear z0 c1 e0 e1 e2 e3 e4 k1 k2 I7 G9 J8 J6 J2 BX j1 j2;generalize w7.alloc (.cells #[.int .i64 y.entry,.int .i64 y.day,.string y.label,.int .i64 y.first,.int .i64 y.second] 76)=w8 at *;generalize w7.heap.size=yb at *;have z0:=ab C8.out 0 _ rfl;have z2:=ab C8.out 2 _ rfl;have z3:=ab C8.out 3 _ rfl;have z4:=ab C8.out 4 _ rfl;have s0:=ab F9.out 0 _ rfl;have s1:=ab F9.out 1 _ rfl;obtain⟨en,G8⟩:∃ en:Nat,(en:Int)=Vm.entryOf c lab wh x.1:=⟨(Vm.entryOf c lab wh x.1).toNat,by have:=B9.out.1; omega⟩
       have B5:Hid ((en:Int)=if Vm.picksB lab wh=true∧y.label=lab then(if wh=1 then y.first else y.second) else y.entry):=aa (by rw[G8,←L4.out]; rfl);have A3:=aa G8;clear G8;go_upto_region 12 with(fail)
       obtain⟨sel,D5⟩:∃ sel,decide (Vm.picksB lab wh=true∧y.label=lab)=sel:=⟨_,rfl⟩
       have B1:=aa D5;clear D5;go_cut [89] (fun v wx=>v=.bool sel∧Hid (Below w8.heap.size w8 wx));case first=>
        have D6:=aa (G1.out.symm);cases pk with
        |false=>
         have hq:=aa (show sel=false by rw[←B1.out]; apply decide_eq_false; rintro⟨h, -⟩; rw[D6.out] at h; cases h);clear B5;go_wp2_with fail
         go_meet;exact⟨by rw[hq.out],Below.refl _ _⟩
        |true=>
         by_cases C6:y.label=lab
         ·have hq:=aa (show sel=true by rw[←B1.out]; exact decide_eq_true ⟨D6.out,C6⟩);rw[C6] at z2;have L9:(lab.toList == lab.toList)=true:=beq_self_eq_true _;clear B5 C6;go_wp2_with fail
          go_meet;exact⟨by rw[hq.out],Below.refl _ _⟩
         ·have gl:(y.label.toList == lab.toList)=false:=by
           rw[beq_eq_false_iff_ne];intro e2;apply C6;apply zcc;rw[ByteArray.toList_eq,ByteArray.toList_eq] at e2;exact e2
          have hq:=aa (show sel=false by rw[←B1.out]; exact decide_eq_false (fun h=>C6 h.2));clear B5 C6;go_wp2_with fail
          go_meet;exact⟨by rw[hq.out],Below.refl _ _⟩
       case rest=>
        obtain⟨rfl,E7⟩:=hcut;have E4:=aa (I8.out.below E7.out);have E2:=aa (ag E7.out I6.out);have F2:=aa (ag E7.out C8.out);have H1:=aa (ag E7.out F9.out);clear z0 z2 z3 z4 s0 s1 C8 I6 F9 I8 E7;cases sel with
        |false=>
         have hq:=aa (show(en:Int)=y.entry by rw[B5.out,if_neg (of_decide_eq_false B1.out)]);have z1:=ab E2.out 1 _ rfl;have HR:=aa (Vm.run_ok2 c (Vm.env F day) B4.out.1 (a:=en) (by have:=B9.out.1; have:=A3.out; omega) x.2 HK.out.1 HK.out.2 (by have:=B4.out.2.2.2; have:=HI.out; omega));have E9:=aa (show Vm.all c (Vm.env F day) (Vm.entryOf c lab wh) (L.take (i+1)) Vm.st0=Vm.run c (Vm.env F day) (en:Int) x.2 Vm.zeros st by rw[Vm.all_take _ _ _ _ _ _ HX.out,HA.out,A3.out]);have HC:=aa (zck w5 mb c F day _ _ _ E5.out _ en x.2 st vh vo wc (Nat.le_refl _) (by have:=B9.out.1; have:=A3.out; omega) HK.out.1 E4.out);generalize Vm.run c (Vm.env F day) (en:Int) x.2 Vm.zeros st=st2 at *;have wi:IntKind.i64.wrap ((i:Int)+1)=(i:Int)+1:=IntWalk.i64_in _ (by have:=HI.out; omega);rw[hq.out] at HC;clear B5;go_wp2_with (first|(go_at_call 31; refine HC.out.mono ?_; rintro e wn ⟨⟨re,rfl⟩,⟨D2,D1,B7⟩,A9⟩; have B2:=aa B7; clear B7 A9))
         go_roundw;case rel=>exact⟨i+1,st2,D2,D1,by go_num,by have:=HI.out; omega,E9,HR,B2⟩
         case measure=>have:=HI.out; simp[intOf]; omega
        |true=>
         have A5:=of_decide_eq_true B1.out;have z3:=ab F2.out 3 _ rfl;have z4:=ab F2.out 4 _ rfl;have s1:=ab H1.out 1 _ rfl;by_cases D3:wh=1
         ·have hq:=aa (show(en:Int)=y.first by rw[B5.out,if_pos A5,if_pos D3]);subst D3;clear A5;have G0:=fj s1 (.cells #[.int .i64 y.first,.int .i64 y.second] 3);have BA:=(Below.refl wc.heap.size wc).alloc (Nat.le_refl _) (.cells #[.int .i64 y.first,.int .i64 y.second] 3);have H2:=aa (E4.out.below BA);have H0:=aa (ag BA E2.out);clear BA;go_upto_region 14 with(fail)
          clear z3 z4 s1 G0 E4 E2 F2 H1;generalize wc.alloc (.cells #[.int .i64 y.first,.int .i64 y.second] 3)=wq at *;have z1:=ab H0.out 1 _ rfl;have HR:=aa (Vm.run_ok2 c (Vm.env F day) B4.out.1 (a:=en) (by have:=B9.out.1; have:=A3.out; omega) x.2 HK.out.1 HK.out.2 (by have:=B4.out.2.2.2; have:=HI.out; omega));have E9:=aa (show Vm.all c (Vm.env F day) (Vm.entryOf c lab 1) (L.take (i+1)) Vm.st0=Vm.run c (Vm.env F day) (en:Int) x.2 Vm.zeros st by rw[Vm.all_take _ _ _ _ _ _ HX.out,HA.out,A3.out]);have HC:=aa (zck w5 mb c F day _ _ _ E5.out _ en x.2 st vh vo wq (Nat.le_refl _) (by have:=B9.out.1; have:=A3.out; omega) HK.out.1 H2.out);generalize Vm.run c (Vm.env F day) (en:Int) x.2 Vm.zeros st=st2 at *;have wi:IntKind.i64.wrap ((i:Int)+1)=(i:Int)+1:=IntWalk.i64_in _ (by have:=HI.out; omega);rw[hq.out] at HC;clear B5;go_wp2_with (first|(go_at_call 31; refine HC.out.mono ?_; rintro e wn ⟨⟨re,rfl⟩,⟨D2,D1,B7⟩,A9⟩; have B2:=aa B7; clear B7 A9))
          go_roundw;case rel=>exact⟨i+1,st2,D2,D1,by go_num,by have:=HI.out; omega,E9,HR,B2⟩
          case measure=>have:=HI.out; simp[intOf]; omega
         ·have hq:=aa (show(en:Int)=y.second by rw[B5.out,if_pos A5,if_neg D3]);obtain rfl:wh=2:=by
           have h:=A5.1;unfold Vm.picksB at h;simp only[Bool.and_eq_true,Bool.or_eq_true,decide_eq_true_eq] at h;exact h.2.resolve_left D3
          clear A5 D3;have G0:=fj s1 (.cells #[.int .i64 y.first,.int .i64 y.second] 3);have BA:=(Below.refl wc.heap.size wc).alloc (Nat.le_refl _) (.cells #[.int .i64 y.first,.int .i64 y.second] 3);have H2:=aa (E4.out.below BA);have H0:=aa (ag BA E2.out);clear BA;go_upto_region 14 with(fail)
          clear z3 z4 s1 G0 E4 E2 F2 H1;generalize wc.alloc (.cells #[.int .i64 y.first,.int .i64 y.second] 3)=wq at *;have z1:=ab H0.out 1 _ rfl;have HR:=aa (Vm.run_ok2 c (Vm.env F day) B4.out.1 (a:=en) (by have:=B9.out.1; have:=A3.out; omega) x.2 HK.out.1 HK.out.2 (by have:=B4.out.2.2.2; have:=HI.out; omega));have E9:=aa (show Vm.all c (Vm.env F day) (Vm.entryOf c lab 2) (L.take (i+1)) Vm.st0=Vm.run c (Vm.env F day) (en:Int) x.2 Vm.zeros st by rw[Vm.all_take _ _ _ _ _ _ HX.out,HA.out,A3.out]);have HC:=aa (zck w5 mb c F day _ _ _ E5.out _ en x.2 st vh vo wq (Nat.le_refl _) (by have:=B9.out.1; have:=A3.out; omega) HK.out.1 H2.out);generalize Vm.run c (Vm.env F day) (en:Int) x.2 Vm.zeros st=st2 at *;have wi:IntKind.i64.wrap ((i:Int)+1)=(i:Int)+1:=IntWalk.i64_in _ (by have:=HI.out; omega);rw[hq.out] at HC;clear B5;go_wp2_with (first|(go_at_call 31; refine HC.out.mono ?_; rintro e wn ⟨⟨re,rfl⟩,⟨D2,D1,B7⟩,A9⟩; have B2:=aa B7; clear B7 A9))
          go_roundw;case rel=>exact⟨i+1,st2,D2,D1,by go_num,by have:=HI.out; omega,E9,HR,B2⟩
          case measure=>have:=HI.out; simp[intOf]; omega
      ·obtain rfl:i=L.length:=by omega
       have hA:=HA.out;rw[List.take_length] at hA;rw[hA] at C2;have HT:=aa (zik w5 mb c day _ _ _ st vh vo wr HM.out);have j3:decide (L.length<L.length)=false:=by simp
       have F4:=aa (show Below w.heap.size w wr from E8.out.trans (HM.out.bel.mono F3.out));have E3:=aa C2.out;clear F1 hA C2;cases hov:st.over with
       |true=>
        have C4:=aa (show R=none by rw[E3.out,hov]; rfl);have D4:te st vh vo=oq:=by unfold te; rw[hov]; rfl
        rw[D4,oq] at HT;clear hov D4;go_wp2_with (first|(go_at_call 32; refine HT.out.mono ?_; rintro e wt ⟨rfl,bt⟩))
        exact bodyPost_ret (et rfl _ _ _) rfl ⟨Below.trans F4.out (bt.mono F4.out.size),by rw[C4.out]; rfl⟩
       |false=>
        have C4:=aa (show R=some st by rw[E3.out,if_pos hov]);have D4:te st vh vo=.tuple #[vh,vo,.int .i64 (st.steps:Int),.int .i64 0]:=by unfold te; rw[hov]; rfl
        rw[D4] at HT;clear hov D4;go_wp2_with (first|(go_at_call 32; refine HT.out.mono ?_; rintro e wt ⟨rfl,bt⟩))
        refine bodyPost_ret (et rfl _ _ _) rfl ⟨Below.trans F4.out (bt.mono F4.out.size),?_⟩;rw[C4.out];exact⟨HK.out.1,vh,vo,rfl,World.ownsRow.mono (HM.out.below bt).hs (Nat.le_trans F3.out (Nat.le_succ _)),World.ownsRow.mono (HM.out.below bt).ts (Nat.le_trans F3.out (Nat.le_succ _))⟩
end
section
open Go.RowKit
open Gen
open Rw
set_option maxRecDepth 100000
namespace Vm
noncomputable def beginOk (c:Cd)(day:Int)(F:List Fd.Feed):Bool:=right c && ((decide (0≤day) && decide (day≤73048)) && Fd.right F)
noncomputable def begin' (c:Cd)(day:Int)(F:List Fd.Feed):Option St:=
 if beginOk c day F=true∧(run c (env F day) 0 1000000 zeros st0).over=false then some (run c (env F day) 0 1000000 zeros st0) else none
end Vm
set_option maxHeartbeats 8000000 in
theorem zcb (c:Gen.Cd)(day:Int)(F:List Fd.Feed)(vw vi vf:Value)(w:World)(hc:CdAt w (.agg #[.int .i64 c.regs,vw,vi]) c)(hF:FeedsAt w vf F):
  Calls Tryz.prog 13 #[.agg #[.int .i64 c.regs,vw,vi],.int .i64 day,vf] w (zkh (Vm.begin' c day F) day w):=by
 have C8:=aa hc;have C6:=aa hF;obtain⟨wp,wk,rfl⟩:∃ wp wk,vw=.slice wp c.waits.length wk:=by
  obtain⟨vw',vi',e,⟨p,cc,e2,h2,_⟩,_⟩:=hc;simp only[Value.agg.injEq,Array.mk.injEq,List.cons.injEq,and_true,true_and] at e;obtain⟨rfl,rfl⟩:=e;exact⟨p,cc,e2⟩
 obtain⟨ip,ic,rfl⟩:∃ ip ic,vi=.slice ip c.ins.length ic:=by
  obtain⟨vw',vi',e,_,⟨p,cc,e2,_,_⟩,_⟩:=hc;simp only[Value.agg.injEq,Array.mk.injEq,List.cons.injEq,and_true,true_and] at e;obtain⟨rfl,rfl⟩:=e;exact⟨p,cc,e2⟩
 obtain⟨fp,fc,rfl, -, -⟩:=hF;obtain⟨R,hR⟩:∃ R,Hid (R=Vm.begin' c day F):=⟨_,rfl⟩
 rw[←hR.out];clear hc;have B8:=aa ((Below.refl w.heap.size w).alloc (Nat.le_refl _) (.cells #[.int .i64 c.regs,.slice wp c.waits.length wk,.slice ip c.ins.length ic] 29));have A7:=aa (heap_alloc_new w (.cells #[.int .i64 c.regs,.slice wp c.waits.length wk,.slice ip c.ins.length ic] 29));go_enter Tryz.func13,Tryz.ntmps13;go_upto_region 1 with(fail)
 obtain⟨b5,A3⟩:∃ b5,b5=w.heap.size:=⟨_,rfl⟩
 rw[←A3] at A7 ⊢;clear A3;generalize w.alloc (.cells #[.int .i64 c.regs,.slice wp c.waits.length wk,.slice ip c.ins.length ic] 29)=w3 at *;have d0:=ab A7.out 0 _ rfl;have d1:=ab A7.out 1 _ rfl;have d2:=ab A7.out 2 _ rfl;obtain⟨bad,A4⟩:∃ bad,Hid (bad = !Vm.beginOk c day F):=⟨_,rfl⟩
 go_cut [23] (fun v wx=>v=.bool bad∧Hid (Below w3.heap.size w3 wx));case first=>
  have HR:=aa (fun (W:World) (b:Below w3.heap.size w3 W)=>uy (.agg #[.int .i64 c.regs,.slice wp c.waits.length wk,.slice ip c.ins.length ic]) c W ((C8.out.below B8.out).below b));have A5:=aa (fun (W:World) (b:Below w3.heap.size w3 W)=>xz (.slice fp F.length fc) F W ((C6.out.below B8.out).below b));have A6:=aa (fun W=>nw day W);have hb:=aa (show bad = !(Gen.right c && ((decide (0≤day) && decide (day≤73048)) && Fd.right F)) from A4.out);cases hr:Gen.right c with
  |false=>
   rw[hr] at HR hb;have hq:=aa (show bad=true from hb.out);clear hb  hr;go_wp2_with (first|(go_at_call 11; refine(HR.out _ (Below.refl _ _)).mono ?_; rintro e wa ⟨rfl,b3⟩; have A0:=aa b3; clear b3)|(go_at_call 29; refine(A6.out _).mono ?_; rintro e wb ⟨rfl,rfl⟩)|(go_at_call 30; refine(A5.out _ A0.out).mono ?_; rintro e wd ⟨rfl,A1⟩; have A3:=aa (Below.more A0.out A1); clear A1))
   go_meet;exact⟨by rw[hq.out],A0⟩
  |true=>
   rw[hr] at HR hb;clear hr;cases hD:(decide (0≤day) && decide (day≤73048)) with
   |false=>
    rw[hD] at A6 hb;have hq:=aa (show bad=true from hb.out);clear hb hD;go_wp2_with (first|(go_at_call 11; refine(HR.out _ (Below.refl _ _)).mono ?_; rintro e wa ⟨rfl,b3⟩; have A0:=aa b3; clear b3)|(go_at_call 29; refine(A6.out _).mono ?_; rintro e wb ⟨rfl,rfl⟩)|(go_at_call 30; refine(A5.out _ A0.out).mono ?_; rintro e wd ⟨rfl,A1⟩; have A3:=aa (Below.more A0.out A1); clear A1))
    go_meet;exact⟨by rw[hq.out],A0⟩
   |true=>
    rw[hD] at A6 hb;clear hD;cases hF2:Fd.right F with
    |false=>
     rw[hF2] at A5 hb;have hq:=aa (show bad=true from hb.out);clear hb hF2;go_wp2_with (first|(go_at_call 11; refine(HR.out _ (Below.refl _ _)).mono ?_; rintro e wa ⟨rfl,b3⟩; have A0:=aa b3; clear b3)|(go_at_call 29; refine(A6.out _).mono ?_; rintro e wb ⟨rfl,rfl⟩)|(go_at_call 30; refine(A5.out _ A0.out).mono ?_; rintro e wd ⟨rfl,A1⟩; have A3:=aa (Below.more A0.out A1); clear A1))
     go_meet;exact⟨by rw[hq.out],A3⟩
    |true=>
     rw[hF2] at A5 hb;clear hF2;have hq:=aa (show bad=false from hb.out);clear hb;go_wp2_with (first|(go_at_call 11; refine(HR.out _ (Below.refl _ _)).mono ?_; rintro e wa ⟨rfl,b3⟩; have A0:=aa b3; clear b3)|(go_at_call 29; refine(A6.out _).mono ?_; rintro e wb ⟨rfl,rfl⟩)|(go_at_call 30; refine(A5.out _ A0.out).mono ?_; rintro e wd ⟨rfl,A1⟩; have A3:=aa (Below.more A0.out A1); clear A1))
     go_meet;exact⟨by rw[hq.out],A3⟩
 case rest=>
  obtain⟨rfl,B7⟩:=hcut;have H5:=aa (ag B7.out A7.out);have B2:=aa (Below.more B8.out B7.out);clear d0 d1 d2 A7 B7;cases hbd:bad with
  |true=>
   have B0:=aa (show R=none by
    have h:=A4.out;rw[hbd] at h;have h2:Vm.beginOk c day F=false:=by
     revert h
     cases Vm.beginOk c day F<;>simp
    rw[hR.out,Vm.begin',h2,if_neg];rintro⟨h4, -⟩;cases h4)
   clear hbd;go_wp2_with fail
   exact bodyPost_ret (et rfl _ _ _) rfl ⟨B2.out,by rw[B0.out]; rfl⟩
  |false=>
   have A2:Vm.beginOk c day F=true:=by
    have h:=A4.out;rw[hbd] at h;revert h
    cases Vm.beginOk c day F<;>simp
   have A9:=aa (show R=if(Vm.run c (Vm.env F day) 0 1000000 Vm.zeros Vm.st0).over=false then some (Vm.run c (Vm.env F day) 0 1000000 Vm.zeros Vm.st0) else none by
    rw[hR.out,Vm.begin',A2];by_cases h:(Vm.run c (Vm.env F day) 0 1000000 Vm.zeros Vm.st0).over=false
    ·rw[if_pos ⟨rfl,h⟩,if_pos h]
    ·rw[if_neg (fun hh=>h hh.2),if_neg h])
   unfold Vm.beginOk at A2;simp only[Bool.and_eq_true] at A2;obtain⟨C2,⟨C1,C0⟩,B9⟩:=A2;have B1:=aa (And.intro C2 (And.intro (And.intro (of_decide_eq_true C1) (of_decide_eq_true C0)) (Fd.right_ok B9)));clear C2 C1 C0 B9 hbd hR;have d0:=ab H5.out 0 _ rfl;have d1:=ab H5.out 1 _ rfl;have d2:=ab H5.out 2 _ rfl;have C5:=aa (Mach.start wc c day (.slice wp c.waits.length wk) (.slice ip c.ins.length ic) (.slice fp F.length fc));have C7:Hid (RunEnv wc wc.heap.size c F day (.slice wp c.waits.length wk) (.slice ip c.ins.length ic) (.slice fp F.length fc)):=aa ⟨C8.out.below B2.out,C6.out.below B2.out,B1.out.1,B1.out.2.2,B1.out.2.1,Nat.le_refl _⟩;have B3:=aa (show w.heap.size≤wc.heap.size from B2.out.size);go_upto_region 4 with(fail)
   clear d0 d1 d2;obtain⟨mb,C3⟩:∃ mb,mb=wc.heap.size:=⟨_,rfl⟩
   rw[←C3] at C5 C7 B3 ⊢;clear C3;generalize wc.alloc _=w6 at *;have B5:=(du B1.out.1).2.2.1;have HR:=aa (Vm.run_ok2 c (Vm.env F day) B1.out.1 (a:=0) (i:=0) (by omega) 1000000 Vm.st0_ok (Nat.zero_le _) (by omega));have HC:=aa (zck wc mb c F day _ _ _ C7.out _ 0 1000000 Vm.st0 _ _ w6 (Nat.le_refl _) (by omega) Vm.st0_ok C5.out);rw[show((0:Nat):Int)=0 from rfl] at HC HR;generalize Vm.run c (Vm.env F day) 0 1000000 Vm.zeros Vm.st0=st at *;clear B5;go_upto_region 5 with(go_at_call 31; refine HC.out.mono ?_; rintro e wr ⟨⟨re,rfl⟩,⟨vh,vo,C4⟩,B6⟩; have HM:=aa C4; clear C4 B6)
   have HT:=aa (zik wc mb c day _ _ _ st vh vo wr HM.out);have B4:=aa (show Below w.heap.size w wr from B2.out.trans (HM.out.bel.mono B3.out));cases hov:st.over with
   |true=>
    have B0:=aa (show R=none by rw[A9.out,hov]; rfl);have A8:te st vh vo=oq:=by unfold te; rw[hov]; rfl
    rw[A8,oq] at HT;clear hov A8;go_wp2_with (first|(go_at_call 32; refine HT.out.mono ?_; rintro e wt ⟨rfl,bt⟩))
    exact bodyPost_ret (et rfl _ _ _) rfl ⟨Below.trans B4.out (bt.mono B4.out.size),by rw[B0.out]; rfl⟩
   |false=>
    have B0:=aa (show R=some st by rw[A9.out,if_pos hov]);have A8:te st vh vo=.tuple #[vh,vo,.int .i64 (st.steps:Int),.int .i64 0]:=by unfold te; rw[hov]; rfl
    rw[A8] at HT;clear hov A8;go_wp2_with (first|(go_at_call 32; refine HT.out.mono ?_; rintro e wt ⟨rfl,bt⟩))
    refine bodyPost_ret (et rfl _ _ _) rfl ⟨Below.trans B4.out (bt.mono B4.out.size),?_⟩;rw[B0.out];exact⟨HR.out.1,vh,vo,rfl,World.ownsRow.mono (HM.out.below bt).hs (Nat.le_trans B3.out (Nat.le_succ _)),World.ownsRow.mono (HM.out.below bt).ts (Nat.le_trans B3.out (Nat.le_succ _))⟩
theorem zsy (d n:Int)(s:ByteArray)(w:World):(binOp .neq 59 (.agg #[.int .i64 d,.string s,.int .i64 n]) (.agg #[.int .i64 d,.string s,.int .i64 n])).run Tryz.prog w=.ok (.bool false) w:=by
 have u1:=Tryz.underlying3;have u2:=Tryz.underlying2;have u3:=Tryz.underlying9;have a1:=Tryz.isAgg3;have a2:=Tryz.isAgg2;have a3:=Tryz.isAgg9;have z1:=Tryz.sizeOf3;have z2:=Tryz.sizeOf2;have z3:=Tryz.sizeOf9;have hS:Tryz.prog.underlying 59=some (.struct (Tryz.prog.fieldsOf 59)):=by kernel_rfl
 have hp:Tryz.prog.stoodInHeld 59=false:=by kernel_rfl
 rw[run_neq_struct,show(10000:Nat)=9999+1 from rfl,run_equalIn_agg w 9999 59 _ _ hS hp];simp only[Program.fieldsOf,Tryz.underlying59];go_simp
theorem zna (x y:Operand)(d n:Int)(s:ByteArray)(w:World):(eqGuard .neq 59 x y (.agg #[.int .i64 d,.string s,.int .i64 n]) (.agg #[.int .i64 d,.string s,.int .i64 n])).run Tryz.prog w=.ok () w:=
 run_eqGuard_agg w .neq 59 x y _ _ (by kernel_rfl)
def TransSeen (W:World)(v:Value)(day:Int)(l:List (ByteArray × Int)):Prop:=∃ p c,v=.slice p l.length c∧l.length≤1000000∧∀(i:Nat) (x:ByteArray × Int),l[i]? = some x→∃ b off,p=some ⟨b,off,none⟩∧b<W.heap.size∧W.cell? ⟨b,off+i * 3,none⟩=some (.int .i64 day)∧W.cell? ⟨b,off+i * 3+1,none⟩=some (.string x.1)∧W.cell? ⟨b,off+i * 3+2,none⟩=some (.int .i64 x.2)
theorem zgp {base:Nat}{W:World}{e:TypeId}{z:Nat}{v:Value}{α:Type}{f:α→List Value}(hf:∀ x,(f x).length=z){L:List α}(h:W.ownsRow base e z v L.length (L.flatMap f)):
  ∃ p c,v=.slice p L.length c∧∀(i:Nat) x,L[i]? = some x→∃ g,p=some ⟨g,0,none⟩∧g<W.heap.size∧∀(j:Nat) u,j<z→(f x)[j]? = some u→W.cell? ⟨g,0+i * z+j,none⟩=some u:=by
 obtain⟨h0,⟨rfl,hz⟩|⟨g,cap,cur,rfl,h2,h3,h4,h5,h6,h7⟩⟩:=h
 ·exact⟨none,0,by rw[hz],fun i x hi=>by have:=(List.getElem?_eq_some_iff.1 hi).1; omega⟩
 ·refine⟨_,cap,rfl,fun i x hi=>⟨g,rfl,af h3,fun j u hj hu=>?_⟩⟩
  have:=zwt h7 ((cells_at f z hf L i x j hi hj).trans hu);rw[Nat.zero_add];simp only[World.cell?,h3];rw[Array.getElem?_toList] at this;simpa using this
theorem TranRow.seen {base:Nat}{W:World}{v:Value}{day:Int}{L:List (ByteArray × Int)}(h:TranRow base W v day L)(hl:L.length≤1000000):TransSeen W v day L:=by
 obtain⟨p,c,e,hc⟩:=zgp (f:=zch day) (fun _=>rfl) h;refine⟨p,c,e,hl,fun i x hi=>?_⟩;obtain⟨g,rfl,hg,hj⟩:=hc i x hi;exact⟨g,0,rfl,hg,hj 0 _ (by omega) rfl,hj 1 _ (by omega) rfl,hj 2 _ (by omega) rfl⟩
theorem TransSeen.below {W W':World}{v:Value}{day:Int}{l:List (ByteArray × Int)}(h:TransSeen W v day l)(B:Below W.heap.size W W'):TransSeen W' v day l:=by
 obtain⟨p,c,e,hl,h⟩:=h;refine⟨p,c,e,hl,fun i x hx=>?_⟩;obtain⟨b,off,e,hb,h1,h2,h3⟩:=h i x hx;exact⟨b,off,e,Nat.lt_of_lt_of_le hb B.size,dg B hb h1,dg B hb h2,dg B hb h3⟩
set_option maxHeartbeats 4000000 in
theorem pc (va vb:Value)(day:Int)(l:List (ByteArray × Int))(w:World)(ha:TransSeen w va day l)(hb:TransSeen w vb day l):Calls Tryz.prog 14 #[va,vb] w (zon w):=by
 obtain⟨pa,ca,rfl,hl,HA⟩:=ha;obtain⟨pb,cb,rfl,_,HB⟩:=hb;have A2:=aa HA;have A1:=aa HB;clear HA HB;have A4:(l.length:Int)≤1000000:=by omega
 clear hl;go_enter Tryz.func14,Tryz.ntmps14;go_wp2_with fail
 go_loopw [5] (fun iv wr=>∃ i:Nat,iv=.int .i64 (i:Int)∧i≤l.length∧Hid (Below w.heap.size w wr)) (fun iv _=>l.length - (intOf iv).toNat)
 case atStart=>exact⟨0,rfl,Nat.zero_le _,Below.refl _ _⟩
 case round=>
  obtain⟨i,rfl,hi,HW⟩:=hrel;by_cases A0:i<l.length
  ·obtain⟨x,hx⟩:∃ x,l[i]? = some x:=⟨_,List.getElem?_eq_getElem A0⟩
   obtain⟨b1,o1,rfl,_,x1,x2,x3⟩:=A2.out i x hx;obtain⟨b2,o2,rfl,_,y1,y2,y3⟩:=A1.out i x hx;replace x1:=ax HW.out _ _ x1;replace x2:=ax HW.out _ _ x2;replace x3:=ax HW.out _ _ x3;replace y1:=ax HW.out _ _ y1;replace y2:=ax HW.out _ _ y2;replace y3:=ax HW.out _ _ y3;have j1:(0:Int)≤(i:Int):=by omega
   have j2:(i:Int)<(l.length:Int):=by omega
   have A3:=zsy day x.2 x.1;have A5:=fun a b=>zna a b day x.2 x.1;clear hx;go_wp2_with fail
   go_quiet (fail)
   go_wp2_with fail
   go_roundw;case rel=>exact⟨i+1,by go_num,by omega,aa (Below.drewn HW.out _)⟩
   case measure=>simp[intOf]; omega
  ·obtain rfl:i=l.length:=by omega
   have g9:decide (l.length<l.length)=false:=by simp
   clear A0;go_wp2_with fail
   go_ret;exact⟨rfl,HW.out⟩
def eur:ByteArray:=⟨#[69,85,82]⟩
def cd1:Gen.Cd:=⟨0,[],[⟨27,0,0,0,0,eur,0⟩,⟨30,0,0,0,0,⟨#[]⟩,0⟩]⟩
theorem zrv:Gen.right cd1=true:=by decide +kernel
theorem zxx:Vm.run cd1 (Vm.env [] 3) 0 1000000 Vm.zeros Vm.st0=⟨[],[(eur,1000000)],2,false⟩:=by
 have h:=Vm.run_in cd1 (Vm.env [] 3) (a:=0) (x:=⟨27,0,0,0,0,eur,0⟩) rfl 1000000 Vm.zeros (H:=[]) (O:=[]) (s:=0) (by omega);rw[Vm.act_pay rfl (by decide)] at h;have h2:=Vm.run_in cd1 (Vm.env [] 3) (a:=1) (x:=⟨30,0,0,0,0,⟨#[]⟩,0⟩) rfl 1000000 Vm.zeros (H:=[]) (O:=[(eur,1000000)]) (s:=1) (by omega);exact h.trans h2
theorem zyr:Fd.right []=true:=Fd.right_yes ⟨by simp,fun i f h=>by simp at h⟩
theorem zrw:Vm.begin' cd1 3 []=some ⟨[],[(eur,1000000)],2,false⟩:=by
 unfold Vm.begin' Vm.beginOk;rw[zxx,zrv,zyr,if_pos ⟨rfl,rfl⟩]
set_option maxHeartbeats 4000000 in
theorem zkn (w:World):Calls Tryz.prog 12 #[] w (zon w):=by
 obtain⟨w1,A0⟩:∃ w1,w1=w.alloc (.cells #[.int .i64 27,.int .i64 0,.int .i64 0,.int .i64 0,.int .i64 0,.string ⟨#[69,85,82]⟩,.int .i64 0,.int .i64 30,.int .i64 0,.int .i64 0,.int .i64 0,.int .i64 0,.string ⟨#[]⟩,.int .i64 0] 73):=⟨_,rfl⟩
 obtain⟨w2,A2⟩:∃ w2,w2=w1.alloc (.cells #[.int .i64 0,.slice none 0 0,.slice (some ⟨w.heap.size,0,none⟩) 2 2] 29):=⟨_,rfl⟩
 have A4:w1.heap.size=w.heap.size+1:=by rw[A0]; simp
 have B01:Below w.heap.size w w1:=by rw[A0]; exact(Below.refl _ _).alloc (Nat.le_refl _) _
 have B12:Below w1.heap.size w1 w2:=by rw[A2]; exact(Below.refl _ _).alloc (Nat.le_refl _) _
 have hi:=heap_alloc_new w (.cells #[.int .i64 27,.int .i64 0,.int .i64 0,.int .i64 0,.int .i64 0,.string ⟨#[69,85,82]⟩,.int .i64 0,.int .i64 30,.int .i64 0,.int .i64 0,.int .i64 0,.int .i64 0,.string ⟨#[]⟩,.int .i64 0] 73);rw[←A0] at hi;have A3:=ag B12 hi;have hc:=heap_alloc_new w1 (.cells #[.int .i64 0,.slice none 0 0,.slice (some ⟨w.heap.size,0,none⟩) 2 2] 29);rw[←A2,A4] at hc;have A6:CdAt w2 (.agg #[.int .i64 0,.slice none 0 0,.slice (some ⟨w.heap.size,0,none⟩) 2 2]) cd1:=by
  refine⟨_,_,rfl,⟨none,0,rfl,⟨Nat.le_refl _,Nat.zero_le _⟩,fun i w h=>by simp[cd1] at h⟩,⟨_,2,rfl,⟨Nat.le_refl _,by unfold maxLen; omega⟩,fun i x hx=>?_⟩,⟨by decide,by decide⟩⟩;have c:=fun j v h=>ab A3 j v h;have A1:(i=0∧x=⟨27,0,0,0,0,eur,0⟩)∨(i=1∧x=⟨30,0,0,0,0,⟨#[]⟩,0⟩):=by
   match i,hx with
   |0,hx=>exact .inl ⟨rfl,by simpa [cd1] using hx.symm⟩
   |1,hx=>exact .inr ⟨rfl,by simpa [cd1] using hx.symm⟩
   |j+2,hx=>simp[cd1] at hx
  rcases A1 with⟨rfl,rfl⟩|⟨rfl,rfl⟩
  ·exact⟨w.heap.size,0,rfl,af A3,⟨c 0 _ rfl,c 1 _ rfl,c 2 _ rfl,c 3 _ rfl,c 4 _ rfl,c 5 _ rfl,c 6 _ rfl⟩,⟨⟨by decide,by decide⟩,⟨by decide,by decide⟩,⟨by decide,by decide⟩,⟨by decide,by decide⟩,⟨by decide,by decide⟩,by decide,⟨by decide,by decide⟩⟩⟩
  ·exact⟨w.heap.size,0,rfl,af A3,⟨c 7 _ rfl,c 8 _ rfl,c 9 _ rfl,c 10 _ rfl,c 11 _ rfl,c 12 _ rfl,c 13 _ rfl⟩,⟨⟨by decide,by decide⟩,⟨by decide,by decide⟩,⟨by decide,by decide⟩,⟨by decide,by decide⟩,⟨by decide,by decide⟩,by decide,⟨by decide,by decide⟩⟩⟩
 have HB:=aa (zcb cd1 3 [] (.slice none 0 0) (.slice (some ⟨w.heap.size,0,none⟩) 2 2) (.slice none 0 0) w2 A6 ⟨none,0,rfl,⟨Nat.le_refl _,Nat.zero_le _⟩,fun i x h=>by simp at h⟩);rw[zrw] at HB;have A8:=aa A0;have A7:=aa A2;have HC:=aa hc;have B2:=aa (Below.more B01 B12);have A9:=aa A4;clear A0 A2 A6 hi A3 hc B01 B12 A4;go_enter Tryz.func12,Tryz.ntmps12;go_upto_region 2 with(fail)
 rw[←A8.out];rw[←A9.out];rw[←A7.out];rw[A9.out];have d0:=ab HC.out 0 _ rfl;have d1:=ab HC.out 1 _ rfl;have d2:=ab HC.out 2 _ rfl;clear A8 A7;go_upto_region 3 with(go_at_call 13; refine HB.out.mono ?_; rintro e w3 ⟨b3,B0,vh,vo,rfl,hh,ht⟩)
 obtain⟨hp,hc,rfl⟩:=dt hh;obtain⟨op,oc,e1, -,A5⟩:=ht.seen (by simp);obtain⟨tb,to',rfl, -,t0,t1,t2⟩:=A5 0 (eur,1000000) rfl;subst e1;have B1:=aa (Below.more B2.out b3);have g1:(List.length [(eur,(1000000:Int))]:Nat)=1:=rfl;have g0:(List.length ([]:List (Int × Int)):Nat)=0:=rfl;rw[show eur=⟨#[69,85,82]⟩ from rfl] at t1;clear B0 hh ht A5 b3 d0 d1 d2 HC;rw[g0,g1];simp only[Nat.zero_mul,Nat.add_zero] at t0 t1 t2;go_wp2_with fail
 go_ret;exact⟨rfl,B1.out⟩
end
end Go.Proofs.YtanlmbbalamgkaaGreatDoor

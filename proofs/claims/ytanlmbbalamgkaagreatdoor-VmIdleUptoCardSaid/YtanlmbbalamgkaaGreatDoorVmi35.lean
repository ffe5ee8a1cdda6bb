/- Proved: lemmas and contracts of the functions that the law reaches, part 35 of 36: VmFeed, VmFeed2, VmWalk, VmStep, VmShownM. Conditions: as each states. -/
import Derived.Test.YtanlmbbalamgkaaGreatDoorFnLay
import Derived.Deep.Onto
import Derived.Test.YtanlmbbalamgkaaGreatDoorVmi29
namespace Go.Proofs.YtanlmbbalamgkaaGreatDoor
set_option linter.unusedVariables false
set_option linter.unusedSimpArgs false
section
open Go.RowKit
open Gen
open Rw
set_option maxRecDepth 100000
theorem qdb (mb:Nat)(a b c n:Int)(s:ByteArray)(t:Int)(day r:Int)(w:World)(hd:w.cell? ⟨mb,3,none⟩=some (.int .i64 day)):
  Calls Tryz.prog 61 #[.pointer (some ⟨mb,0,none⟩),.agg #[.int .i64 20,.int .i64 a,.int .i64 b,.int .i64 c,.int .i64 n,.string s,.int .i64 t],.int .i64 r] w (zaj (.bool true) w):=by
 have B0:=hid' ((Below.refl w.heap.size w).alloc (Nat.le_refl _) (.cells #[.int .i64 20,.int .i64 a,.int .i64 b,.int .i64 c,.int .i64 n,.string s,.int .i64 t] 73))
 go_enter Tryz.func61,Tryz.ntmps61
 go_wp2_with fail
 go_ret
 exact⟨rfl,B0.out⟩
theorem qdc (mb:Nat)(a b c n:Int)(s:ByteArray)(t:Int)(day r:Int)(w:World)(hd:w.cell? ⟨mb,3,none⟩=some (.int .i64 day)):
  Calls Tryz.prog 61 #[.pointer (some ⟨mb,0,none⟩),.agg #[.int .i64 19,.int .i64 a,.int .i64 b,.int .i64 c,.int .i64 n,.string s,.int .i64 t],.int .i64 r] w (zaj (.bool (decide (r=0))) w):=by
 have B0:=hid' ((Below.refl w.heap.size w).alloc (Nat.le_refl _) (.cells #[.int .i64 19,.int .i64 a,.int .i64 b,.int .i64 c,.int .i64 n,.string s,.int .i64 t] 73))
 by_cases hb:r=0
 ·subst hb
  go_enter Tryz.func61,Tryz.ntmps61
  go_wp2_with fail
  go_ret
  exact⟨rfl,B0.out⟩
 ·have e:=hid' (show decide (r=0)=false from decide_eq_false hb)
  have e2:(r == 0)=false:=by rw[beq_eq_false_iff_ne]; exact hb
  rw[e.out]
  clear hb
  go_enter Tryz.func61,Tryz.ntmps61
  go_wp2_with fail
  go_ret
  exact⟨rfl,B0.out⟩
theorem qda (mb:Nat)(a b c n:Int)(s:ByteArray)(t:Int)(day r:Int)(w:World)(hd:w.cell? ⟨mb,3,none⟩=some (.int .i64 day)):
  Calls Tryz.prog 61 #[.pointer (some ⟨mb,0,none⟩),.agg #[.int .i64 21,.int .i64 a,.int .i64 b,.int .i64 c,.int .i64 n,.string s,.int .i64 t],.int .i64 r] w (zaj (.bool (decide (n<day))) w):=by
 have B0:=hid' ((Below.refl w.heap.size w).alloc (Nat.le_refl _) (.cells #[.int .i64 21,.int .i64 a,.int .i64 b,.int .i64 c,.int .i64 n,.string s,.int .i64 t] 73))
 have hd':=zcl hd (.cells #[.int .i64 21,.int .i64 a,.int .i64 b,.int .i64 c,.int .i64 n,.string s,.int .i64 t] 73)
 go_enter Tryz.func61,Tryz.ntmps61
 go_wp2_with fail
 go_quiet (fail)
 go_wp2_with fail
 go_ret
 exact⟨rfl,Below.drewn B0.out _⟩
theorem qcz (mb:Nat)(a b c n:Int)(s:ByteArray)(t:Int)(day r:Int)(w:World)(hd:w.cell? ⟨mb,3,none⟩=some (.int .i64 day)):
  Calls Tryz.prog 61 #[.pointer (some ⟨mb,0,none⟩),.agg #[.int .i64 22,.int .i64 a,.int .i64 b,.int .i64 c,.int .i64 n,.string s,.int .i64 t],.int .i64 r] w (zaj (.bool (decide (day<n))) w):=by
 have B0:=hid' ((Below.refl w.heap.size w).alloc (Nat.le_refl _) (.cells #[.int .i64 22,.int .i64 a,.int .i64 b,.int .i64 c,.int .i64 n,.string s,.int .i64 t] 73))
 have hd':=zcl hd (.cells #[.int .i64 22,.int .i64 a,.int .i64 b,.int .i64 c,.int .i64 n,.string s,.int .i64 t] 73)
 go_enter Tryz.func61,Tryz.ntmps61
 go_wp2_with fail
 go_quiet (fail)
 go_wp2_with fail
 go_ret
 exact⟨rfl,Below.drewn B0.out _⟩
theorem zjg (mb:Nat)(x:Gen.Ix)(F:List Fd.Feed)(day r:Int)(w:World)(hd:w.cell? ⟨mb,3,none⟩=some (.int .i64 day))(hop:x.op=20∨x.op=19∨x.op=21∨x.op=22):
  Calls Tryz.prog 61 #[.pointer (some ⟨mb,0,none⟩),.agg #[.int .i64 x.op,.int .i64 x.a,.int .i64 x.b,.int .i64 x.c,.int .i64 x.n,.string x.s,.int .i64 x.to],.int .i64 r] w (zaj (.bool (Vm.jumps (Vm.env F day) x r)) w):=by
 obtain⟨op,a,b,c,n,s,t⟩:=x
 rcases hop with h|h|h|h
 all_goals
  simp only at h
  subst h
 ·exact qdb mb a b c n s t day r w hd
 ·exact qdc mb a b c n s t day r w hd
 ·exact qda mb a b c n s t day r w hd
 ·exact qcz mb a b c n s t day r w hd
theorem qaa (b3 b4 mb i:Nat)(F:List Fd.Feed)(name:ByteArray)(vf:Value)(W:World)(h3:W.cell? ⟨b3,0,none⟩=some (.pointer (some ⟨mb,0,none⟩)))(h4:W.cell? ⟨b4,0,none⟩=some (.string name))(hm:W.cell? ⟨mb,4,none⟩=some vf)(hF:FeedsAt W vf F)(hi:i<F.length):
  Calls Tryz.prog 115 (#[.int .i64 (i:Int)]++#[.pointer (some ⟨b3,0,none⟩),.pointer (some ⟨b4,0,none⟩)]) W fun e w'=>e=.returned (.bool (!Fd.lt (Fd.at' F i).1 name))∧∃ q,w'=W.drewN q:=by
 obtain⟨p,c,rfl,⟨hl1,hl2⟩,hf⟩:=hF
 have hx:F[i]? = some (Fd.at' F i):=by unfold Fd.at'; rw[List.getElem?_eq_getElem hi]; rfl
 obtain⟨b,off,sv,rfl,hb,⟨c0,c1⟩, -, -⟩:=hf i _ hx
 generalize Fd.at' F i=y at *
 have j1:(0:Int)≤(i:Int):=by omega
 have j2:(i:Int)<(F.length:Int):=by omega
 have e:=hid' (show Fd.lt y.1 name=Op.bytesLess y.1.toList name.toList from rfl)
 rw[e.out]
 clear hf hx hb hi hl2
 go_enter Tryz.func115,Tryz.ntmps115
 go_wp2_with fail
 go_quiet (fail)
 go_wp2_with fail
 go_ret
 exact⟨rfl,_,rfl⟩
theorem zzz (b9 b3 b5 mb k:Nat)(l:List (Int × Int))(sv:Value)(day ago:Int)(hd:0≤day∧day≤73048)(ha:0≤ago∧ago≤3660)(W:World)(h9:W.cell? ⟨b9,0,none⟩=some sv)(h3:W.cell? ⟨b3,0,none⟩=some (.pointer (some ⟨mb,0,none⟩)))(h5:W.cell? ⟨b5,0,none⟩=some (.int .i64 ago))(hm:W.cell? ⟨mb,3,none⟩=some (.int .i64 day))(hS:StampsAt W sv l)(hk:k<l.length):
  Calls Tryz.prog 116 (#[.int .i64 (k:Int)]++#[.pointer (some ⟨b9,0,none⟩),.pointer (some ⟨b3,0,none⟩),.pointer (some ⟨b5,0,none⟩)]) W fun e w'=>e=.returned (.bool (decide (day - ago<(Fd.stampAt l k).1)))∧∃ q,w'=W.drewN q:=by
 obtain⟨p,c,rfl,⟨hl1,hl2⟩,hf⟩:=hS
 have hx:l[k]? = some (Fd.stampAt l k):=by unfold Fd.stampAt; rw[List.getElem?_eq_getElem hk]; rfl
 obtain⟨b,off,rfl,hb,⟨c0,c1⟩, -, -⟩:=hf k _ hx
 generalize Fd.stampAt l k=y at *
 have j1:(0:Int)≤(k:Int):=by omega
 have j2:(k:Int)<(l.length:Int):=by omega
 have j3:IntKind.i64.wrap (day - ago)=day - ago:=IntWalk.i64_in _ (by omega)
 clear hf hx hb hk hl2 hd ha
 go_enter Tryz.func116,Tryz.ntmps116
 go_wp2_with fail
 go_quiet (fail)
 go_wp2_with fail
 go_ret
 exact⟨rfl,_,rfl⟩
end
section
open Go.RowKit Go.Shelf Go.Lib Go.Sort
open Gen
open Rw
set_option maxRecDepth 100000
theorem zsr {F:List Fd.Feed}(h:Fd.Ok F)(name:ByteArray):∀ a b,a≤b→b<F.length→(!Fd.lt (Fd.at' F a).1 name)=true→(!Fd.lt (Fd.at' F b).1 name)=true:=by
 intro a b hab hb ha
 rcases(by omega:a=b∨a<b) with rfl|hlt
 ·exact ha
 ·cases hc:Fd.lt (Fd.at' F b).1 name with
  |false=>rfl
  |true=>
   have:=Fd.lt_trans (Fd.rises h b a hlt hb) hc
   rw[this] at ha
   cases ha
theorem zuh {F:List Fd.Feed}(h:Fd.Ok F){i:Nat}{f:Fd.Feed}(hi:F[i]? = some f)(d:Int):∀ a b,a≤b→b<f.2.length→decide (d<(Fd.stampAt f.2 a).1)=true→decide (d<(Fd.stampAt f.2 b).1)=true:=by
 intro a b hab hb ha
 rcases(by omega:a=b∨a<b) with rfl|hlt
 ·exact ha
 ·have:=Fd.risesK h hi b a hlt hb
  have:=of_decide_eq_true ha
  exact decide_eq_true (by omega)
def zqc (o:Option Int):Value:=match o with|some n=>.tuple #[.int .i64 n,.bool true] | none=>.tuple #[.int .i64 0,.bool false]
theorem ztn:zqc none=.tuple #[.int .i64 0,.bool false]:=rfl
theorem ztm (n:Int):zqc (some n)=.tuple #[.int .i64 n,.bool true]:=rfl
theorem box3 (W:World)(v:Value)(t:TypeId):(W.alloc (.cells #[v] t)).cell? ⟨W.heap.size,0,none⟩=some v:=cell_new_sl W v t
theorem FeedsAt.grown {W:World}{v:Value}{l:List Fd.Feed}(h:FeedsAt W v l)(m:Nat)(os:Array Obj):FeedsAt (grow (W.drewN m) os) v l:=h.below (below_grown_sl W.heap.size W m os (Nat.le_refl _))
theorem StampsAt.grown {W:World}{v:Value}{l:List (Int × Int)}(h:StampsAt W v l)(m:Nat)(os:Array Obj):StampsAt (grow (W.drewN m) os) v l:=h.below (below_grown_sl W.heap.size W m os (Nat.le_refl _))
set_option maxHeartbeats 4000000 in
theorem qdh (mb:Nat)(F:List Fd.Feed)(hok:Fd.Ok F)(day ago:Int)(name:ByteArray)(hd:0≤day∧day≤73048)(ha:0≤ago∧ago≤3660)(vf:Value)(w:World)(hm3:w.cell? ⟨mb,3,none⟩=some (.int .i64 day))(hm4:w.cell? ⟨mb,4,none⟩=some vf)(hF:FeedsAt w vf F):
  Calls Tryz.prog 60 #[.pointer (some ⟨mb,0,none⟩),.string name,.int .i64 ago] w (zaj (zqc (Fd.tells F day name ago)) w):=by
 have hFl:F.length≤64:=hok.1
 obtain⟨W3,hW3⟩:∃ W3,W3=((w.alloc (.cells #[.pointer (some ⟨mb,0,none⟩)] 80)).alloc (.cells #[.string name] 9)).alloc (.cells #[.int .i64 ago] 2):=⟨_,rfl⟩
 have hsz:W3.heap.size=w.heap.size+1+1+1:=by rw[hW3]; simp
 have B3:Below w.heap.size w W3:=by rw[hW3]; exact(((Below.refl _ w).alloc (Nat.le_refl _) _).alloc (by simp) _).alloc (by simp; omega) _
 have c3:W3.cell? ⟨w.heap.size,0,none⟩=some (.pointer (some ⟨mb,0,none⟩)):=by rw[hW3]; exact zcl (zcl (box3 w _ _) _) _
 have c4:W3.cell? ⟨w.heap.size+1,0,none⟩=some (.string name):=by rw[hW3]; have:=zcl (box3 (w.alloc (.cells #[.pointer (some ⟨mb,0,none⟩)] 80)) (.string name) 9) (.cells #[.int .i64 ago] 2); rwa [World.size_alloc] at this
 have c5:W3.cell? ⟨w.heap.size+1+1,0,none⟩=some (.int .i64 ago):=by
  rw[hW3]
  have:=box3 ((w.alloc (.cells #[.pointer (some ⟨mb,0,none⟩)] 80)).alloc (.cells #[.string name] 9)) (.int .i64 ago) 2
  rwa [World.size_alloc,World.size_alloc] at this
 have m3:=zan B3 _ _ hm3
 have m4:=zan B3 _ _ hm4
 have F3:=hF.below B3
 have hmb:mb<w.heap.size:=World.block_lt_of_cell? _ _ hm3
 have eg1:∀ args w,(callFunc 115 args).run Tryz.prog w=.ok (.enter 115 args) w:=enters_of Tryz.func115 (by kernel_rfl) rfl
 have eg2:∀ args w,(callFunc 116 args).run Tryz.prog w=.ok (.enter 116 args) w:=enters_of Tryz.func116 (by kernel_rfl) rfl
 have hS:=Any.sort_Search Tryz.search 115 #[.pointer (some ⟨w.heap.size,0,none⟩),.pointer (some ⟨w.heap.size+1,0,none⟩)] F.length (fun i=>!Fd.lt (Fd.at' F i).1 name) W3 eg1 (by omega)
  (fun m os i hi=>(qaa w.heap.size (w.heap.size+1) mb i F name vf _ (cell_grown (by show w.heap.size<_; omega) c3 m os) (cell_grown (by show w.heap.size+1<_; omega) c4 m os) (cell_grown (by show mb<_; omega) m4 m os) (F3.grown m os) hi).mono
   fun _ _ ⟨he,q,hq⟩=>⟨he,q,#[],by rw[hq,grow_empty]⟩) (zsr hok name)
 change Calls Tryz.prog 114 _ _ _ at hS
 have hpl:=Fd.place_le F name
 have HT1:=fun h=>hid' (Fd.tells_none (F:=F) (s:=name) h day ago)
 have HP:=hid' (show(List.range F.length).countP (fun i=>!(!Fd.lt (Fd.at' F i).1 name))=Fd.place F name from rfl)
 rw[HP.out] at hS
 have HS:=hid' hS
 have HW3:=hid' hW3
 clear hW3
 have C3:=hid' c3
 have C4:=hid' c4
 have C5:=hid' c5
 have M3:=hid' m3
 have M4:=hid' m4
 have FF3:=hid' F3
 have HB3:=hid' B3
 have HSZ:=hid' hsz
 have HE2:=hid' eg2
 have HD:=hid' hd
 have HA:=hid' ha
 have HPL:=hid' hpl
 have HOK:=hid' hok
 have HMB:=hid' hmb
 clear c3 c4 c5 hS hm3 hm4 hF F3 B3 hsz eg1 eg2 hd ha HP hpl hok hmb m3 hFl HT1
 obtain⟨P,hP⟩:∃ P,Hid (P=Fd.place F name):=⟨_,rfl⟩
 rw[←hP.out] at HS HPL
 go_enter Tryz.func60,Tryz.ntmps60
 obtain⟨vfp,vfc,hvf, -, -⟩:=FF3.out
 subst hvf
 go_upto_region 1 with(fail)
 rw[←HW3.out]
 have c3:=C3.out
 have m4':=m4
 go_upto_region 2 with(go_at_call 114; refine HS.out.mono ?_; rintro e w4 ⟨rfl,q,os,hw4⟩)
 have B34:=below_grown_sl W3.heap.size W3 q os (Nat.le_refl _)
 rw[←hw4] at B34 ⊢
 clear hw4 HS c3 m4 m4'
 have B04:=hid' (Below.more HB3.out B34)
 have F4:=hid' (FF3.out.below B34)
 have c3:=zan B34 _ _ C3.out
 have c4:=zan B34 _ _ C4.out
 have m4:=zan B34 _ _ M4.out
 have C5':=hid' (zan B34 _ _ C5.out)
 have M3':=hid' (zan B34 _ _ M3.out)
 have C3':=hid' c3
 clear C3 C4 C5 M3 M4 B34 FF3
 by_cases hPn:P=F.length
 ·subst hPn
  have e:=hid' (Fd.tells_none (F:=F) (s:=name) (by rw[←hP.out]; exact List.getElem?_eq_none (Nat.le_refl _)) day ago)
  have g:((F.length:Int) == (F.length:Int))=true:=beq_self_eq_true _
  clear hP
  go_quiet (fail)
  go_wp2_with fail
  go_ret2
  exact⟨by rw[e.out]; rfl,Below.drewn B04.out _⟩
 ·have hlt:P<F.length:=by have:=HPL.out; omega
  obtain⟨x,hx⟩:∃ x,F[P]? = some x:=⟨_,List.getElem?_eq_getElem hlt⟩
  have hx':F[Fd.place F name]? = some x:=by rw[←hP.out]; exact hx
  obtain⟨fp,fc,efp,⟨hl1,hl2⟩,hf⟩:=F4.out
  obtain⟨fb,fo,sv,efb,hfb,⟨x0,x1⟩,hst,hxs⟩:=hf P x hx
  obtain⟨rfl,rfl⟩:vfp=fp∧vfc=fc:=by simpa using efp
  subst efb
  have g:((P:Int) == (F.length:Int))=false:=by rw[beq_eq_false_iff_ne]; omega
  have j1:(0:Int)≤(P:Int):=by omega
  have j2:(P:Int)<(F.length:Int):=by omega
  have HST:=hid' hst
  have HX:=hid' hx
  clear hPn efp hl1 hl2 hf hxs hst hfb hx
  by_cases hn:x.1=name
  ·rw[hn] at x0
   have g2:(name.toList == name.toList)=true:=beq_self_eq_true _
   have TE:=fun h=>hid' (Fd.tells_early hx' hn (day:=day) (ago:=ago) h)
   have TS:=fun k h=>hid' (Fd.tells_some hx' hn (day:=day) (ago:=ago) (k:=k) h)
   have HTE:=hid' TE
   have HTS:=hid' TS
   clear TE TS hx' hn
   go_quiet (fail)
   clear c4
   have B4:=hid' (Below.drewn B04.out nq)
   have ST:=hid' (HST.out.below (Below.drewn (Below.refl _ w4) nq))
   have MM3:=hid' (show(w4.drewN nq).cell? ⟨mb,3,none⟩=some (.int .i64 day) from M3'.out)
   have CC5:=hid' (show(w4.drewN nq).cell? ⟨w.heap.size+1+1,0,none⟩=some (.int .i64 ago) from C5'.out)
   have CC3:=hid' (show(w4.drewN nq).cell? ⟨w.heap.size,0,none⟩=some (.pointer (some ⟨mb,0,none⟩)) from C3'.out)
   replace c3:=CC3.out
   replace m4:=(show(w4.drewN nq).cell? ⟨mb,4,none⟩=_ from m4)
   replace x1:=(show(w4.drewN nq).cell? ⟨fb,fo+P * 2+1,none⟩=_ from x1)
   clear x0 B04 M3' C5' C3' F4 HST
   generalize w4.drewN nq=w5 at *
   obtain⟨sp,sc,rfl,⟨hs1,hs2⟩, -⟩:=id ST.out
   clear hs1 hs2
   obtain⟨w6,hw6⟩:∃ w6,w6=w5.alloc (.cells #[.slice sp x.2.length sc] 110):=⟨_,rfl⟩
   have B56:Below w5.heap.size w5 w6:=by rw[hw6]; exact(Below.refl _ _).alloc (Nat.le_refl _) _
   have c9:w6.cell? ⟨w5.heap.size,0,none⟩=some (.slice sp x.2.length sc):=by rw[hw6]; exact box3 w5 _ _
   have hsz6:w6.heap.size=w5.heap.size+1:=by rw[hw6]; simp
   have q3:=zan B56 _ _ CC3.out
   have q5:=zan B56 _ _ CC5.out
   have qm:=zan B56 _ _ MM3.out
   have ST6:=ST.out.below B56
   have h5:=World.block_lt_of_cell? _ _ CC5.out
   have h5':w.heap.size+1+1<w5.heap.size:=h5
   have hmb:=HMB.out
   have hlen:=((HOK.out).2 P x HX.out).len
   have hS:=Any.sort_Search Tryz.search 116 #[.pointer (some ⟨w5.heap.size,0,none⟩),.pointer (some ⟨w.heap.size,0,none⟩),.pointer (some ⟨w.heap.size+1+1,0,none⟩)] x.2.length (fun k=>decide (day - ago<(Fd.stampAt x.2 k).1)) w6 HE2.out (by omega)
    (fun m os k hk=>(zzz w5.heap.size w.heap.size (w.heap.size+1+1) mb k x.2 (.slice sp x.2.length sc) day ago HD.out HA.out _ (cell_grown (by show w5.heap.size<_; omega) c9 m os) (cell_grown (by show w.heap.size<_; omega) q3 m os) (cell_grown (by show w.heap.size+1+1<_; omega) q5 m os) (cell_grown (by show mb<_; omega) qm m os) (ST6.grown m os) hk).mono
     fun _ _ ⟨he,q,hq⟩=>⟨he,q,#[],by rw[hq,grow_empty]⟩) (zuh HOK.out HX.out (day - ago))
   change Calls Tryz.prog 114 _ _ _ at hS
   rw[show(List.range x.2.length).countP (fun k=>!(decide (day - ago<(Fd.stampAt x.2 k).1)))=Fd.upto x.2 (day - ago) from rfl] at hS
   have hul:=Fd.upto_le x.2 (day - ago)
   obtain⟨U,hU⟩:∃ U,Fd.upto x.2 (day - ago)=U:=⟨_,rfl⟩
   rw[hU] at hS HTE HTS hul
   clear hU q3 q5 qm h5 h5' hmb
   have HS2:=hid' hS
   have HW6:=hid' hw6
   have HS6:=hid' (zan B56)
   have C9:=hid' c9
   have B6:=hid' (Below.more B4.out B56)
   have S6:=hid' ST6
   clear hw6 hS B56 ST6 hsz6 B4 MM3 CC5 CC3
   go_upto_region 5 with(fail)
   rw[←HW6.out]
   clear x1 m4 c3 HW6
   go_upto_region 6 with(go_at_call 114; refine HS2.out.mono ?_; rintro e w7 ⟨rfl,q',os',hw7⟩)
   have B67:=below_grown_sl w6.heap.size w6 q' os' (Nat.le_refl _)
   rw[←hw7] at B67 ⊢
   have B7:=hid' (Below.more B6.out B67)
   have S7:=hid' (S6.out.below B67)
   have c9':=zan B67 _ _ C9.out
   clear hw7 B67 S6 C9 c9 HS2 B6
   cases U with
   |zero=>
    have e:=hid' (HTE.out rfl).out
    clear HTE HTS
    go_wp2_with fail
    go_ret2
    exact⟨by rw[e.out]; rfl,B7.out⟩
   |succ k=>
    have e:=hid' (HTS.out k rfl).out
    clear HTE HTS
    have hk:x.2[k]? = some (Fd.stampAt x.2 k):=by unfold Fd.stampAt; rw[List.getElem?_eq_getElem (by omega)]; rfl
    obtain⟨sp',sc',e2, -,hss⟩:=S7.out
    obtain⟨rfl,rfl⟩:sp=sp'∧sc=sc':=by simpa using e2
    obtain⟨sb,so,rfl, -,⟨y0,y1⟩, -, -⟩:=hss k _ hk
    generalize Fd.stampAt x.2 k=y at *
    have g0:(((k+1:Nat):Int) == 0)=false:=by rw[beq_eq_false_iff_ne]; omega
    have v1:IntKind.i64.wrap (((k+1:Nat):Int) - 1)=(k:Int):=by rw[IntWalk.i64_in _ (by omega)]; omega
    have v2:(0:Int)≤(k:Int):=by omega
    have v3:(k:Int)<(x.2.length:Int):=by omega
    clear e2 hss hk y0
    go_wp2_with fail
    go_ret2
    exact⟨by rw[e.out]; rfl,B7.out⟩
  ·have e:=hid' (Fd.tells_other hx' hn day ago)
   have g2:(x.1.toList == name.toList)=false:=by
    rw[beq_eq_false_iff_ne]
    intro e2
    apply hn
    apply zmo
    rw[ByteArray.toList_eq,ByteArray.toList_eq] at e2
    exact e2
   clear hx' hn hlt
   go_quiet (fail)
   go_wp2_with fail
   go_ret2
   exact⟨by rw[e.out]; rfl,Below.drewn B04.out _⟩
end
section
open Go.RowKit
open Gen
open Rw
set_option maxRecDepth 100000
structure LSt (W0:World)(mb:Nat)(c:Gen.Cd)(day:Int)(vw vi vf:Value)(st:Vm.St)(vh vo:Value)(rg:Nat)(r:List Int)(w W:World):Prop where
 m:Mach W0 mb c day vw vi vf st vh vo W
 rb:RegBox W rg r
 kp:KpM mb w W
 lt:mb<rg
def qfj (W0:World)(mb:Nat)(c:Gen.Cd)(day:Int)(vw vi vf:Value)(st:Vm.St)(w:World)(e:Ending)(w':World):Prop:=
 (∃ r,e=.returned r)∧(∃ vh vo,Mach W0 mb c day vw vi vf st vh vo w')∧KpM mb w w'
structure RunEnv (W0:World)(mb:Nat)(c:Gen.Cd)(F:List Fd.Feed)(day:Int)(vw vi vf:Value):Prop where
 cd:CdAt W0 (.agg #[.int .i64 c.regs,vw,vi]) c
 fs:FeedsAt W0 vf F
 rt:Gen.right c=true
 ok:Fd.Ok F
 day:0≤day∧day≤73048
 mb:W0.heap.size≤mb
theorem zxt:Tryz.zeroCells115=zkq Vm.zeros:=by kernel_rfl
theorem zlm:Vm.zeros.length=256:=by unfold Vm.zeros; rw[List.length_replicate]
theorem LSt.start {W0:World}{mb:Nat}{c:Gen.Cd}{day:Int}{vw vi vf:Value}{st:Vm.St}{vh vo:Value}{w:World}(h:Mach W0 mb c day vw vi vf st vh vo w):
  LSt W0 mb c day vw vi vf st vh vo w.heap.size Vm.zeros w (w.alloc (.cells Tryz.zeroCells115 115)):=by
 have B:=(Below.refl w.heap.size w).alloc (Nat.le_refl _) (.cells Tryz.zeroCells115 115)
 exact⟨h.below B,⟨zlm,by rw[zxt]; exact heap_alloc_new _ _⟩,KpM.below B (Nat.le_of_lt h.lt),h.lt⟩
theorem LSt.below {W0:World}{mb:Nat}{c:Gen.Cd}{day:Int}{vw vi vf:Value}{st:Vm.St}{vh vo:Value}{rg:Nat}{r:List Int}{w W W':World}(h:LSt W0 mb c day vw vi vf st vh vo rg r w W)(b:Below W.heap.size W W'):LSt W0 mb c day vw vi vf st vh vo rg r w W':=
 ⟨h.m.below b,⟨h.rb.1,zad b h.rb.2⟩,h.kp.trans (KpM.below b (Nat.le_of_lt h.m.lt)),h.lt⟩
def XBox (W:World)(b:Nat)(x:Gen.Ix):Prop:=W.heap[b]? = some (.cells #[.int .i64 x.op,.int .i64 x.a,.int .i64 x.b,.int .i64 x.c,.int .i64 x.n,.string x.s,.int .i64 x.to] 73 (0,0))
theorem LSt.steps {W0:World}{mb:Nat}{c:Gen.Cd}{day:Int}{vw vi vf:Value}{st:Vm.St}{vh vo:Value}{rg:Nat}{r:List Int}{w W:World}(h:LSt W0 mb c day vw vi vf st vh vo rg r w W):
  LSt W0 mb c day vw vi vf ⟨st.holds,st.out,st.steps+1,st.over⟩ vh vo rg r w (W.setCell ⟨mb,7,none⟩ (.int .i64 ((st.steps:Int)+1))):=
 ⟨h.m.steps,⟨h.rb.1,(KpM.mset W 7 _).box (by have:=h.lt; omega) (by decide) (by decide) h.rb.2⟩,h.kp.trans (KpM.mset W 7 _),h.lt⟩
theorem LSt.setOver {W0:World}{mb:Nat}{c:Gen.Cd}{day:Int}{vw vi vf:Value}{st:Vm.St}{vh vo:Value}{rg:Nat}{r:List Int}{w W:World}(h:LSt W0 mb c day vw vi vf st vh vo rg r w W)(o:Bool):
  LSt W0 mb c day vw vi vf ⟨st.holds,st.out,st.steps,o⟩ vh vo rg r w (W.setCell ⟨mb,8,none⟩ (.bool o)):=
 ⟨h.m.setOver o,⟨h.rb.1,(KpM.mset W 8 _).box (by have:=h.lt; omega) (by decide) (by decide) h.rb.2⟩,h.kp.trans (KpM.mset W 8 _),h.lt⟩
theorem LSt.setReg {W0:World}{mb:Nat}{c:Gen.Cd}{day:Int}{vw vi vf:Value}{st:Vm.St}{vh vo:Value}{rg:Nat}{r:List Int}{w W:World}(h:LSt W0 mb c day vw vi vf st vh vo rg r w W)(hw:w.heap.size≤rg)(i v:Int):
  LSt W0 mb c day vw vi vf st vh vo rg (Vm.setReg r i v) w (W.setCell ⟨rg,i.toNat,none⟩ (.int .i64 v)):=by
 refine⟨h.m.other h.lt h.rb.2 (by decide) (by decide) _ _,h.rb.set i v,⟨h.kp.bel.setCell (p:=⟨rg,i.toNat,none⟩) (Nat.le_of_lt h.lt) _,fun k cur t hk h1 h2 e=>?_⟩,h.lt⟩
 have:=zac e
 rw[Below.heap_setCell W ⟨rg,i.toNat,none⟩ _ k (by show k≠rg; omega)]
 exact h.kp.oth k cur t hk h1 h2 e
theorem LSt.call {W0:World}{mb:Nat}{c:Gen.Cd}{day:Int}{vw vi vf:Value}{st st':Vm.St}{vh vo vh' vo':Value}{rg:Nat}{r:List Int}{w W W':World}(h:LSt W0 mb c day vw vi vf st vh vo rg r w W)(h':Mach W0 mb c day vw vi vf st' vh' vo' W')(k:KpM mb W W'):
  LSt W0 mb c day vw vi vf st' vh' vo' rg r w W':=
 ⟨h',⟨h.rb.1,k.box (by have:=h.lt; omega) (by decide) (by decide) h.rb.2⟩,h.kp.trans k,h.lt⟩
theorem LSt.pushTran {W0:World}{mb:Nat}{c:Gen.Cd}{day:Int}{vw vi vf:Value}{st:Vm.St}{vh vo v':Value}{rg:Nat}{r:List Int}{w W W':World}(h:LSt W0 mb c day vw vi vf st vh vo rg r w W){y:ByteArray × Int}
  (row:TranRow (mb+1) W' v' day (st.out++[y])) (g:W.grownBy W' vo.ownBlock):LSt W0 mb c day vw vi vf ⟨st.holds,st.out++[y],st.steps,st.over⟩ vh v' rg r w (W'.setCell ⟨mb,6,none⟩ v'):=by
 have K:=(KpM.row h.m.ts (.inr rfl) g h.m.lt).trans (KpM.mset W' 6 v')
 exact⟨h.m.pushTran row g,⟨h.rb.1,K.box (by have:=h.lt; omega) (by decide) (by decide) h.rb.2⟩,h.kp.trans K,h.lt⟩
theorem LSt.pushHold {W0:World}{mb:Nat}{c:Gen.Cd}{day:Int}{vw vi vf:Value}{st:Vm.St}{vh vo v':Value}{rg:Nat}{r:List Int}{w W W':World}(h:LSt W0 mb c day vw vi vf st vh vo rg r w W){y:Int × Int}
  (row:HoldRow (mb+1) W' v' (st.holds++[y])) (g:W.grownBy W' vh.ownBlock):LSt W0 mb c day vw vi vf ⟨st.holds++[y],st.out,st.steps,st.over⟩ v' vo rg r w (W'.setCell ⟨mb,5,none⟩ v'):=by
 have K:=(KpM.row h.m.hs (.inl rfl) g h.m.lt).trans (KpM.mset W' 5 v')
 exact⟨h.m.pushHold row g,⟨h.rb.1,K.box (by have:=h.lt; omega) (by decide) (by decide) h.rb.2⟩,h.kp.trans K,h.lt⟩
namespace Vm
theorem act2_none {c:Cd}{E:Env}{x:Ix}{a f:Int}{r:List Int}(h:x.op=2)(hf:E.feed x.s x.n=none):act c E x a f r=.next x.to f r:=by rw[act,if_neg (by omega),if_neg (by omega),if_neg (by omega),if_pos h,hf]
theorem act2_some {c:Cd}{E:Env}{x:Ix}{a f:Int}{r:List Int}{n:Int}(h:x.op=2)(hf:E.feed x.s x.n=some n):act c E x a f r=.next (a+1) f (setReg r x.a n):=by rw[act,if_neg (by omega),if_neg (by omega),if_neg (by omega),if_pos h,hf]
theorem act_jump {c:Cd}{E:Env}{x:Ix}{a f:Int}{r:List Int}(h:x.op=20∨x.op=19∨x.op=21∨x.op=22){b:Bool}(hj:jumps E x (reg r x.b)=b):act c E x a f r=.next (if b=true then x.to else a+1) f r:=by
 rw[act,if_neg (by omega),if_neg (by omega),if_neg (by omega),if_neg (by omega),if_pos h,hj]
theorem act_pay0 {c:Cd}{E:Env}{x:Ix}{a f:Int}{r:List Int}(h:x.op=27)(hf:f=0):act c E x a f r=.next (a+1) f r:=by
 rw[act,if_neg (by omega),if_neg (by omega),if_neg (by omega),if_neg (by omega),if_neg (by omega),if_neg (by omega),if_neg (by omega),if_neg (by omega),if_neg (by omega),if_pos h,if_pos hf]
theorem act_pay {c:Cd}{E:Env}{x:Ix}{a f:Int}{r:List Int}(h:x.op=27)(hf:¬f=0):act c E x a f r=.pay:=by
 rw[act,if_neg (by omega),if_neg (by omega),if_neg (by omega),if_neg (by omega),if_neg (by omega),if_neg (by omega),if_neg (by omega),if_neg (by omega),if_neg (by omega),if_pos h,if_neg hf]
theorem act_default {c:Cd}{E:Env}{x:Ix}{a f:Int}{r:List Int}(h:¬(x.op=30∨x.op=1∨x.op=25∨x.op=24∨x.op=26∨x.op=23∨x.op=3∨x.op=2∨x.op=20∨x.op=19∨x.op=21∨x.op=22∨x.op=27∨x.op=28∨x.op=29)):act c E x a f r=.next (a+1) f (setReg r x.a (E.rk x.op (reg r x.b) (reg r x.c))):=by
 rw[act,if_neg (by omega),if_neg (by omega),if_neg (by omega),if_neg (by omega),if_neg (by omega),if_neg (by omega),if_neg (by omega),if_neg (by omega),if_neg (by omega),if_neg (by omega),if_neg (by omega),if_neg (by omega)]
end Vm
set_option maxHeartbeats 40000000 in
theorem zmw (W0:World)(mb:Nat)(c:Gen.Cd)(F:List Fd.Feed)(day:Int)(vw vi vf:Value)(hE:RunEnv W0 mb c F day vw vi vf):∀(d a:Nat) (f:Int) (st:Vm.St) (vh vo:Value) (w:World),c.ins.length - a≤d→a<c.ins.length→Vm.StOk st→Mach W0 mb c day vw vi vf st vh vo w →
  Calls Tryz.prog 31 #[.pointer (some ⟨mb,0,none⟩),.int .i64 (a:Int),.int .i64 f] w (qfj W0 mb c day vw vi vf (Vm.run c (Vm.env F day) (a:Int) f Vm.zeros st) w):=by
 intro d
 induction d with
 |zero=>intro a f st vh vo w h1 h2; omega
 |succ d ih=>
  intro a f st vh vo w hd ha hst hm
  have IH:=hid' ih
  have HE:=hid' hE
  have HM:=hid' hm
  have HST:=hid' hst
  obtain⟨R,hR⟩:∃ R,Hid (Vm.run c (Vm.env F day) (a:Int) f Vm.zeros st=R):=⟨_,rfl⟩
  rw[hR.out]
  clear ih hE hm hst
  go_enter Tryz.func31,Tryz.ntmps31
  go_step3
  go_upto_region 1 with(fail)
  have HL0:=hid' (LSt.start HM.out)
  have HR0:=hid' (Nat.le_refl w.heap.size)
  clear HM
  generalize w.alloc (.cells Tryz.zeroCells115 115)=w1 at *
  obtain⟨rg,hrg⟩:∃ rg,rg=w.heap.size:=⟨_,rfl⟩
  rw[←hrg] at HL0 ⊢
  have HRG:=hid' (show w.heap.size≤rg by omega)
  clear hrg HR0
  go_step3
  go_wp2_with fail
  go_loopw [1,2] (fun av fv wr=>∃(a':Nat) (f':Int) (r:List Int) (st':Vm.St) (vh' vo':Value),av=.int .i64 (a':Int)∧fv=.int .i64 f'∧(a≤a'∧a'<c.ins.length)∧Hid (Vm.run c (Vm.env F day) (a':Int) f' r st'=R)∧Hid (Vm.StOk st')∧Hid (LSt W0 mb c day vw vi vf st' vh' vo' rg r w wr)) (fun av _ _=>c.ins.length - (intOf av).toNat)
  case atStart=>exact⟨a,f,Vm.zeros,st,vh,vo,rfl,rfl,⟨Nat.le_refl _,ha⟩,hR,HST,HL0⟩
  case round=>
   clear hR HST HL0
   obtain⟨a',f',r,⟨H,O,s,o⟩,vh',vo',rfl,rfl,⟨haa,han⟩,hR,HST,HL⟩:=hrel
   obtain⟨x,hx⟩:∃ x,c.ins[a']? = some x:=⟨_,List.getElem?_eq_getElem han⟩
   obtain⟨ip,ic,hvi,⟨hi1,hi2⟩,hic⟩:=(show InsAt W0 vi c.ins from by
    obtain⟨vw',vi',e,_,h2,_⟩:=HE.out.cd
    simp only[Value.agg.injEq,Array.mk.injEq,List.cons.injEq,and_true,true_and] at e
    obtain⟨rfl,rfl⟩:=e
    exact h2)
   obtain⟨ib,io,rfl,hib,⟨y0,y1,y2,y3,y4,y5,y6⟩,hxf⟩:=hic a' x hx
   subst hvi
   have HF:=hid' (Vm.fwd HE.out.rt hx)
   have hmb:W0.heap.size≤mb:=HE.out.mb
   have HRD:=hid' (fun (k:Nat) (v:Value) (hc:W0.cell? ⟨ib,k,none⟩=some v)=>(show wr.cell? ⟨ib,k,none⟩=some v from(HL.out.m.bel.cell (p:=⟨ib,k,none⟩) (Nat.lt_of_lt_of_le hib hmb)).trans hc))
   replace y0:=HRD.out _ _ y0
   replace y1:=HRD.out _ _ y1
   replace y2:=HRD.out _ _ y2
   replace y3:=HRD.out _ _ y3
   replace y4:=HRD.out _ _ y4
   replace y5:=HRD.out _ _ y5
   replace y6:=HRD.out _ _ y6
   have q2:=zaa HL.out.m.box 2 _ rfl
   have j1:(0:Int)≤(a':Int):=by omega
   have j2:(a':Int)<(c.ins.length:Int):=by omega
   have HXF:=hid' hxf
   have HX:=hid' hx
   have HA:=hid' (And.intro haa han)
   clear hx hxf hic hi1 hi2 haa han hmb
   go_upto_region 2 with(fail)
   have BX:=(Below.refl wr.heap.size wr).alloc (Nat.le_refl _) (.cells #[.int .i64 x.op,.int .i64 x.a,.int .i64 x.b,.int .i64 x.c,.int .i64 x.n,.string x.s,.int .i64 x.to] 73)
   have HL2:=hid' (HL.out.below BX)
   have HXB:=hid' (show XBox _ wr.heap.size x from heap_alloc_new wr _)
   have HMX:=hid' (show mb<wr.heap.size from HL.out.m.lt)
   have HRX:=hid' (show rg<wr.heap.size from zac HL.out.rb.2)
   clear y0 y1 y2 y3 y4 y5 y6 q2 BX HL HRD
   generalize wr.alloc (.cells #[.int .i64 x.op,.int .i64 x.a,.int .i64 x.b,.int .i64 x.c,.int .i64 x.n,.string x.s,.int .i64 x.to] 73)=w2 at *
   generalize wr.heap.size=xb at *
   have q7:=zaa HL2.out.m.box 7 _ rfl
   have f7:=frozen_of (o:=7) HL2.out.m.box
   have v7:IntKind.i64.wrap ((s:Int)+1)=(s:Int)+1:=IntWalk.i64_in _ (by have:=HST.out.most; simp only at this; omega)
   go_upto_region 3 with(fail)
   have HL3:=hid' (LSt.steps HL2.out)
   have HXB3:=hid' (show XBox (w2.setCell ⟨mb,7,none⟩ (.int .i64 ((s:Int)+1))) xb x from(KpM.mset w2 7 _).box (by have:=HMX.out; omega) (by decide) (by decide) HXB.out)
   clear q7 f7 v7 HL2 HXB
   simp only at HL3
   generalize w2.setCell ⟨mb,7,none⟩ (.int .i64 ((s:Int)+1))=w3 at *
   obtain⟨t,ht⟩:∃ t,t=s+1:=⟨_,rfl⟩
   rw[←ht] at HL3
   have HT:=hid' ht
   clear ht
   have q7:=zaa HL3.out.m.box 7 _ rfl
   have q8:=zaa HL3.out.m.box 8 _ rfl
   by_cases hover:65536<t∨o=true
   ·have hq:=hid' (hR.out.symm.trans (Vm.run_out c (Vm.env F day) (a':Int) f' r (st:=⟨H,O,s,o⟩) (by rw[←HT.out]; exact hover)))
    rw[←HT.out] at hq
    have f8:=frozen_of (o:=8) HL3.out.m.box
    have HLO:=hid' (LSt.setOver HL3.out true)
    simp only at HLO
    by_cases h1:65536<t
    ·have g1:decide ((65536:Int)<(t:Int))=true:=decide_eq_true (by omega)
     have g1n:decide (65536<t)=true:=decide_eq_true h1
     clear hover h1
     go_wp2_with fail
     refine bodyPost_end (results_none rfl _ _ _) rfl ⟨⟨_,rfl⟩,⟨vh',vo',?_⟩,HLO.out.kp⟩
     rw[hq.out]
     exact HLO.out.m
    ·obtain rfl:o=true:=hover.resolve_left h1
     have g1:decide ((65536:Int)<(t:Int))=false:=decide_eq_false (by omega)
     have g1n:decide (65536<t)=false:=decide_eq_false h1
     clear hover h1
     go_wp2_with fail
     refine bodyPost_end (results_none rfl _ _ _) rfl ⟨⟨_,rfl⟩,⟨vh',vo',?_⟩,HLO.out.kp⟩
     rw[hq.out]
     exact HLO.out.m
   ·obtain rfl:o=false:=by
     cases o with
     |false=>rfl
     |true=>exact absurd (.inr rfl) hover
    have ht65:t≤65536:=by rcases Nat.lt_or_ge 65536 t with h|h; exact absurd (.inl h) hover; exact h
    have g1:decide ((65536:Int)<(t:Int))=false:=decide_eq_false (by omega)
    have g1n:decide (65536<t)=false:=decide_eq_false (by omega)
    have HACT:=hid' (hR.out.symm.trans (Vm.run_in c (Vm.env F day) HX.out f' r (H:=H) (O:=O) (s:=s) (by rw[←HT.out]; exact ht65)))
    rw[←HT.out] at HACT
    have HLEN:Hid (H.length<t∧O.length<t∧t≤65536∧H.length≤250):=hid' (by
     have h1:=HST.out.holds
     have h2:=HST.out.out
     have h3:=(HST.out.fine rfl).2
     have h4:=HT.out
     simp only at h1 h2 h3
     omega)
    have HA2:=HA.out
    have va:IntKind.i64.wrap ((a':Int)+1)=(a':Int)+1:=IntWalk.i64_in _ (by have:=(zbl HE.out.rt).2.2.2.1; omega)
    have HN:Hid (Vm.StOk ⟨H,O,t,false⟩):=hid' ⟨by have:=HLEN.out; simp only; omega,by have:=HLEN.out; simp only; omega,by have:=HLEN.out; simp only; omega,fun _=>by have:=HLEN.out; simp only; omega⟩
    clear hover ht65 hR HST HA2
    go_upto_region 6 with(fail)
    clear q7 q8 g1 g1n va j1 j2
    obtain⟨xo,xa,xb2,xc,xn,xs,xt⟩:=x
    have hfwd:=HF.out
    have z0:=zaa HXB3.out 0 _ rfl
    have z1:=zaa HXB3.out 1 _ rfl
    have z2:=zaa HXB3.out 2 _ rfl
    have z4:=zaa HXB3.out 4 _ rfl
    have z5:=zaa HXB3.out 5 _ rfl
    have z6:=zaa HXB3.out 6 _ rfl
    simp only at z0 z1 z2 z4 z5 z6
    have ra:=hfwd.ra
    have rb:=hfwd.rb
    have rc:=hfwd.rc
    simp only at ra rb rc
    obtain⟨ra0,ra1⟩:=ra
    obtain⟨rb0,rb1⟩:=rb
    have cb:=HL3.out.rb.cell rb0 rb1
    have ca:=HL3.out.rb.cell ra0 ra1
    have fa:=frozen_of (o:=xa.toNat) HL3.out.rb.2
    have wa:IntKind.i64.wrap ((a':Int)+1)=(a':Int)+1:=IntWalk.i64_in _ (by have:=(zbl HE.out.rt).2.2.2.1; have:=HA.out; omega)
    have hmore:=hid' hfwd.more
    have hgo:=hid' hfwd.go
    have hcall:=hid' hfwd.call
    have hwait:=hid' hfwd.wait
    have hnow:=hid' hfwd.now
    have hlo:=hfwd.lo
    have hhi:=hfwd.hi
    simp only at hmore hgo hcall hwait hnow hlo hhi
    clear hfwd
    by_cases h30:xo=30
    ·subst h30
     as_aux_lemma=>
      have hq:=hid' (show R=⟨H,O,t,false⟩ from HACT.out)
      go_wp2_with fail
      refine bodyPost_end (results_none rfl _ _ _) rfl ⟨⟨_,rfl⟩,⟨vh',vo',?_⟩,HL3.out.kp⟩
      rw[hq.out]
      exact HL3.out.m
    by_cases h1:xo=1
    ·subst h1
     as_aux_lemma=>
      have hq:=hid' (show R=Vm.run c (Vm.env F day) ((a'+1:Nat):Int) (f') (Vm.setReg r xa xn) ⟨H,O,t,false⟩ from HACT.out)
      have HL4:=hid' (HL3.out.setReg HRG.out xa xn)
      clear hlo hhi
      go_wp2_with fail
      go_roundw
      case rel=>exact⟨a'+1,f',Vm.setReg r xa xn,⟨H,O,t,false⟩,vh',vo',by first|rfl|go_num,rfl,⟨by have:=HA.out; omega,by have:=hmore.out (by decide); omega⟩,hid' hq.out.symm,HN,HL4⟩
      case measure=>have:=hmore.out (by decide); simp[intOf]; omega
    by_cases h25:xo=25
    ·subst h25
     as_aux_lemma=>
      have hq:=hid' (show R=Vm.run c (Vm.env F day) ((a'+1:Nat):Int) (f') (Vm.setReg r xa f') ⟨H,O,t,false⟩ from HACT.out)
      have HL4:=hid' (HL3.out.setReg HRG.out xa f')
      clear hlo hhi
      go_wp2_with fail
      go_roundw
      case rel=>exact⟨a'+1,f',Vm.setReg r xa f',⟨H,O,t,false⟩,vh',vo',by first|rfl|go_num,rfl,⟨by have:=HA.out; omega,by have:=hmore.out (by decide); omega⟩,hid' hq.out.symm,HN,HL4⟩
      case measure=>have:=hmore.out (by decide); simp[intOf]; omega
    by_cases h24:xo=24
    ·subst h24
     as_aux_lemma=>
      have hq:=hid' (show R=Vm.run c (Vm.env F day) ((a'+1:Nat):Int) (Num.neg f') (r) ⟨H,O,t,false⟩ from HACT.out)
      have HC:=hid' (fun W=>zpw f' W)
      clear hlo hhi
      go_wp2_with (first|(go_at_call 63; refine(HC.out _).mono ?_; rintro e w4 ⟨rfl,rfl⟩))
      go_roundw
      case rel=>exact⟨a'+1,Num.neg f',r,⟨H,O,t,false⟩,vh',vo',by first|rfl|go_num,rfl,⟨by have:=HA.out; omega,by have:=hmore.out (by decide); omega⟩,hid' hq.out.symm,HN,HL3⟩
      case measure=>have:=hmore.out (by decide); simp[intOf]; omega
    by_cases h26:xo=26
    ·subst h26
     as_aux_lemma=>
      have hq:=hid' (show R=Vm.run c (Vm.env F day) ((a'+1:Nat):Int) (Num.clamp (Vm.reg r xb2)) (r) ⟨H,O,t,false⟩ from HACT.out)
      have HC:=hid' (fun W=>zcg (Vm.reg r xb2) W)
      clear hlo hhi
      go_wp2_with (first|(go_at_call 36; refine(HC.out _).mono ?_; rintro e w4 ⟨rfl,rfl⟩))
      go_roundw
      case rel=>exact⟨a'+1,Num.clamp (Vm.reg r xb2),r,⟨H,O,t,false⟩,vh',vo',by first|rfl|go_num,rfl,⟨by have:=HA.out; omega,by have:=hmore.out (by decide); omega⟩,hid' hq.out.symm,HN,HL3⟩
      case measure=>have:=hmore.out (by decide); simp[intOf]; omega
    by_cases h23:xo=23
    ·subst h23
     as_aux_lemma=>
      have hq:=hid' (show R=Vm.run c (Vm.env F day) ((a'+1:Nat):Int) (Num.mul f' (Vm.reg r xb2)) (r) ⟨H,O,t,false⟩ from HACT.out)
      have HC:=hid' (fun W=>zpx f' (Vm.reg r xb2) W)
      clear hlo hhi
      go_wp2_with (first|(go_at_call 62; refine(HC.out _).mono ?_; rintro e w4 ⟨rfl,nd,rfl⟩))
      go_roundw
      case rel=>exact⟨a'+1,Num.mul f' (Vm.reg r xb2),r,⟨H,O,t,false⟩,vh',vo',by first|rfl|go_num,rfl,⟨by have:=HA.out; omega,by have:=hmore.out (by decide); omega⟩,hid' hq.out.symm,HN,hid' (HL3.out.below (Below.drewn (Below.refl _ _) nd))⟩
      case measure=>have:=hmore.out (by decide); simp[intOf]; omega
    by_cases h3:xo=3
    ·subst h3
     as_aux_lemma=>
      have hq:=hid' (show R=Vm.run c (Vm.env F day) ((a'+1:Nat):Int) f' (Vm.setReg r xa (Dt.plus day (-xn))) ⟨H,O,t,false⟩ from HACT.out)
      have hn:=hnow.out (.inr rfl)
      have vn:IntKind.i64.wrap (-xn) = -xn:=IntWalk.i64_in _ (by omega)
      have HC:=hid' (fun W=>zml day (-xn) W)
      have HK:=hid' (fun (W:World) (b:Below w3.heap.size w3 W)=>And.intro (zaa (zad b HXB3.out) 1 _ rfl) (And.intro (zaa (HL3.out.below b).m.box 3 _ rfl) (And.intro (zaa (zad b HXB3.out) 4 _ rfl) (trivial))))
      clear hlo hhi hn
      go_upto_region 12 with(fail)
      have hbx:=(Below.refl w3.heap.size w3).drew
      refine zew (fun w'=>Below w3.heap.size w3 w') 11 (by kernel_rfl) (by kernel_rfl) hbx ?_
      simp only[List.take_succ_cons,List.take_zero,List.drop_succ_cons,List.drop_zero]
      repeat (first
       |(refine zaq ?_ ?_
         ·rfl
         simp only[Act.put,List.setIfInBounds_toArray,List.set_cons_zero,List.set_cons_succ])
       |(apply zal 59 #[.int .i64 day,.int .i64 (-xn)]
         ·rfl
         ·(intro w hSw; obtain⟨c1,cd,c4, -⟩:=HK.out w hSw; go_simp; done)
         ·(intro w hSw; exact(HC.out w).mono fun e w'' h=>⟨h.1,by rw[h.2]; exact hSw⟩)
         simp only[Act.put,List.setIfInBounds_toArray,List.set_cons_zero,List.set_cons_succ])
       |(apply zar
         ·rfl
         ·(intro w hSw; obtain⟨c1,cd,c4, -⟩:=HK.out w hSw; first|(go_simp; done)|(go_simp; with_reducible rfl))
         simp only[Act.put,List.setIfInBounds_toArray,List.set_cons_zero,List.set_cons_succ]))
      refine zas ?_
      intro w4 hS'
      have HL4:=hid' ((HL3.out.below hS').setReg HRG.out xa (Dt.plus day (-xn)))
      have ca4:=(HL3.out.below hS').rb.cell ra0 ra1
      have fa4:=frozen_of (o:=xa.toNat) (HL3.out.below hS').rb.2
      clear z0 z1 z2 z4 z5 z6 cb ca fa vn
      go_wp2_with fail
      go_roundw
      case rel=>exact⟨a'+1,f',Vm.setReg r xa (Dt.plus day (-xn)),⟨H,O,t,false⟩,vh',vo',by first|rfl|go_num,rfl,⟨by have:=HA.out; omega,by have:=hmore.out (by decide); omega⟩,hid' hq.out.symm,HN,HL4⟩
      case measure=>have:=hmore.out (by decide); simp[intOf]; omega
    by_cases h2:xo=2
    ·subst h2
     as_aux_lemma=>
      have hn:=hnow.out (.inl rfl)
      have hg:=hgo.out rfl
      have HC:=hid' (qdh mb F HE.out.ok day xn xs HE.out.day hn vf w3 (zaa HL3.out.m.box 3 _ rfl) (zaa HL3.out.m.box 4 _ rfl) (HE.out.fs.below (HL3.out.m.bel.mono HE.out.mb)))
      have HG:=hid' hg
      clear hlo hhi hn hg
      cases hf:Fd.tells F day xs xn with
      |none=>
       have hq:=hid' (show R=Vm.run c (Vm.env F day) xt f' r ⟨H,O,t,false⟩ by
        have h:=HACT.out
        rw[Vm.act2_none rfl (show(Vm.env F day).feed xs xn=none from hf)] at h
        exact h)
       rw[hf,ztn] at HC
       clear hf
       go_wp2_with (first|(go_at_call 60; refine HC.out.mono ?_; rintro e w4 ⟨rfl,b4⟩; have HL4:=hid' (HL3.out.below b4); replace z6:=zan b4 _ _ z6))
       obtain⟨u,hu⟩:∃ u:Nat,(u:Int)=xt:=⟨xt.toNat,by have:=HG.out; omega⟩
       subst hu
       go_roundw
       case rel=>exact⟨u,f',r,⟨H,O,t,false⟩,vh',vo',rfl,rfl,⟨by have:=HA.out; have:=HG.out; omega,by have:=HG.out; omega⟩,hid' hq.out.symm,HN,HL4⟩
       case measure=>have:=HG.out; simp[intOf]; omega
      |some n=>
       have hq:=hid' (show R=Vm.run c (Vm.env F day) ((a'+1:Nat):Int) f' (Vm.setReg r xa n) ⟨H,O,t,false⟩ by
        have h:=HACT.out
        rw[Vm.act2_some rfl (show(Vm.env F day).feed xs xn=some n from hf)] at h
        exact h)
       rw[hf,ztm] at HC
       clear hf
       go_wp2_with (first|(go_at_call 60; refine HC.out.mono ?_; rintro e w4 ⟨rfl,b4⟩; have HL4:=hid' ((HL3.out.below b4).setReg HRG.out xa n); replace z1:=zan b4 _ _ z1; replace ca:=(HL3.out.below b4).rb.cell ra0 ra1; replace fa:=frozen_of (o:=xa.toNat) (HL3.out.below b4).rb.2))
       go_roundw
       case rel=>exact⟨a'+1,f',Vm.setReg r xa n,⟨H,O,t,false⟩,vh',vo',by first|rfl|go_num,rfl,⟨by have:=HA.out; omega,by have:=hmore.out (by decide); omega⟩,hid' hq.out.symm,HN,HL4⟩
       case measure=>have:=hmore.out (by decide); simp[intOf]; omega
    by_cases h20:xo=20
    ·subst h20
     as_aux_lemma=>
      have hg:=hgo.out rfl
      obtain⟨jb,hj⟩:∃ jb,Vm.jumps (Vm.env F day) ⟨20,xa,xb2,xc,xn,xs,xt⟩ (Vm.reg r xb2)=jb:=⟨_,rfl⟩
      have hq:=hid' (show R=Vm.run c (Vm.env F day) (if jb=true then xt else((a'+1:Nat):Int)) f' r ⟨H,O,t,false⟩ by
       have h:=HACT.out
       rw[Vm.act_jump (by simp) hj] at h
       exact h)
      have HC:=hid' (fun (W:World) (b:Below w3.heap.size w3 W)=>zjg mb ⟨20,xa,xb2,xc,xn,xs,xt⟩ F day (Vm.reg r xb2) W (zaa (HL3.out.below b).m.box 3 _ rfl) (by simp))
      rw[hj] at HC
      have HG:=hid' hg
      have HK:=hid' (fun (W:World) (b:Below w3.heap.size w3 W)=>And.intro (zaa (zad b HXB3.out) 0 _ rfl) (And.intro (zaa (zad b HXB3.out) 1 _ rfl) (And.intro (zaa (zad b HXB3.out) 2 _ rfl) (And.intro (zaa (zad b HXB3.out) 3 _ rfl) (And.intro (zaa (zad b HXB3.out) 4 _ rfl) (And.intro (zaa (zad b HXB3.out) 5 _ rfl) (And.intro (zaa (zad b HXB3.out) 6 _ rfl) (And.intro ((HL3.out.below b).rb.cell rb0 rb1) (trivial)))))))))
      clear hlo hhi hg hj
      go_upto_region 22 with(fail)
      have hbx:=(Below.refl w3.heap.size w3).drew
      refine zam (fun w'=>Below w3.heap.size w3 w') (by kernel_rfl) (by kernel_rfl) hbx ?_
      repeat (first
       |(refine zaq ?_ ?_
         ·rfl
         simp only[Act.put,List.setIfInBounds_toArray,List.set_cons_zero,List.set_cons_succ])
       |(apply zal 61 #[.pointer (some ⟨mb,0,none⟩),.agg #[.int .i64 20,.int .i64 xa,.int .i64 xb2,.int .i64 xc,.int .i64 xn,.string xs,.int .i64 xt],.int .i64 (Vm.reg r xb2)]
         ·rfl
         ·(intro w hSw; obtain⟨c0,c1,c2,c3,c4,c5,c6,cb, -⟩:=HK.out w hSw; go_simp; done)
         ·(intro w hSw; exact(HC.out w hSw).mono fun e w'' h=>⟨h.1,Below.more hSw h.2⟩)
         simp only[Act.put,List.setIfInBounds_toArray,List.set_cons_zero,List.set_cons_succ])
       |(apply zar
         ·rfl
         ·(intro w hSw; obtain⟨c0,c1,c2,c3,c4,c5,c6,cb, -⟩:=HK.out w hSw; first|(go_simp; done)|(go_simp; with_reducible rfl))
         simp only[Act.put,List.setIfInBounds_toArray,List.set_cons_zero,List.set_cons_succ]))
      refine zas ?_
      intro w4 hS'
      have HL4:=hid' (HL3.out.below hS')
      have z6':=zaa (zad hS' HXB3.out) 6 _ rfl
      clear z0 z1 z2 z4 z5 z6 cb ca fa
      cases jb with
      |true=>
       go_wp2_with fail
       obtain⟨u,hu⟩:∃ u:Nat,(u:Int)=xt:=⟨xt.toNat,by have:=HG.out; omega⟩
       subst hu
       go_roundw
       case rel=>exact⟨u,f',r,⟨H,O,t,false⟩,vh',vo',rfl,rfl,⟨by have:=HA.out; have:=HG.out; omega,by have:=HG.out; omega⟩,hid' hq.out.symm,HN,HL4⟩
       case measure=>have:=HG.out; simp[intOf]; omega
      |false=>
       go_wp2_with fail
       go_roundw
       case rel=>exact⟨a'+1,f',r,⟨H,O,t,false⟩,vh',vo',by first|rfl|go_num,rfl,⟨by have:=HA.out; omega,by have:=hmore.out (by decide); omega⟩,hid' hq.out.symm,HN,HL4⟩
       case measure=>have:=hmore.out (by decide); simp[intOf]; omega
    by_cases h19:xo=19
    ·subst h19
     as_aux_lemma=>
      have hg:=hgo.out rfl
      obtain⟨jb,hj⟩:∃ jb,Vm.jumps (Vm.env F day) ⟨19,xa,xb2,xc,xn,xs,xt⟩ (Vm.reg r xb2)=jb:=⟨_,rfl⟩
      have hq:=hid' (show R=Vm.run c (Vm.env F day) (if jb=true then xt else((a'+1:Nat):Int)) f' r ⟨H,O,t,false⟩ by
       have h:=HACT.out
       rw[Vm.act_jump (by simp) hj] at h
       exact h)
      have HC:=hid' (fun (W:World) (b:Below w3.heap.size w3 W)=>zjg mb ⟨19,xa,xb2,xc,xn,xs,xt⟩ F day (Vm.reg r xb2) W (zaa (HL3.out.below b).m.box 3 _ rfl) (by simp))
      rw[hj] at HC
      have HG:=hid' hg
      have HK:=hid' (fun (W:World) (b:Below w3.heap.size w3 W)=>And.intro (zaa (zad b HXB3.out) 0 _ rfl) (And.intro (zaa (zad b HXB3.out) 1 _ rfl) (And.intro (zaa (zad b HXB3.out) 2 _ rfl) (And.intro (zaa (zad b HXB3.out) 3 _ rfl) (And.intro (zaa (zad b HXB3.out) 4 _ rfl) (And.intro (zaa (zad b HXB3.out) 5 _ rfl) (And.intro (zaa (zad b HXB3.out) 6 _ rfl) (And.intro ((HL3.out.below b).rb.cell rb0 rb1) (trivial)))))))))
      clear hlo hhi hg hj
      go_upto_region 22 with(fail)
      have hbx:=(Below.refl w3.heap.size w3).drew
      refine zam (fun w'=>Below w3.heap.size w3 w') (by kernel_rfl) (by kernel_rfl) hbx ?_
      repeat (first
       |(refine zaq ?_ ?_
         ·rfl
         simp only[Act.put,List.setIfInBounds_toArray,List.set_cons_zero,List.set_cons_succ])
       |(apply zal 61 #[.pointer (some ⟨mb,0,none⟩),.agg #[.int .i64 19,.int .i64 xa,.int .i64 xb2,.int .i64 xc,.int .i64 xn,.string xs,.int .i64 xt],.int .i64 (Vm.reg r xb2)]
         ·rfl
         ·(intro w hSw; obtain⟨c0,c1,c2,c3,c4,c5,c6,cb, -⟩:=HK.out w hSw; go_simp; done)
         ·(intro w hSw; exact(HC.out w hSw).mono fun e w'' h=>⟨h.1,Below.more hSw h.2⟩)
         simp only[Act.put,List.setIfInBounds_toArray,List.set_cons_zero,List.set_cons_succ])
       |(apply zar
         ·rfl
         ·(intro w hSw; obtain⟨c0,c1,c2,c3,c4,c5,c6,cb, -⟩:=HK.out w hSw; first|(go_simp; done)|(go_simp; with_reducible rfl))
         simp only[Act.put,List.setIfInBounds_toArray,List.set_cons_zero,List.set_cons_succ]))
      refine zas ?_
      intro w4 hS'
      have HL4:=hid' (HL3.out.below hS')
      have z6':=zaa (zad hS' HXB3.out) 6 _ rfl
      clear z0 z1 z2 z4 z5 z6 cb ca fa
      cases jb with
      |true=>
       go_wp2_with fail
       obtain⟨u,hu⟩:∃ u:Nat,(u:Int)=xt:=⟨xt.toNat,by have:=HG.out; omega⟩
       subst hu
       go_roundw
       case rel=>exact⟨u,f',r,⟨H,O,t,false⟩,vh',vo',rfl,rfl,⟨by have:=HA.out; have:=HG.out; omega,by have:=HG.out; omega⟩,hid' hq.out.symm,HN,HL4⟩
       case measure=>have:=HG.out; simp[intOf]; omega
      |false=>
       go_wp2_with fail
       go_roundw
       case rel=>exact⟨a'+1,f',r,⟨H,O,t,false⟩,vh',vo',by first|rfl|go_num,rfl,⟨by have:=HA.out; omega,by have:=hmore.out (by decide); omega⟩,hid' hq.out.symm,HN,HL4⟩
       case measure=>have:=hmore.out (by decide); simp[intOf]; omega
    by_cases h21:xo=21
    ·subst h21
     as_aux_lemma=>
      have hg:=hgo.out rfl
      obtain⟨jb,hj⟩:∃ jb,Vm.jumps (Vm.env F day) ⟨21,xa,xb2,xc,xn,xs,xt⟩ (Vm.reg r xb2)=jb:=⟨_,rfl⟩
      have hq:=hid' (show R=Vm.run c (Vm.env F day) (if jb=true then xt else((a'+1:Nat):Int)) f' r ⟨H,O,t,false⟩ by
       have h:=HACT.out
       rw[Vm.act_jump (by simp) hj] at h
       exact h)
      have HC:=hid' (fun (W:World) (b:Below w3.heap.size w3 W)=>zjg mb ⟨21,xa,xb2,xc,xn,xs,xt⟩ F day (Vm.reg r xb2) W (zaa (HL3.out.below b).m.box 3 _ rfl) (by simp))
      rw[hj] at HC
      have HG:=hid' hg
      have HK:=hid' (fun (W:World) (b:Below w3.heap.size w3 W)=>And.intro (zaa (zad b HXB3.out) 0 _ rfl) (And.intro (zaa (zad b HXB3.out) 1 _ rfl) (And.intro (zaa (zad b HXB3.out) 2 _ rfl) (And.intro (zaa (zad b HXB3.out) 3 _ rfl) (And.intro (zaa (zad b HXB3.out) 4 _ rfl) (And.intro (zaa (zad b HXB3.out) 5 _ rfl) (And.intro (zaa (zad b HXB3.out) 6 _ rfl) (And.intro ((HL3.out.below b).rb.cell rb0 rb1) (trivial)))))))))
      clear hlo hhi hg hj
      go_upto_region 22 with(fail)
      have hbx:=(Below.refl w3.heap.size w3).drew
      refine zam (fun w'=>Below w3.heap.size w3 w') (by kernel_rfl) (by kernel_rfl) hbx ?_
      repeat (first
       |(refine zaq ?_ ?_
         ·rfl
         simp only[Act.put,List.setIfInBounds_toArray,List.set_cons_zero,List.set_cons_succ])
       |(apply zal 61 #[.pointer (some ⟨mb,0,none⟩),.agg #[.int .i64 21,.int .i64 xa,.int .i64 xb2,.int .i64 xc,.int .i64 xn,.string xs,.int .i64 xt],.int .i64 (Vm.reg r xb2)]
         ·rfl
         ·(intro w hSw; obtain⟨c0,c1,c2,c3,c4,c5,c6,cb, -⟩:=HK.out w hSw; go_simp; done)
         ·(intro w hSw; exact(HC.out w hSw).mono fun e w'' h=>⟨h.1,Below.more hSw h.2⟩)
         simp only[Act.put,List.setIfInBounds_toArray,List.set_cons_zero,List.set_cons_succ])
       |(apply zar
         ·rfl
         ·(intro w hSw; obtain⟨c0,c1,c2,c3,c4,c5,c6,cb, -⟩:=HK.out w hSw; first|(go_simp; done)|(go_simp; with_reducible rfl))
         simp only[Act.put,List.setIfInBounds_toArray,List.set_cons_zero,List.set_cons_succ]))
      refine zas ?_
      intro w4 hS'
      have HL4:=hid' (HL3.out.below hS')
      have z6':=zaa (zad hS' HXB3.out) 6 _ rfl
      clear z0 z1 z2 z4 z5 z6 cb ca fa
      cases jb with
      |true=>
       go_wp2_with fail
       obtain⟨u,hu⟩:∃ u:Nat,(u:Int)=xt:=⟨xt.toNat,by have:=HG.out; omega⟩
       subst hu
       go_roundw
       case rel=>exact⟨u,f',r,⟨H,O,t,false⟩,vh',vo',rfl,rfl,⟨by have:=HA.out; have:=HG.out; omega,by have:=HG.out; omega⟩,hid' hq.out.symm,HN,HL4⟩
       case measure=>have:=HG.out; simp[intOf]; omega
      |false=>
       go_wp2_with fail
       go_roundw
       case rel=>exact⟨a'+1,f',r,⟨H,O,t,false⟩,vh',vo',by first|rfl|go_num,rfl,⟨by have:=HA.out; omega,by have:=hmore.out (by decide); omega⟩,hid' hq.out.symm,HN,HL4⟩
       case measure=>have:=hmore.out (by decide); simp[intOf]; omega
    by_cases h22:xo=22
    ·subst h22
     as_aux_lemma=>
      have hg:=hgo.out rfl
      obtain⟨jb,hj⟩:∃ jb,Vm.jumps (Vm.env F day) ⟨22,xa,xb2,xc,xn,xs,xt⟩ (Vm.reg r xb2)=jb:=⟨_,rfl⟩
      have hq:=hid' (show R=Vm.run c (Vm.env F day) (if jb=true then xt else((a'+1:Nat):Int)) f' r ⟨H,O,t,false⟩ by
       have h:=HACT.out
       rw[Vm.act_jump (by simp) hj] at h
       exact h)
      have HC:=hid' (fun (W:World) (b:Below w3.heap.size w3 W)=>zjg mb ⟨22,xa,xb2,xc,xn,xs,xt⟩ F day (Vm.reg r xb2) W (zaa (HL3.out.below b).m.box 3 _ rfl) (by simp))
      rw[hj] at HC
      have HG:=hid' hg
      have HK:=hid' (fun (W:World) (b:Below w3.heap.size w3 W)=>And.intro (zaa (zad b HXB3.out) 0 _ rfl) (And.intro (zaa (zad b HXB3.out) 1 _ rfl) (And.intro (zaa (zad b HXB3.out) 2 _ rfl) (And.intro (zaa (zad b HXB3.out) 3 _ rfl) (And.intro (zaa (zad b HXB3.out) 4 _ rfl) (And.intro (zaa (zad b HXB3.out) 5 _ rfl) (And.intro (zaa (zad b HXB3.out) 6 _ rfl) (And.intro ((HL3.out.below b).rb.cell rb0 rb1) (trivial)))))))))
      clear hlo hhi hg hj
      go_upto_region 22 with(fail)
      have hbx:=(Below.refl w3.heap.size w3).drew
      refine zam (fun w'=>Below w3.heap.size w3 w') (by kernel_rfl) (by kernel_rfl) hbx ?_
      repeat (first
       |(refine zaq ?_ ?_
         ·rfl
         simp only[Act.put,List.setIfInBounds_toArray,List.set_cons_zero,List.set_cons_succ])
       |(apply zal 61 #[.pointer (some ⟨mb,0,none⟩),.agg #[.int .i64 22,.int .i64 xa,.int .i64 xb2,.int .i64 xc,.int .i64 xn,.string xs,.int .i64 xt],.int .i64 (Vm.reg r xb2)]
         ·rfl
         ·(intro w hSw; obtain⟨c0,c1,c2,c3,c4,c5,c6,cb, -⟩:=HK.out w hSw; go_simp; done)
         ·(intro w hSw; exact(HC.out w hSw).mono fun e w'' h=>⟨h.1,Below.more hSw h.2⟩)
         simp only[Act.put,List.setIfInBounds_toArray,List.set_cons_zero,List.set_cons_succ])
       |(apply zar
         ·rfl
         ·(intro w hSw; obtain⟨c0,c1,c2,c3,c4,c5,c6,cb, -⟩:=HK.out w hSw; first|(go_simp; done)|(go_simp; with_reducible rfl))
         simp only[Act.put,List.setIfInBounds_toArray,List.set_cons_zero,List.set_cons_succ]))
      refine zas ?_
      intro w4 hS'
      have HL4:=hid' (HL3.out.below hS')
      have z6':=zaa (zad hS' HXB3.out) 6 _ rfl
      clear z0 z1 z2 z4 z5 z6 cb ca fa
      cases jb with
      |true=>
       go_wp2_with fail
       obtain⟨u,hu⟩:∃ u:Nat,(u:Int)=xt:=⟨xt.toNat,by have:=HG.out; omega⟩
       subst hu
       go_roundw
       case rel=>exact⟨u,f',r,⟨H,O,t,false⟩,vh',vo',rfl,rfl,⟨by have:=HA.out; have:=HG.out; omega,by have:=HG.out; omega⟩,hid' hq.out.symm,HN,HL4⟩
       case measure=>have:=HG.out; simp[intOf]; omega
      |false=>
       go_wp2_with fail
       go_roundw
       case rel=>exact⟨a'+1,f',r,⟨H,O,t,false⟩,vh',vo',by first|rfl|go_num,rfl,⟨by have:=HA.out; omega,by have:=hmore.out (by decide); omega⟩,hid' hq.out.symm,HN,HL4⟩
       case measure=>have:=hmore.out (by decide); simp[intOf]; omega
    by_cases h27:xo=27
    ·subst h27
     clear hlo hhi
     by_cases hf:f'=0
     ·have hq:=hid' (show R=Vm.run c (Vm.env F day) ((a'+1:Nat):Int) f' r ⟨H,O,t,false⟩ by
       have h:=HACT.out
       rw[Vm.act_pay0 rfl hf] at h
       exact h)
      have g0:(f' != 0)=false:=by rw[hf]; rfl
      have g0':(f' == 0)=true:=by rw[hf]; rfl
      clear hf
      go_wp2_with fail
      go_roundw
      case rel=>exact⟨a'+1,f',r,⟨H,O,t,false⟩,vh',vo',by first|rfl|go_num,rfl,⟨by have:=HA.out; omega,by have:=hmore.out (by decide); omega⟩,hid' hq.out.symm,HN,HL3⟩
      case measure=>have:=hmore.out (by decide); simp[intOf]; omega
     ·have hq:=hid' (show R=Vm.run c (Vm.env F day) ((a'+1:Nat):Int) f' r ⟨H,O++[(xs,f')],t,false⟩ by
       have h:=HACT.out
       rw[Vm.act_pay rfl hf] at h
       exact h)
      have g0:(f' != 0)=true:=by rw[bne_iff_ne]; exact hf
      have g0':(f' == 0)=false:=by rw[beq_eq_false_iff_ne]; exact hf
      have HN2:Hid (Vm.StOk ⟨H,O++[(xs,f')],t,false⟩):=hid' ⟨by have:=HLEN.out; simp only; omega,by have:=HLEN.out; simp only[List.length_append,List.length_cons,List.length_nil]; omega,by have:=HLEN.out; simp only; omega,fun _=>by have:=HLEN.out; simp only; omega⟩
      clear hf
      go_upto_region 34 with(fail)
      have r3:=zaa HL3.out.m.box 3 _ rfl
      have r6:=zaa HL3.out.m.box 6 _ rfl
      have r3':=zcl r3 (.cells #[.int .i64 day,.string xs,.int .i64 f'] 59)
      have r6':=zcl r6 (.cells #[.int .i64 day,.string xs,.int .i64 f'] 59)
      have z5':=zcl z5 (.cells #[.int .i64 day,.string xs,.int .i64 f'] 59)
      have HTS:Hid (TranRow (mb+1) w3.drew vo' day O):=hid' (World.ownsRow.drew HL3.out.m.ts)
      have HLD:=hid' (HL3.out.below (Below.refl w3.heap.size w3).drew)
      have HLO:=hid' (show O.length+1≤1000000 by have:=HLEN.out; omega)
      have HMB:=hid' (show mb+1≤w3.drew.heap.size from HLD.out.m.lt)
      go_region_law (first|(refine zxz rfl _ _ (by rfl) (mb+1) vo' day O (by rfl) HTS.out (xs,f') (by rfl) HLO.out HMB.out ?_; intro v' w5 h5 h6; have hk5:=(h6.block mb HLD.out.m.lt (fun e=>zes HTS.out (Nat.lt_succ_self _) e.symm)).trans HLD.out.m.box; have hkc:=zaa hk5 6 _ rfl; have hkf:=frozen_of (o:=6) hk5; obtain⟨hp,hc',rfl⟩:=zay h5))
      all_goals have HL5:=hid' (LSt.pushTran HLD.out (y:=(xs,f')) h5 h6)
      all_goals simp only[List.length_append,List.length_cons,List.length_nil,Nat.zero_add] at HL5
      all_goals clear h5 h6 r3 r6 r3' r6' z5' hk5 z0 z1 z2 z4 z5 z6 cb ca fa
      all_goals go_wp2_with fail
      all_goals
       go_roundw
       case rel=>exact⟨a'+1,f',r,⟨H,O++[(xs,f')],t,false⟩,vh',_,by first|rfl|go_num,rfl,⟨by have:=HA.out; omega,by have:=hmore.out (by decide); omega⟩,hid' hq.out.symm,HN2,HL5⟩
       case measure=>have:=hmore.out (by decide); simp[intOf]; omega
    by_cases h28:xo=28
    ·subst h28
     clear hlo hhi
     obtain⟨ob,hob⟩:∃ ob,decide (250<H.length+1)=ob:=⟨_,rfl⟩
     have hq:=hid' (show R=Vm.run c (Vm.env F day) ((a'+1:Nat):Int) f' r ⟨H++[(xn,f')],O,t,ob⟩ by rw[←hob]; exact HACT.out)
     have HN2:Hid (Vm.StOk ⟨H++[(xn,f')],O,t,ob⟩):=hid' ⟨by have:=HLEN.out; simp only[List.length_append,List.length_cons,List.length_nil]; omega,by have:=HLEN.out; simp only; omega,by have:=HLEN.out; simp only; omega,fun ho=>by
       have:=HLEN.out
       simp only at ho
       rw[ho] at hob
       have:=of_decide_eq_false hob
       simp only[List.length_append,List.length_cons,List.length_nil]; omega⟩
     have hobI:decide ((250:Int)<((H.length+1:Nat):Int))=ob:=by rw[←hob]; by_cases h:250<H.length+1; rw[decide_eq_true h,decide_eq_true (by omega)]; rw[decide_eq_false h,decide_eq_false (by omega)]
     have hobJ:decide ((250:Int)<(H.length:Int)+1)=ob:=by rw[←hobI]; congr 1
     go_upto_region 36 with(fail)
     have r5:=zaa HL3.out.m.box 5 _ rfl
     have r5':=zcl r5 (.cells #[.int .i64 xn,.int .i64 f'] 52)
     have z4':=zcl z4 (.cells #[.int .i64 xn,.int .i64 f'] 52)
     have HTS:Hid (HoldRow (mb+1) w3.drew vh' H):=hid' (World.ownsRow.drew HL3.out.m.hs)
     have HLD:=hid' (HL3.out.below (Below.refl w3.heap.size w3).drew)
     have HLO:=hid' (show H.length+1≤1000000 by have:=HLEN.out; omega)
     have HMB:=hid' (show mb+1≤w3.drew.heap.size from HLD.out.m.lt)
     go_region_law (first|(refine zya rfl _ _ (by rfl) (mb+1) vh' H (by rfl) HTS.out (xn,f') (by rfl) HLO.out HMB.out ?_; intro v' w5 h5 h6; have hk5:=(h6.block mb HLD.out.m.lt (fun e=>zes HTS.out (Nat.lt_succ_self _) e.symm)).trans HLD.out.m.box; have hkc:=zaa hk5 5 _ rfl; have hkf:=frozen_of (o:=5) hk5; obtain⟨hp,hc',rfl⟩:=zay h5))
     all_goals have HL5:=hid' (LSt.pushHold HLD.out (y:=(xn,f')) h5 h6)
     all_goals simp only[List.length_append,List.length_cons,List.length_nil,Nat.zero_add] at HL5
     all_goals
      clear h5 h6 r5 r5' z4' hk5 z0 z1 z2 z4 z5 z6 cb ca fa hkc hkf
      generalize w5.setCell _ _=w6 at *
      have q8:=zaa HL5.out.m.box 8 _ rfl
      have q5:=zaa HL5.out.m.box 5 _ rfl
      have f8:=frozen_of (o:=8) HL5.out.m.box
      have HL6:=hid' (LSt.setOver HL5.out ob)
      simp only at HL6
      go_wp2_with fail
      go_roundw
      case rel=>exact⟨a'+1,f',r,⟨H++[(xn,f')],O,t,ob⟩,_,vo',by first|rfl|go_num,rfl,⟨by have:=HA.out; omega,by have:=hmore.out (by decide); omega⟩,hid' hq.out.symm,HN2,HL6⟩
      case measure=>have:=hmore.out (by decide); simp[intOf]; omega
    by_cases h29:xo=29
    ·subst h29
     as_aux_lemma=>
      obtain⟨hn0,hn1,he0,he1⟩:=hcall.out rfl
      obtain⟨wt,hwt⟩:∃ wt,c.waits[xn.toNat]? = some wt:=⟨_,List.getElem?_eq_getElem (by omega)⟩
      have hent:zbt c xn=wt.entry:=by unfold zbt; rw[hwt]
      obtain⟨wp,wcp,hvw, -,hwc⟩:=(show WaitsAt W0 vw c.waits from by
       obtain⟨vw',vi',e,h1,_,_⟩:=HE.out.cd
       simp only[Value.agg.injEq,Array.mk.injEq,List.cons.injEq,and_true,true_and] at e
       obtain⟨rfl,rfl⟩:=e
       exact h1)
      obtain⟨wb,wo,rfl,hwb,⟨e0, -, -, -, -⟩, -⟩:=hwc _ wt hwt
      subst hvw
      have ce0:=(HL3.out.m.bel.cell (p:=⟨wb,wo+xn.toNat * 5,none⟩) (Nat.lt_of_lt_of_le hwb HE.out.mb)).trans e0
      rw[hent] at he0 he1
      obtain⟨en,hen⟩:∃ en:Nat,(en:Int)=wt.entry:=⟨wt.entry.toNat,by omega⟩
      rw[←hen] at he0 he1 ce0
      have hq0:=hid' (show R=Vm.run c (Vm.env F day) ((a'+1:Nat):Int) f' r (Vm.run c (Vm.env F day) (en:Int) f' Vm.zeros ⟨H,O,t,false⟩) by rw[hen,←hent]; exact HACT.out)
      have hst2:=(Vm.run_ok c (Vm.env F day) HE.out.rt _ en f' Vm.zeros ⟨H,O,t,false⟩ (Nat.le_refl _) (by omega) HN.out rfl).1
      obtain⟨st2,hs2⟩:∃ st2,Vm.run c (Vm.env F day) (en:Int) f' Vm.zeros ⟨H,O,t,false⟩=st2:=⟨_,rfl⟩
      rw[hs2] at hq0 hst2
      have HST2:=hid' hst2
      have HC:=hid' (fun (W:World) (b:Below w3.heap.size w3 W)=>IH.out en f' ⟨H,O,t,false⟩ vh' vo' W (by have:=HA.out; omega) (by omega) HN.out (HL3.out.below b).m)
      rw[hs2] at HC
      have HK:=hid' (fun (W:World) (b:Below w3.heap.size w3 W)=>And.intro (zaa (HL3.out.below b).m.box 1 _ rfl) (And.intro (zaa (zad b HXB3.out) 4 _ rfl) (And.intro (zan b _ _ ce0) (trivial))))
      clear hlo hhi he0 he1 hent hwt hwc e0 hwb hs2 hst2 hen ce0
      go_upto_region 39 with(fail)
      have hbx:=(Below.refl w3.heap.size w3).drew
      refine zew (fun w'=>Below w3.heap.size w3 w') 12 (by kernel_rfl) (by kernel_rfl) hbx ?_
      simp only[List.take_succ_cons,List.take_zero,List.drop_succ_cons,List.drop_zero]
      repeat (first
       |(refine zaq ?_ ?_
         ·rfl
         simp only[Act.put,List.setIfInBounds_toArray,List.set_cons_zero,List.set_cons_succ])
       |(apply zar
         ·rfl
         ·(intro w hSw; obtain⟨cw,c4,ce, -⟩:=HK.out w hSw; first|(go_simp; done)|(go_simp; with_reducible rfl))
         simp only[Act.put,List.setIfInBounds_toArray,List.set_cons_zero,List.set_cons_succ]))
      refine zas ?_
      intro w4 hS'
      clear z0 z1 z2 z4 z5 z6 cb ca fa
      go_wp2_with (first|(go_at_call 31; refine(HC.out _ hS').mono ?_; rintro e w5 ⟨⟨re,rfl⟩,⟨vh2,vo2,hm2⟩,hkp2⟩; have HL5:=hid' (LSt.call (HL3.out.below hS') hm2 hkp2); clear hm2 hkp2))
      go_roundw
      case rel=>exact⟨a'+1,f',r,st2,vh2,vo2,by first|rfl|go_num,rfl,⟨by have:=HA.out; omega,by have:=hmore.out (by decide); omega⟩,hid' hq0.out.symm,HST2,HL5⟩
      case measure=>have:=hmore.out (by decide); simp[intOf]; omega
    as_aux_lemma=>
     have hdf:=Vm.act_default (c:=c) (E:=Vm.env F day) (x:=⟨xo,xa,xb2,xc,xn,xs,xt⟩) (a:=(a':Int)) (f:=f') (r:=r) (by simp only; omega)
     have hq:=hid' (show R=Vm.run c (Vm.env F day) ((a'+1:Nat):Int) f' (Vm.setReg r xa (Vm.rk xo (Vm.reg r xb2) (Vm.reg r xc))) ⟨H,O,t,false⟩ by
      have h:=HACT.out
      rw[hdf] at h
      exact h)
     have HC:=hid' (fun W=>zgl xo (Vm.reg r xb2) (Vm.reg r xc) W)
     generalize Vm.rk xo (Vm.reg r xb2) (Vm.reg r xc)=rv at *
     have e30:(xo == 30)=false:=by rw[beq_eq_false_iff_ne]; exact h30
     have e1:(xo == 1)=false:=by rw[beq_eq_false_iff_ne]; exact h1
     have e25:(xo == 25)=false:=by rw[beq_eq_false_iff_ne]; exact h25
     have e24:(xo == 24)=false:=by rw[beq_eq_false_iff_ne]; exact h24
     have e26:(xo == 26)=false:=by rw[beq_eq_false_iff_ne]; exact h26
     have e23:(xo == 23)=false:=by rw[beq_eq_false_iff_ne]; exact h23
     have e3:(xo == 3)=false:=by rw[beq_eq_false_iff_ne]; exact h3
     have e2:(xo == 2)=false:=by rw[beq_eq_false_iff_ne]; exact h2
     have e20:(xo == 20)=false:=by rw[beq_eq_false_iff_ne]; exact h20
     have e19:(xo == 19)=false:=by rw[beq_eq_false_iff_ne]; exact h19
     have e21:(xo == 21)=false:=by rw[beq_eq_false_iff_ne]; exact h21
     have e22:(xo == 22)=false:=by rw[beq_eq_false_iff_ne]; exact h22
     have e27:(xo == 27)=false:=by rw[beq_eq_false_iff_ne]; exact h27
     have e28:(xo == 28)=false:=by rw[beq_eq_false_iff_ne]; exact h28
     have e29:(xo == 29)=false:=by rw[beq_eq_false_iff_ne]; exact h29
     have HK:=hid' (fun (W:World) (b:Below w3.heap.size w3 W)=>And.intro (zaa (zad b HXB3.out) 0 _ rfl) (And.intro (zaa (zad b HXB3.out) 1 _ rfl) (And.intro (zaa (zad b HXB3.out) 2 _ rfl) (And.intro (zaa (zad b HXB3.out) 3 _ rfl) (And.intro ((HL3.out.below b).rb.cell rb0 rb1) (And.intro ((HL3.out.below b).rb.cell rc.1 rc.2) (trivial)))))))
     have hm1:=hid' (hmore.out h30)
     clear hlo hhi hdf h30 h1 h25 h24 h26 h23 h3 h2 h20 h19 h21 h22 h27 h28 h29
     go_upto_region 7 with(fail)
     have hbx:=(Below.refl w3.heap.size w3).drew
     refine zew (fun w'=>Below w3.heap.size w3 w') 14 (by kernel_rfl) (by kernel_rfl) hbx ?_
     simp only[List.take_succ_cons,List.take_zero,List.drop_succ_cons,List.drop_zero]
     repeat (first
      |(refine zaq ?_ ?_
        ·rfl
        simp only[Act.put,List.setIfInBounds_toArray,List.set_cons_zero,List.set_cons_succ])
      |(apply zal 64 #[.int .i64 xo,.int .i64 (Vm.reg r xb2),.int .i64 (Vm.reg r xc)]
        ·rfl
        ·(intro w hSw; obtain⟨c0,c1,c2,c3,cb,cc, -⟩:=HK.out w hSw; go_simp; done)
        ·(intro w hSw; exact(HC.out w).mono fun e w'' h=>⟨h.1,Below.more hSw h.2⟩)
        simp only[Act.put,List.setIfInBounds_toArray,List.set_cons_zero,List.set_cons_succ])
      |(apply zar
        ·rfl
        ·(intro w hSw; obtain⟨c0,c1,c2,c3,cb,cc, -⟩:=HK.out w hSw; first|(go_simp; done)|(go_simp; with_reducible rfl))
        simp only[Act.put,List.setIfInBounds_toArray,List.set_cons_zero,List.set_cons_succ]))
     refine zas ?_
     intro w4 hS'
     have HL4:=hid' ((HL3.out.below hS').setReg HRG.out xa rv)
     have ca4:=(HL3.out.below hS').rb.cell ra0 ra1
     have fa4:=frozen_of (o:=xa.toNat) (HL3.out.below hS').rb.2
     clear z0 z1 z2 z4 z5 z6 cb ca fa
     go_wp2_with fail
     go_roundw
     case rel=>exact⟨a'+1,f',Vm.setReg r xa rv,⟨H,O,t,false⟩,vh',vo',by first|rfl|go_num,rfl,⟨by have:=HA.out; omega,by have:=hm1.out; omega⟩,hid' hq.out.symm,HN,HL4⟩
     case measure=>have:=hm1.out; simp[intOf]; omega
end
section
open Go.RowKit
open Gen
open Rw
set_option maxRecDepth 100000
theorem Mach.start (W0:World)(c:Gen.Cd)(day:Int)(vw vi vf:Value):
  Mach W0 W0.heap.size c day vw vi vf Vm.st0 (.slice none 0 0) (.slice none 0 0) (W0.alloc (.cells #[.int .i64 c.regs,vw,vi,.int .i64 day,vf,.slice none 0 0,.slice none 0 0,.int .i64 0,.bool false] 82)):=
 ⟨(Below.refl _ _).alloc (Nat.le_refl _) _,heap_alloc_new _ _,World.ownsRow_nil _ _ _ _,World.ownsRow_nil _ _ _ _⟩
def qff (c:Gen.Cd)(L:List (Int × Int))(day:Int)(Fr:Bool)(pk np:Bool):Bool:=
 !((pk || np) && (Gen.right c && ((decide (0≤day) && decide (day≤73048)) && (Fr && decide (L.length≤250)))))
set_option maxHeartbeats 8000000 in
theorem qbt (c:Gen.Cd)(L:List (Int × Int))(day:Int)(F:List Fd.Feed)(lab:ByteArray)(wh:Int)(vw vi vl vf:Value)(w:World)(hc:CdAt w (.agg #[.int .i64 c.regs,vw,vi]) c)(hl:StampsAt w vl L)(hF:FeedsAt w vf F)(hlab:lab.size≤2000000):
  Calls Tryz.prog 15 #[.agg #[.int .i64 c.regs,vw,vi],vl,.int .i64 day,vf,.agg #[.string lab,.int .i64 wh]] w (zue (Vm.step c L day F lab wh) day w):=by
 have HCD:=hid' hc
 have HLS:=hid' hl
 have HFS:=hid' hF
 have HLAB:=hid' hlab
 obtain⟨wp,wk,rfl,hwl⟩:∃ wp wk,vw=.slice wp c.waits.length wk∧(c.waits.length≤wk∧wk≤maxLen):=by
  obtain⟨vw',vi',e,⟨p,cc,e2,h2,_⟩,_⟩:=hc
  simp only[Value.agg.injEq,Array.mk.injEq,List.cons.injEq,and_true,true_and] at e
  obtain⟨rfl,rfl⟩:=e
  exact⟨p,cc,e2,h2⟩
 obtain⟨ip,ic,rfl⟩:∃ ip ic,vi=.slice ip c.ins.length ic:=by
  obtain⟨vw',vi',e,_,⟨p,cc,e2,_,_⟩,_⟩:=hc
  simp only[Value.agg.injEq,Array.mk.injEq,List.cons.injEq,and_true,true_and] at e
  obtain⟨rfl,rfl⟩:=e
  exact⟨p,cc,e2⟩
 obtain⟨lp,lc,rfl,⟨hl1,hl2⟩, -⟩:=hl
 obtain⟨fp,fc,rfl, -, -⟩:=hF
 have hwn:(c.waits.length:Int)≤9223372036854775807:=by have:=hwl.2; unfold maxLen at this; omega
 have hln:(L.length:Int)≤9223372036854775807:=by unfold maxLen at hl2; omega
 obtain⟨R,hR⟩:∃ R,Hid (R=Vm.step c L day F lab wh):=⟨_,rfl⟩
 rw[←hR.out]
 clear hc hlab hwl hl1 hl2
 have B0:=((Below.refl w.heap.size w).alloc (Nat.le_refl _) (.cells #[.int .i64 c.regs,.slice wp c.waits.length wk,.slice ip c.ins.length ic] 29)).alloc (by simp) (.cells #[.string lab,.int .i64 wh] 46)
 have HB0:=hid' B0
 have HC5:=hid' (show((w.alloc (.cells #[.int .i64 c.regs,.slice wp c.waits.length wk,.slice ip c.ins.length ic] 29)).alloc (.cells #[.string lab,.int .i64 wh] 46)).heap[w.heap.size]? = some (.cells #[.int .i64 c.regs,.slice wp c.waits.length wk,.slice ip c.ins.length ic] 29 (0,0)) from(zqr w _ _).1)
 have HC9:=hid' (show((w.alloc (.cells #[.int .i64 c.regs,.slice wp c.waits.length wk,.slice ip c.ins.length ic] 29)).alloc (.cells #[.string lab,.int .i64 wh] 46)).heap[w.heap.size+1]? = some (.cells #[.string lab,.int .i64 wh] 46 (0,0)) from by
  have:=heap_alloc_new (w.alloc (.cells #[.int .i64 c.regs,.slice wp c.waits.length wk,.slice ip c.ins.length ic] 29)) (.cells #[.string lab,.int .i64 wh] 46)
  rwa [World.size_alloc] at this)
 clear B0
 go_enter Tryz.func15,Tryz.ntmps15
 go_upto_region 1 with(fail)
 obtain⟨b5,hb5⟩:∃ b5,b5=w.heap.size:=⟨_,rfl⟩
 rw[←hb5] at HC5 HC9 ⊢
 clear hb5
 generalize (w.alloc (.cells #[.int .i64 c.regs,.slice wp c.waits.length wk,.slice ip c.ins.length ic] 29)).alloc (.cells #[.string lab,.int .i64 wh] 46)=w2 at *
 have s0:=zaa HC9.out 0 _ rfl
 have s1:=zaa HC9.out 1 _ rfl
 obtain⟨pk,hpk⟩:∃ pk,Hid (pk=Vm.picksB lab wh):=⟨_,rfl⟩
 go_cut [14] (fun v wx=>v=.bool pk∧Hid (Below w2.heap.size w2 wx))
 case first=>
  have HC:=hid' (fun W=>znh lab W (by have:=HLAB.out; omega))
  have hb:=hid' (show pk=(Led.isName lab && (decide (wh=1) || decide (wh=2))) from hpk.out)
  cases hn:Led.isName lab with
  |false=>
   rw[hn] at HC hb
   have hq:=hid' (show pk=false from hb.out)
   clear hn hb
   go_wp2_with (first|(go_at_call 33; refine(HC.out _).mono ?_; rintro e w3 ⟨rfl,b3⟩))
   go_meet
   exact⟨by rw[hq.out],b3⟩
  |true=>
   rw[hn] at HC hb
   clear hn
   by_cases h1:wh=1
   ·subst h1
    have hq:=hid' (show pk=true from hb.out)
    clear hb
    go_wp2_with (first|(go_at_call 33; refine(HC.out _).mono ?_; rintro e w3 ⟨rfl,b3⟩; replace s1:=zan b3 _ _ s1))
    go_meet
    exact⟨by rw[hq.out],b3⟩
   ·have g1:(wh == 1)=false:=by rw[beq_eq_false_iff_ne]; exact h1
    by_cases h2:wh=2
    ·subst h2
     have hq:=hid' (show pk=true from hb.out)
     clear hb h1
     go_wp2_with (first|(go_at_call 33; refine(HC.out _).mono ?_; rintro e w3 ⟨rfl,b3⟩; replace s1:=zan b3 _ _ s1))
     go_meet
     exact⟨by rw[hq.out],b3⟩
    ·have g2:(wh == 2)=false:=by rw[beq_eq_false_iff_ne]; exact h2
     have hq:=hid' (show pk=false by rw[hb.out,decide_eq_false h1,decide_eq_false h2]; rfl)
     clear hb h1 h2
     go_wp2_with (first|(go_at_call 33; refine(HC.out _).mono ?_; rintro e w3 ⟨rfl,b3⟩; replace s1:=zan b3 _ _ s1))
     go_meet
     exact⟨by rw[hq.out],b3⟩
 case rest=>
  obtain⟨rfl,HB2⟩:=hcut
  have HC5':=hid' (zad HB2.out HC5.out)
  have HC9':=hid' (zad HB2.out HC9.out)
  have HBC:=hid' (Below.more HB0.out HB2.out)
  clear s0 s1 HC5 HC9 HB0 HB2
  obtain⟨w3,hw3⟩:∃ w3,w3=wc:=⟨_,rfl⟩
  subst hw3
  have s0:=zaa HC9'.out 0 _ rfl
  have s1:=zaa HC9'.out 1 _ rfl
  have d0:=zaa HC5'.out 0 _ rfl
  have d1:=zaa HC5'.out 1 _ rfl
  have d2:=zaa HC5'.out 2 _ rfl
  obtain⟨np,hnp⟩:∃ np,Hid (np=Vm.noPick lab wh):=⟨_,rfl⟩
  obtain⟨bad,hbad⟩:∃ bad,Hid (bad=qff c L day (Fd.right F) pk np):=⟨_,rfl⟩
  go_upto_region 2 with(fail)
  go_cut [59] (fun v wx=>v=.bool bad∧Hid (Below w3.heap.size w3 wx))
  case first=>
   have HR:=hid' (fun (W:World) (b:Below w3.heap.size w3 W)=>zgn (.agg #[.int .i64 c.regs,.slice wp c.waits.length wk,.slice ip c.ins.length ic]) c W ((HCD.out.below HBC.out).below b))
   have HFD:=hid' (fun (W:World) (b:Below w3.heap.size w3 W)=>zjr (.slice fp F.length fc) F W ((HFS.out.below HBC.out).below b))
   have HDY:=hid' (fun W=>zff day W)
   have hb:=hid' (show bad = !((pk || np) && (Gen.right c && ((decide (0≤day) && decide (day≤73048)) && (Fd.right F && decide (L.length≤250))))) from hbad.out)
   cases pk with
   |true=>
    cases hr:Gen.right c with
    |false=>
     rw[hr] at HR hb
     have hq:=hid' (show bad=true from hb.out)
     clear hb  hr
     go_wp2_with (first|(go_at_call 11; refine(HR.out _ (Below.refl _ _)).mono ?_; rintro e wa ⟨rfl,b3⟩; have hb3:=hid' b3; clear b3)|(go_at_call 29; refine(HDY.out _).mono ?_; rintro e wb ⟨rfl,rfl⟩)|(go_at_call 30; refine(HFD.out _ hb3.out).mono ?_; rintro e wd ⟨rfl,b5'⟩; have hb5:=hid' (Below.more hb3.out b5'); clear b5'))
     go_meet
     exact⟨by rw[hq.out],hb3⟩
    |true=>
     rw[hr] at HR hb
     clear hr
     cases hD:(decide (0≤day) && decide (day≤73048)) with
     |false=>
      rw[hD] at HDY hb
      have hq:=hid' (show bad=true from hb.out)
      clear hb hD
      go_wp2_with (first|(go_at_call 11; refine(HR.out _ (Below.refl _ _)).mono ?_; rintro e wa ⟨rfl,b3⟩; have hb3:=hid' b3; clear b3)|(go_at_call 29; refine(HDY.out _).mono ?_; rintro e wb ⟨rfl,rfl⟩)|(go_at_call 30; refine(HFD.out _ hb3.out).mono ?_; rintro e wd ⟨rfl,b5'⟩; have hb5:=hid' (Below.more hb3.out b5'); clear b5'))
      go_meet
      exact⟨by rw[hq.out],hb3⟩
     |true=>
      rw[hD] at HDY hb
      clear hD
      cases hF2:Fd.right F with
      |false=>
       rw[hF2] at HFD hb
       have hq:=hid' (show bad=true from hb.out)
       clear hb hF2
       go_wp2_with (first|(go_at_call 11; refine(HR.out _ (Below.refl _ _)).mono ?_; rintro e wa ⟨rfl,b3⟩; have hb3:=hid' b3; clear b3)|(go_at_call 29; refine(HDY.out _).mono ?_; rintro e wb ⟨rfl,rfl⟩)|(go_at_call 30; refine(HFD.out _ hb3.out).mono ?_; rintro e wd ⟨rfl,b5'⟩; have hb5:=hid' (Below.more hb3.out b5'); clear b5'))
       go_meet
       exact⟨by rw[hq.out],hb5⟩
      |true=>
       rw[hF2] at HFD hb
       clear hF2
       by_cases h250:250<L.length
       ·have g1:decide (250<L.length)=true:=decide_eq_true h250
        have g1i:decide ((250:Int)<(L.length:Int))=true:=decide_eq_true (by omega)
        rw[decide_eq_false (by omega:¬L.length≤250)] at hb
        have hq:=hid' (show bad=true from hb.out)
        clear hb h250
        go_wp2_with (first|(go_at_call 11; refine(HR.out _ (Below.refl _ _)).mono ?_; rintro e wa ⟨rfl,b3⟩; have hb3:=hid' b3; clear b3)|(go_at_call 29; refine(HDY.out _).mono ?_; rintro e wb ⟨rfl,rfl⟩)|(go_at_call 30; refine(HFD.out _ hb3.out).mono ?_; rintro e wd ⟨rfl,b5'⟩; have hb5:=hid' (Below.more hb3.out b5'); clear b5'))
        go_meet
        exact⟨by rw[hq.out],hb5⟩
       ·have g1:decide (250<L.length)=false:=decide_eq_false h250
        have g1i:decide ((250:Int)<(L.length:Int))=false:=decide_eq_false (by omega)
        rw[decide_eq_true (by omega:L.length≤250)] at hb
        have hq:=hid' (show bad=false from hb.out)
        clear hb h250
        go_wp2_with (first|(go_at_call 11; refine(HR.out _ (Below.refl _ _)).mono ?_; rintro e wa ⟨rfl,b3⟩; have hb3:=hid' b3; clear b3)|(go_at_call 29; refine(HDY.out _).mono ?_; rintro e wb ⟨rfl,rfl⟩)|(go_at_call 30; refine(HFD.out _ hb3.out).mono ?_; rintro e wd ⟨rfl,b5'⟩; have hb5:=hid' (Below.more hb3.out b5'); clear b5'))
        go_meet
        exact⟨by rw[hq.out],hb5⟩
   |false=>
    have hn:=hid' (show np=(decide (lab=⟨#[]⟩) && decide (wh=0)) from hnp.out)
    by_cases hl0:lab=⟨#[]⟩
    ·by_cases hw0:wh=0
     ·subst hl0
      subst hw0
      obtain rfl:np=true:=hn.out
      clear hn
      cases hr:Gen.right c with
      |false=>
       rw[hr] at HR hb
       have hq:=hid' (show bad=true from hb.out)
       clear hb  hr
       go_wp2_with (first|(go_at_call 11; refine(HR.out _ (Below.refl _ _)).mono ?_; rintro e wa ⟨rfl,b3⟩; have hb3:=hid' b3; clear b3)|(go_at_call 29; refine(HDY.out _).mono ?_; rintro e wb ⟨rfl,rfl⟩)|(go_at_call 30; refine(HFD.out _ hb3.out).mono ?_; rintro e wd ⟨rfl,b5'⟩; have hb5:=hid' (Below.more hb3.out b5'); clear b5'))
       go_meet
       exact⟨by rw[hq.out],hb3⟩
      |true=>
       rw[hr] at HR hb
       clear hr
       cases hD:(decide (0≤day) && decide (day≤73048)) with
       |false=>
        rw[hD] at HDY hb
        have hq:=hid' (show bad=true from hb.out)
        clear hb hD
        go_wp2_with (first|(go_at_call 11; refine(HR.out _ (Below.refl _ _)).mono ?_; rintro e wa ⟨rfl,b3⟩; have hb3:=hid' b3; clear b3)|(go_at_call 29; refine(HDY.out _).mono ?_; rintro e wb ⟨rfl,rfl⟩)|(go_at_call 30; refine(HFD.out _ hb3.out).mono ?_; rintro e wd ⟨rfl,b5'⟩; have hb5:=hid' (Below.more hb3.out b5'); clear b5'))
        go_meet
        exact⟨by rw[hq.out],hb3⟩
       |true=>
        rw[hD] at HDY hb
        clear hD
        cases hF2:Fd.right F with
        |false=>
         rw[hF2] at HFD hb
         have hq:=hid' (show bad=true from hb.out)
         clear hb hF2
         go_wp2_with (first|(go_at_call 11; refine(HR.out _ (Below.refl _ _)).mono ?_; rintro e wa ⟨rfl,b3⟩; have hb3:=hid' b3; clear b3)|(go_at_call 29; refine(HDY.out _).mono ?_; rintro e wb ⟨rfl,rfl⟩)|(go_at_call 30; refine(HFD.out _ hb3.out).mono ?_; rintro e wd ⟨rfl,b5'⟩; have hb5:=hid' (Below.more hb3.out b5'); clear b5'))
         go_meet
         exact⟨by rw[hq.out],hb5⟩
        |true=>
         rw[hF2] at HFD hb
         clear hF2
         by_cases h250:250<L.length
         ·have g1:decide (250<L.length)=true:=decide_eq_true h250
          have g1i:decide ((250:Int)<(L.length:Int))=true:=decide_eq_true (by omega)
          rw[decide_eq_false (by omega:¬L.length≤250)] at hb
          have hq:=hid' (show bad=true from hb.out)
          clear hb h250
          go_wp2_with (first|(go_at_call 11; refine(HR.out _ (Below.refl _ _)).mono ?_; rintro e wa ⟨rfl,b3⟩; have hb3:=hid' b3; clear b3)|(go_at_call 29; refine(HDY.out _).mono ?_; rintro e wb ⟨rfl,rfl⟩)|(go_at_call 30; refine(HFD.out _ hb3.out).mono ?_; rintro e wd ⟨rfl,b5'⟩; have hb5:=hid' (Below.more hb3.out b5'); clear b5'))
          go_meet
          exact⟨by rw[hq.out],hb5⟩
         ·have g1:decide (250<L.length)=false:=decide_eq_false h250
          have g1i:decide ((250:Int)<(L.length:Int))=false:=decide_eq_false (by omega)
          rw[decide_eq_true (by omega:L.length≤250)] at hb
          have hq:=hid' (show bad=false from hb.out)
          clear hb h250
          go_wp2_with (first|(go_at_call 11; refine(HR.out _ (Below.refl _ _)).mono ?_; rintro e wa ⟨rfl,b3⟩; have hb3:=hid' b3; clear b3)|(go_at_call 29; refine(HDY.out _).mono ?_; rintro e wb ⟨rfl,rfl⟩)|(go_at_call 30; refine(HFD.out _ hb3.out).mono ?_; rintro e wd ⟨rfl,b5'⟩; have hb5:=hid' (Below.more hb3.out b5'); clear b5'))
          go_meet
          exact⟨by rw[hq.out],hb5⟩
     ·have hnf:np=false:=by rw[hn.out,decide_eq_false hw0,Bool.and_false]
      subst hl0
      rw[hnf] at hb
      have hq:=hid' (show bad=true from hb.out)
      have g1:(wh == 0)=false:=by rw[beq_eq_false_iff_ne]; exact hw0
      clear hb hn hnf hw0
      go_wp2_with fail
      go_meet
      exact⟨by rw[hq.out],Below.refl _ _⟩
    ·have hnf:np=false:=by rw[hn.out,decide_eq_false hl0,Bool.false_and]
     rw[hnf] at hb
     have hq:=hid' (show bad=true from hb.out)
     have g1:lab.toList.isEmpty=false:=zbw hl0
     clear hb hn hnf hl0
     go_wp2_with fail
     go_meet
     exact⟨by rw[hq.out],Below.refl _ _⟩
  case rest=>
   obtain⟨rfl,HB4⟩:=hcut
   have HC5:=hid' (zad HB4.out HC5'.out)
   have HC9:=hid' (zad HB4.out HC9'.out)
   have HBD:=hid' (Below.more HBC.out HB4.out)
   clear s0 s1 d0 d1 d2 HC5' HC9' HBC HB4
   have hst:=hid' (show Vm.step c L day F lab wh=if((pk || np) && (Gen.right c && ((decide (0≤day) && decide (day≤73048)) && (Fd.right F && (decide (L.length≤250) && !L.any (Vm.holdBad c))))))=true∧(Vm.all c (Vm.env F day) (Vm.entryOf c lab wh) L Vm.st0).over=false then some (Vm.all c (Vm.env F day) (Vm.entryOf c lab wh) L Vm.st0) else none by rw[hpk.out,hnp.out]; rfl)
   cases hbd:bad with
   |true=>
    have hno:=hid' (show R=none by
     have h:=hbad.out
     rw[hbd] at h
     have h2:((pk || np) && (Gen.right c && ((decide (0≤day) && decide (day≤73048)) && (Fd.right F && decide (L.length≤250)))))=false:=by
      have h3:true = !((pk || np) && (Gen.right c && ((decide (0≤day) && decide (day≤73048)) && (Fd.right F && decide (L.length≤250))))):=h
      revert h3
      cases((pk || np) && (Gen.right c && ((decide (0≤day) && decide (day≤73048)) && (Fd.right F && decide (L.length≤250)))))<;>simp
     rw[hR.out,hst.out,if_neg]
     rintro⟨h4, -⟩
     simp only[Bool.and_eq_true] at h4
     rw[h4.1,h4.2.1,h4.2.2.1.1,h4.2.2.1.2,h4.2.2.2.1,h4.2.2.2.2.1] at h2
     cases h2)
    clear hbd
    go_wp2_with fail
    exact bodyPost_ret (zcd rfl _ _ _) rfl ⟨HBD.out,by rw[hno.out]; rfl⟩
   |false=>
    have hall:=(show((pk || np) && (Gen.right c && ((decide (0≤day) && decide (day≤73048)) && (Fd.right F && decide (L.length≤250)))))=true from by
     have h:=hbad.out
     rw[hbd] at h
     have h3:false = !((pk || np) && (Gen.right c && ((decide (0≤day) && decide (day≤73048)) && (Fd.right F && decide (L.length≤250))))):=h
     revert h3
     cases((pk || np) && (Gen.right c && ((decide (0≤day) && decide (day≤73048)) && (Fd.right F && decide (L.length≤250)))))<;>simp)
    simp only[Bool.and_eq_true] at hall
    obtain⟨hp1,hp2,⟨hp3,hp4⟩,hp5,hp6⟩:=hall
    rw[hp1,hp2,hp3,hp4,hp5,hp6] at hst
    have HOK:=hid' (And.intro hp2 (And.intro (And.intro (of_decide_eq_true hp3) (of_decide_eq_true hp4)) (And.intro (Fd.right_ok hp5) (of_decide_eq_true hp6))))
    clear hp1 hp2 hp3 hp4 hp5 hp6 hbd
    have d1:=zaa HC5.out 1 _ rfl
    have HCT:=hid' (zod c b5 wp wk (.slice lp L.length lc) L wc d1 (HLS.out.below HBD.out))
    cases hany:L.any (Vm.holdBad c) with
    |true=>
     rw[hany] at HCT hst
     have hno:=hid' (show R=none by rw[hR.out,hst.out,if_neg]; rintro⟨h4, -⟩; cases h4)
     clear hany d1
     go_wp2_with (first|(go_at_call 34; refine HCT.out.mono ?_; rintro e w5 ⟨rfl,b5'⟩; have HB5:=hid' (Below.more HBD.out b5'); clear b5'))
     exact bodyPost_ret (zcd rfl _ _ _) rfl ⟨HB5.out,by rw[hno.out]; rfl⟩
    |false=>
     rw[hany] at HCT hst
     have HANY:=hid' (show ∀(i:Nat) x,L[i]? = some x→Vm.holdBad c x=false from fun i x hx=>by
      have:=List.any_eq_false.1 hany x (List.mem_of_getElem? hx)
      revert this
      cases Vm.holdBad c x<;>simp)
     have hst2:=hid' (show R=if(Vm.all c (Vm.env F day) (Vm.entryOf c lab wh) L Vm.st0).over=false then some (Vm.all c (Vm.env F day) (Vm.entryOf c lab wh) L Vm.st0) else none by
      rw[hR.out,hst.out]
      by_cases h:(Vm.all c (Vm.env F day) (Vm.entryOf c lab wh) L Vm.st0).over=false
      ·rw[if_pos ⟨rfl,h⟩,if_pos h]
      ·rw[if_neg (fun hh=>h hh.2),if_neg h])
     clear hany d1 hst hR
     go_upto_region 6 with(first|(go_at_call 34; refine HCT.out.mono ?_; rintro e w5 ⟨rfl,b5'⟩; have HB5:=hid' b5'; clear b5'))
     have HB6:=hid' (Below.more HBD.out HB5.out)
     have H5:=hid' (zad HB5.out HC5.out)
     have H9:=hid' (zad HB5.out HC9.out)
     clear HC5 HC9 HCT HB5
     have d0:=zaa H5.out 0 _ rfl
     have d1:=zaa H5.out 1 _ rfl
     have d2:=zaa H5.out 2 _ rfl
     have HM0:=hid' (Mach.start w5 c day (.slice wp c.waits.length wk) (.slice ip c.ins.length ic) (.slice fp F.length fc))
     have HEN:Hid (RunEnv w5 w5.heap.size c F day (.slice wp c.waits.length wk) (.slice ip c.ins.length ic) (.slice fp F.length fc)):=hid' ⟨HCD.out.below HB6.out,HFS.out.below HB6.out,HOK.out.1,HOK.out.2.2.1,HOK.out.2.1,Nat.le_refl _⟩
     have HL5:=hid' (HLS.out.below HB6.out)
     have HS5:=hid' (show w.heap.size≤w5.heap.size from HB6.out.size)
     go_upto_region 7 with(fail)
     clear d0 d1 d2
     obtain⟨mb,hmb⟩:∃ mb,mb=w5.heap.size:=⟨_,rfl⟩
     rw[←hmb] at HM0 HEN HS5 ⊢
     have h5m:b5<mb:=by rw[hmb]; exact zac H5.out
     have h9m:b5+1<mb:=by rw[hmb]; exact zac H9.out
     have HMW:=hid' (show w5.heap.size≤mb by omega)
     clear hmb
     generalize w5.alloc _=w6 at *
     go_wp2_with fail
     have HA0:=hid' (show Vm.all c (Vm.env F day) (Vm.entryOf c lab wh) (L.take 0) Vm.st0=Vm.st0 from rfl)
     have HK0:=hid' (show Vm.StOk Vm.st0∧Vm.st0.steps≤82000+0 from⟨Vm.st0_ok,Nat.zero_le _⟩)
     go_loopw [70] (fun iv wr=>∃(i:Nat) (st:Vm.St) (vh vo:Value),iv=.int .i64 (i:Int)∧i≤L.length∧Hid (Vm.all c (Vm.env F day) (Vm.entryOf c lab wh) (L.take i) Vm.st0=st)∧Hid (Vm.StOk st∧st.steps≤82000+i)∧Hid (Mach w5 mb c day (.slice wp c.waits.length wk) (.slice ip c.ins.length ic) (.slice fp F.length fc) st vh vo wr)) (fun iv _=>L.length - (intOf iv).toNat)
     case atStart=>exact⟨0,Vm.st0,_,_,rfl,Nat.zero_le _,HA0,HK0,HM0⟩
     case round=>
      clear HA0 HK0 HM0
      obtain⟨i,st,vh,vo,rfl,hi,HA,HK,HM⟩:=hrel
      by_cases hin:i<L.length
      ·obtain⟨x,hx⟩:∃ x,L[i]? = some x:=⟨_,List.getElem?_eq_getElem hin⟩
       obtain⟨lp',lc',elp, -,hlc⟩:=HL5.out
       obtain⟨rfl,rfl⟩:lp=lp'∧lc=lc':=by simpa using elp
       obtain⟨lb,lo,rfl,hlb,⟨y0,y1⟩, -, -⟩:=hlc i x hx
       have hbad:=HANY.out i x hx
       have hent:=Vm.entry_lt HOK.out.1 hbad (lab:=lab) (wh:=wh)
       have hw0:0≤x.1∧x.1<c.waits.length:=by
        unfold Vm.holdBad at hbad
        simp only[Bool.or_eq_false_iff,decide_eq_false_iff_not] at hbad
        omega
       obtain⟨y,hy⟩:∃ y,c.waits[x.1.toNat]? = some y:=⟨_,List.getElem?_eq_getElem (by omega)⟩
       have hyw:Vm.waitAt c x.1=y:=by unfold Vm.waitAt; rw[hy]; rfl
       obtain⟨wp',wk',ewp, -,hwc⟩:=(show WaitsAt w5 (.slice wp c.waits.length wk) c.waits from by
        obtain⟨vw',vi',e,h1,_,_⟩:=HEN.out.cd
        simp only[Value.agg.injEq,Array.mk.injEq,List.cons.injEq,and_true,true_and] at e
        obtain⟨rfl,rfl⟩:=e
        exact h1)
       obtain⟨rfl,rfl⟩:wp=wp'∧wk=wk':=by simpa using ewp
       obtain⟨wb,wo,rfl,hwb,⟨e0,e1,e2,e3,e4⟩, -⟩:=hwc _ y hy
       have hmw:w5.heap.size≤mb:=HMW.out
       have HRD:=hid' (fun (b k:Nat) (v:Value) (hb:b<w5.heap.size) (hc:w5.cell? ⟨b,k,none⟩=some v)=>(show wr.cell? ⟨b,k,none⟩=some v from(HM.out.bel.cell (p:=⟨b,k,none⟩) (Nat.lt_of_lt_of_le hb hmw)).trans hc))
       replace y0:=HRD.out _ _ _ hlb y0
       replace y1:=HRD.out _ _ _ hlb y1
       have H5r:=hid' ((HM.out.bel.block b5 h5m).trans H5.out)
       have H9r:=hid' ((HM.out.bel.block (b5+1) h9m).trans H9.out)
       have j1:(0:Int)≤(i:Int):=by omega
       have j2:(i:Int)<(L.length:Int):=by omega
       have HX:=hid' hx
       have HI:=hid' hin
       have HEW:=hid' (And.intro hent hw0)
       have HE0:=hid' (And.intro (HRD.out _ _ _ hwb e0) (And.intro (HRD.out _ _ _ hwb e1) (And.intro (HRD.out _ _ _ hwb e2) (And.intro (HRD.out _ _ _ hwb e3) (HRD.out _ _ _ hwb e4)))))
       have HYW:=hid' hyw
       clear hx hin hlc elp hbad hent hw0 hy hyw ewp hwc e0 e1 e2 e3 e4 hwb hlb HRD hmw
       go_upto_region 10 with(fail)
       have BX:=(Below.refl wr.heap.size wr).alloc (Nat.le_refl _) (.cells #[.int .i64 x.1,.int .i64 x.2] 52)
       have HMX:=hid' (HM.out.below BX)
       have HXB:=hid' (heap_alloc_new wr (.cells #[.int .i64 x.1,.int .i64 x.2] 52))
       have H5x:=hid' (zad BX H5r.out)
       have H9x:=hid' (zad BX H9r.out)
       have HEX:=hid' (And.intro (zan BX _ _ HE0.out.1) (And.intro (zan BX _ _ HE0.out.2.1) (And.intro (zan BX _ _ HE0.out.2.2.1) (And.intro (zan BX _ _ HE0.out.2.2.2.1) (zan BX _ _ HE0.out.2.2.2.2)))))
       clear y0 y1 HM H5r H9r HE0 BX
       generalize wr.alloc (.cells #[.int .i64 x.1,.int .i64 x.2] 52)=w7 at *
       generalize wr.heap.size=xb at *
       have z0:=zaa HXB.out 0 _ rfl
       have c1:=zaa H5x.out 1 _ rfl
       obtain⟨e0,e1,e2,e3,e4⟩:=HEX.out
       obtain⟨k1,k2⟩:=HEW.out.2
       go_upto_region 11 with(fail)
       have BX:=(Below.refl w7.heap.size w7).alloc (Nat.le_refl _) (.cells #[.int .i64 y.entry,.int .i64 y.day,.string y.label,.int .i64 y.first,.int .i64 y.second] 76)
       have HM8:=hid' (HMX.out.below BX)
       have HYB:=hid' (heap_alloc_new w7 (.cells #[.int .i64 y.entry,.int .i64 y.day,.string y.label,.int .i64 y.first,.int .i64 y.second] 76))
       have HX8:=hid' (zad BX HXB.out)
       have H98:=hid' (zad BX H9x.out)
       clear z0 c1 e0 e1 e2 e3 e4 k1 k2 HMX HXB H5x H9x HEX BX j1 j2
       generalize w7.alloc (.cells #[.int .i64 y.entry,.int .i64 y.day,.string y.label,.int .i64 y.first,.int .i64 y.second] 76)=w8 at *
       generalize w7.heap.size=yb at *
       have z0:=zaa HYB.out 0 _ rfl
       have z2:=zaa HYB.out 2 _ rfl
       have z3:=zaa HYB.out 3 _ rfl
       have z4:=zaa HYB.out 4 _ rfl
       have s0:=zaa H98.out 0 _ rfl
       have s1:=zaa H98.out 1 _ rfl
       obtain⟨en,hen⟩:∃ en:Nat,(en:Int)=Vm.entryOf c lab wh x.1:=⟨(Vm.entryOf c lab wh x.1).toNat,by have:=HEW.out.1; omega⟩
       have hev:Hid ((en:Int)=if Vm.picksB lab wh=true∧y.label=lab then(if wh=1 then y.first else y.second) else y.entry):=hid' (by rw[hen,←HYW.out]; rfl)
       have HEN2:=hid' hen
       clear hen
       go_upto_region 12 with(fail)
       obtain⟨sel,hsel⟩:∃ sel,decide (Vm.picksB lab wh=true∧y.label=lab)=sel:=⟨_,rfl⟩
       have HSEL:=hid' hsel
       clear hsel
       go_cut [89] (fun v wx=>v=.bool sel∧Hid (Below w8.heap.size w8 wx))
       case first=>
        have hpkv:=hid' (hpk.out.symm)
        cases pk with
        |false=>
         have hq:=hid' (show sel=false by rw[←HSEL.out]; apply decide_eq_false; rintro⟨h, -⟩; rw[hpkv.out] at h; cases h)
         clear hev
         go_wp2_with fail
         go_meet
         exact⟨by rw[hq.out],Below.refl _ _⟩
        |true=>
         by_cases hyl:y.label=lab
         ·have hq:=hid' (show sel=true by rw[←HSEL.out]; exact decide_eq_true ⟨hpkv.out,hyl⟩)
          rw[hyl] at z2
          have gl2:(lab.toList == lab.toList)=true:=beq_self_eq_true _
          clear hev hyl
          go_wp2_with fail
          go_meet
          exact⟨by rw[hq.out],Below.refl _ _⟩
         ·have gl:(y.label.toList == lab.toList)=false:=by
           rw[beq_eq_false_iff_ne]
           intro e2
           apply hyl
           apply zmo
           rw[ByteArray.toList_eq,ByteArray.toList_eq] at e2
           exact e2
          have hq:=hid' (show sel=false by rw[←HSEL.out]; exact decide_eq_false (fun h=>hyl h.2))
          clear hev hyl
          go_wp2_with fail
          go_meet
          exact⟨by rw[hq.out],Below.refl _ _⟩
       case rest=>
        obtain⟨rfl,HB9⟩:=hcut
        have HM9:=hid' (HM8.out.below HB9.out)
        have HX9:=hid' (zad HB9.out HX8.out)
        have HY9:=hid' (zad HB9.out HYB.out)
        have HP9:=hid' (zad HB9.out H98.out)
        clear z0 z2 z3 z4 s0 s1 HYB HX8 H98 HM8 HB9
        cases sel with
        |false=>
         have hq:=hid' (show(en:Int)=y.entry by rw[hev.out,if_neg (of_decide_eq_false HSEL.out)])
         have z1:=zaa HX9.out 1 _ rfl
         have HR:=hid' (Vm.run_ok2 c (Vm.env F day) HOK.out.1 (a:=en) (by have:=HEW.out.1; have:=HEN2.out; omega) x.2 HK.out.1 HK.out.2 (by have:=HOK.out.2.2.2; have:=HI.out; omega))
         have HAN:=hid' (show Vm.all c (Vm.env F day) (Vm.entryOf c lab wh) (L.take (i+1)) Vm.st0=Vm.run c (Vm.env F day) (en:Int) x.2 Vm.zeros st by rw[Vm.all_take _ _ _ _ _ _ HX.out,HA.out,HEN2.out])
         have HC:=hid' (zmw w5 mb c F day _ _ _ HEN.out _ en x.2 st vh vo wc (Nat.le_refl _) (by have:=HEW.out.1; have:=HEN2.out; omega) HK.out.1 HM9.out)
         generalize Vm.run c (Vm.env F day) (en:Int) x.2 Vm.zeros st=st2 at *
         have wi:IntKind.i64.wrap ((i:Int)+1)=(i:Int)+1:=IntWalk.i64_in _ (by have:=HI.out; omega)
         rw[hq.out] at HC
         clear hev
         go_wp2_with (first|(go_at_call 31; refine HC.out.mono ?_; rintro e wn ⟨⟨re,rfl⟩,⟨vh2,vo2,hm2⟩,hkp2⟩; have HM10:=hid' hm2; clear hm2 hkp2))
         go_roundw
         case rel=>exact⟨i+1,st2,vh2,vo2,by go_num,by have:=HI.out; omega,HAN,HR,HM10⟩
         case measure=>have:=HI.out; simp[intOf]; omega
        |true=>
         have hboth:=of_decide_eq_true HSEL.out
         have z3:=zaa HY9.out 3 _ rfl
         have z4:=zaa HY9.out 4 _ rfl
         have s1:=zaa HP9.out 1 _ rfl
         by_cases hw1:wh=1
         ·have hq:=hid' (show(en:Int)=y.first by rw[hev.out,if_pos hboth,if_pos hw1])
          subst hw1
          clear hboth
          have s1':=zcl s1 (.cells #[.int .i64 y.first,.int .i64 y.second] 3)
          have BA:=(Below.refl wc.heap.size wc).alloc (Nat.le_refl _) (.cells #[.int .i64 y.first,.int .i64 y.second] 3)
          have HMA:=hid' (HM9.out.below BA)
          have HXA:=hid' (zad BA HX9.out)
          clear BA
          go_upto_region 14 with(fail)
          clear z3 z4 s1 s1' HM9 HX9 HY9 HP9
          generalize wc.alloc (.cells #[.int .i64 y.first,.int .i64 y.second] 3)=wq at *
          have z1:=zaa HXA.out 1 _ rfl
          have HR:=hid' (Vm.run_ok2 c (Vm.env F day) HOK.out.1 (a:=en) (by have:=HEW.out.1; have:=HEN2.out; omega) x.2 HK.out.1 HK.out.2 (by have:=HOK.out.2.2.2; have:=HI.out; omega))
          have HAN:=hid' (show Vm.all c (Vm.env F day) (Vm.entryOf c lab 1) (L.take (i+1)) Vm.st0=Vm.run c (Vm.env F day) (en:Int) x.2 Vm.zeros st by rw[Vm.all_take _ _ _ _ _ _ HX.out,HA.out,HEN2.out])
          have HC:=hid' (zmw w5 mb c F day _ _ _ HEN.out _ en x.2 st vh vo wq (Nat.le_refl _) (by have:=HEW.out.1; have:=HEN2.out; omega) HK.out.1 HMA.out)
          generalize Vm.run c (Vm.env F day) (en:Int) x.2 Vm.zeros st=st2 at *
          have wi:IntKind.i64.wrap ((i:Int)+1)=(i:Int)+1:=IntWalk.i64_in _ (by have:=HI.out; omega)
          rw[hq.out] at HC
          clear hev
          go_wp2_with (first|(go_at_call 31; refine HC.out.mono ?_; rintro e wn ⟨⟨re,rfl⟩,⟨vh2,vo2,hm2⟩,hkp2⟩; have HM10:=hid' hm2; clear hm2 hkp2))
          go_roundw
          case rel=>exact⟨i+1,st2,vh2,vo2,by go_num,by have:=HI.out; omega,HAN,HR,HM10⟩
          case measure=>have:=HI.out; simp[intOf]; omega
         ·have hq:=hid' (show(en:Int)=y.second by rw[hev.out,if_pos hboth,if_neg hw1])
          obtain rfl:wh=2:=by
           have h:=hboth.1
           unfold Vm.picksB at h
           simp only[Bool.and_eq_true,Bool.or_eq_true,decide_eq_true_eq] at h
           exact h.2.resolve_left hw1
          clear hboth hw1
          have s1':=zcl s1 (.cells #[.int .i64 y.first,.int .i64 y.second] 3)
          have BA:=(Below.refl wc.heap.size wc).alloc (Nat.le_refl _) (.cells #[.int .i64 y.first,.int .i64 y.second] 3)
          have HMA:=hid' (HM9.out.below BA)
          have HXA:=hid' (zad BA HX9.out)
          clear BA
          go_upto_region 14 with(fail)
          clear z3 z4 s1 s1' HM9 HX9 HY9 HP9
          generalize wc.alloc (.cells #[.int .i64 y.first,.int .i64 y.second] 3)=wq at *
          have z1:=zaa HXA.out 1 _ rfl
          have HR:=hid' (Vm.run_ok2 c (Vm.env F day) HOK.out.1 (a:=en) (by have:=HEW.out.1; have:=HEN2.out; omega) x.2 HK.out.1 HK.out.2 (by have:=HOK.out.2.2.2; have:=HI.out; omega))
          have HAN:=hid' (show Vm.all c (Vm.env F day) (Vm.entryOf c lab 2) (L.take (i+1)) Vm.st0=Vm.run c (Vm.env F day) (en:Int) x.2 Vm.zeros st by rw[Vm.all_take _ _ _ _ _ _ HX.out,HA.out,HEN2.out])
          have HC:=hid' (zmw w5 mb c F day _ _ _ HEN.out _ en x.2 st vh vo wq (Nat.le_refl _) (by have:=HEW.out.1; have:=HEN2.out; omega) HK.out.1 HMA.out)
          generalize Vm.run c (Vm.env F day) (en:Int) x.2 Vm.zeros st=st2 at *
          have wi:IntKind.i64.wrap ((i:Int)+1)=(i:Int)+1:=IntWalk.i64_in _ (by have:=HI.out; omega)
          rw[hq.out] at HC
          clear hev
          go_wp2_with (first|(go_at_call 31; refine HC.out.mono ?_; rintro e wn ⟨⟨re,rfl⟩,⟨vh2,vo2,hm2⟩,hkp2⟩; have HM10:=hid' hm2; clear hm2 hkp2))
          go_roundw
          case rel=>exact⟨i+1,st2,vh2,vo2,by go_num,by have:=HI.out; omega,HAN,HR,HM10⟩
          case measure=>have:=HI.out; simp[intOf]; omega
      ·obtain rfl:i=L.length:=by omega
       have hA:=HA.out
       rw[List.take_length] at hA
       rw[hA] at hst2
       have HT:=hid' (zsi w5 mb c day _ _ _ st vh vo wr HM.out)
       have j3:decide (L.length<L.length)=false:=by simp
       have HBR:=hid' (show Below w.heap.size w wr from HB6.out.trans (HM.out.bel.mono HS5.out))
       have HST2:=hid' hst2.out
       clear hin hA hst2
       cases hov:st.over with
       |true=>
        have hno:=hid' (show R=none by rw[HST2.out,hov]; rfl)
        have hte:zhx st vh vo=zip:=by unfold zhx; rw[hov]; rfl
        rw[hte,zip] at HT
        clear hov hte
        go_wp2_with (first|(go_at_call 32; refine HT.out.mono ?_; rintro e wt ⟨rfl,bt⟩))
        exact bodyPost_ret (zcd rfl _ _ _) rfl ⟨Below.trans HBR.out (bt.mono HBR.out.size),by rw[hno.out]; rfl⟩
       |false=>
        have hno:=hid' (show R=some st by rw[HST2.out,if_pos hov])
        have hte:zhx st vh vo=.tuple #[vh,vo,.int .i64 (st.steps:Int),.int .i64 0]:=by unfold zhx; rw[hov]; rfl
        rw[hte] at HT
        clear hov hte
        go_wp2_with (first|(go_at_call 32; refine HT.out.mono ?_; rintro e wt ⟨rfl,bt⟩))
        refine bodyPost_ret (zcd rfl _ _ _) rfl ⟨Below.trans HBR.out (bt.mono HBR.out.size),?_⟩
        rw[hno.out]
        exact⟨HK.out.1,vh,vo,rfl,World.ownsRow.mono (HM.out.below bt).hs (Nat.le_trans HS5.out (Nat.le_succ _)),World.ownsRow.mono (HM.out.below bt).ts (Nat.le_trans HS5.out (Nat.le_succ _))⟩
end
section
open Go.RowKit
open Gen
open Rw
set_option maxRecDepth 100000
namespace Vm
noncomputable def beginOk (c:Cd)(day:Int)(F:List Fd.Feed):Bool:=right c && ((decide (0≤day) && decide (day≤73048)) && Fd.right F)
noncomputable def begin' (c:Cd)(day:Int)(F:List Fd.Feed):Option St:=
 if beginOk c day F=true∧(run c (env F day) 0 1000000 zeros st0).over=false then some (run c (env F day) 0 1000000 zeros st0) else none
end Vm
set_option maxHeartbeats 8000000 in
theorem zrk (c:Gen.Cd)(day:Int)(F:List Fd.Feed)(vw vi vf:Value)(w:World)(hc:CdAt w (.agg #[.int .i64 c.regs,vw,vi]) c)(hF:FeedsAt w vf F):
  Calls Tryz.prog 13 #[.agg #[.int .i64 c.regs,vw,vi],.int .i64 day,vf] w (zue (Vm.begin' c day F) day w):=by
 have HCD:=hid' hc
 have HFS:=hid' hF
 obtain⟨wp,wk,rfl⟩:∃ wp wk,vw=.slice wp c.waits.length wk:=by
  obtain⟨vw',vi',e,⟨p,cc,e2,h2,_⟩,_⟩:=hc
  simp only[Value.agg.injEq,Array.mk.injEq,List.cons.injEq,and_true,true_and] at e
  obtain⟨rfl,rfl⟩:=e
  exact⟨p,cc,e2⟩
 obtain⟨ip,ic,rfl⟩:∃ ip ic,vi=.slice ip c.ins.length ic:=by
  obtain⟨vw',vi',e,_,⟨p,cc,e2,_,_⟩,_⟩:=hc
  simp only[Value.agg.injEq,Array.mk.injEq,List.cons.injEq,and_true,true_and] at e
  obtain⟨rfl,rfl⟩:=e
  exact⟨p,cc,e2⟩
 obtain⟨fp,fc,rfl, -, -⟩:=hF
 obtain⟨R,hR⟩:∃ R,Hid (R=Vm.begin' c day F):=⟨_,rfl⟩
 rw[←hR.out]
 clear hc
 have HB0:=hid' ((Below.refl w.heap.size w).alloc (Nat.le_refl _) (.cells #[.int .i64 c.regs,.slice wp c.waits.length wk,.slice ip c.ins.length ic] 29))
 have HC5:=hid' (heap_alloc_new w (.cells #[.int .i64 c.regs,.slice wp c.waits.length wk,.slice ip c.ins.length ic] 29))
 go_enter Tryz.func13,Tryz.ntmps13
 go_upto_region 1 with(fail)
 obtain⟨b5,hb5⟩:∃ b5,b5=w.heap.size:=⟨_,rfl⟩
 rw[←hb5] at HC5 ⊢
 clear hb5
 generalize w.alloc (.cells #[.int .i64 c.regs,.slice wp c.waits.length wk,.slice ip c.ins.length ic] 29)=w3 at *
 have d0:=zaa HC5.out 0 _ rfl
 have d1:=zaa HC5.out 1 _ rfl
 have d2:=zaa HC5.out 2 _ rfl
 obtain⟨bad,hbad⟩:∃ bad,Hid (bad = !Vm.beginOk c day F):=⟨_,rfl⟩
 go_cut [23] (fun v wx=>v=.bool bad∧Hid (Below w3.heap.size w3 wx))
 case first=>
  have HR:=hid' (fun (W:World) (b:Below w3.heap.size w3 W)=>zgn (.agg #[.int .i64 c.regs,.slice wp c.waits.length wk,.slice ip c.ins.length ic]) c W ((HCD.out.below HB0.out).below b))
  have HFD:=hid' (fun (W:World) (b:Below w3.heap.size w3 W)=>zjr (.slice fp F.length fc) F W ((HFS.out.below HB0.out).below b))
  have HDY:=hid' (fun W=>zff day W)
  have hb:=hid' (show bad = !(Gen.right c && ((decide (0≤day) && decide (day≤73048)) && Fd.right F)) from hbad.out)
  cases hr:Gen.right c with
  |false=>
   rw[hr] at HR hb
   have hq:=hid' (show bad=true from hb.out)
   clear hb  hr
   go_wp2_with (first|(go_at_call 11; refine(HR.out _ (Below.refl _ _)).mono ?_; rintro e wa ⟨rfl,b3⟩; have hb3:=hid' b3; clear b3)|(go_at_call 29; refine(HDY.out _).mono ?_; rintro e wb ⟨rfl,rfl⟩)|(go_at_call 30; refine(HFD.out _ hb3.out).mono ?_; rintro e wd ⟨rfl,b5'⟩; have hb5:=hid' (Below.more hb3.out b5'); clear b5'))
   go_meet
   exact⟨by rw[hq.out],hb3⟩
  |true=>
   rw[hr] at HR hb
   clear hr
   cases hD:(decide (0≤day) && decide (day≤73048)) with
   |false=>
    rw[hD] at HDY hb
    have hq:=hid' (show bad=true from hb.out)
    clear hb hD
    go_wp2_with (first|(go_at_call 11; refine(HR.out _ (Below.refl _ _)).mono ?_; rintro e wa ⟨rfl,b3⟩; have hb3:=hid' b3; clear b3)|(go_at_call 29; refine(HDY.out _).mono ?_; rintro e wb ⟨rfl,rfl⟩)|(go_at_call 30; refine(HFD.out _ hb3.out).mono ?_; rintro e wd ⟨rfl,b5'⟩; have hb5:=hid' (Below.more hb3.out b5'); clear b5'))
    go_meet
    exact⟨by rw[hq.out],hb3⟩
   |true=>
    rw[hD] at HDY hb
    clear hD
    cases hF2:Fd.right F with
    |false=>
     rw[hF2] at HFD hb
     have hq:=hid' (show bad=true from hb.out)
     clear hb hF2
     go_wp2_with (first|(go_at_call 11; refine(HR.out _ (Below.refl _ _)).mono ?_; rintro e wa ⟨rfl,b3⟩; have hb3:=hid' b3; clear b3)|(go_at_call 29; refine(HDY.out _).mono ?_; rintro e wb ⟨rfl,rfl⟩)|(go_at_call 30; refine(HFD.out _ hb3.out).mono ?_; rintro e wd ⟨rfl,b5'⟩; have hb5:=hid' (Below.more hb3.out b5'); clear b5'))
     go_meet
     exact⟨by rw[hq.out],hb5⟩
    |true=>
     rw[hF2] at HFD hb
     clear hF2
     have hq:=hid' (show bad=false from hb.out)
     clear hb
     go_wp2_with (first|(go_at_call 11; refine(HR.out _ (Below.refl _ _)).mono ?_; rintro e wa ⟨rfl,b3⟩; have hb3:=hid' b3; clear b3)|(go_at_call 29; refine(HDY.out _).mono ?_; rintro e wb ⟨rfl,rfl⟩)|(go_at_call 30; refine(HFD.out _ hb3.out).mono ?_; rintro e wd ⟨rfl,b5'⟩; have hb5:=hid' (Below.more hb3.out b5'); clear b5'))
     go_meet
     exact⟨by rw[hq.out],hb5⟩
 case rest=>
  obtain⟨rfl,HB4⟩:=hcut
  have H5:=hid' (zad HB4.out HC5.out)
  have HB6:=hid' (Below.more HB0.out HB4.out)
  clear d0 d1 d2 HC5 HB4
  cases hbd:bad with
  |true=>
   have hno:=hid' (show R=none by
    have h:=hbad.out
    rw[hbd] at h
    have h2:Vm.beginOk c day F=false:=by
     revert h
     cases Vm.beginOk c day F<;>simp
    rw[hR.out,Vm.begin',h2,if_neg]
    rintro⟨h4, -⟩
    cases h4)
   clear hbd
   go_wp2_with fail
   exact bodyPost_ret (zcd rfl _ _ _) rfl ⟨HB6.out,by rw[hno.out]; rfl⟩
  |false=>
   have hall:Vm.beginOk c day F=true:=by
    have h:=hbad.out
    rw[hbd] at h
    revert h
    cases Vm.beginOk c day F<;>simp
   have hst2:=hid' (show R=if(Vm.run c (Vm.env F day) 0 1000000 Vm.zeros Vm.st0).over=false then some (Vm.run c (Vm.env F day) 0 1000000 Vm.zeros Vm.st0) else none by
    rw[hR.out,Vm.begin',hall]
    by_cases h:(Vm.run c (Vm.env F day) 0 1000000 Vm.zeros Vm.st0).over=false
    ·rw[if_pos ⟨rfl,h⟩,if_pos h]
    ·rw[if_neg (fun hh=>h hh.2),if_neg h])
   unfold Vm.beginOk at hall
   simp only[Bool.and_eq_true] at hall
   obtain⟨hp2,⟨hp3,hp4⟩,hp5⟩:=hall
   have HOK:=hid' (And.intro hp2 (And.intro (And.intro (of_decide_eq_true hp3) (of_decide_eq_true hp4)) (Fd.right_ok hp5)))
   clear hp2 hp3 hp4 hp5 hbd hR
   have d0:=zaa H5.out 0 _ rfl
   have d1:=zaa H5.out 1 _ rfl
   have d2:=zaa H5.out 2 _ rfl
   have HM0:=hid' (Mach.start wc c day (.slice wp c.waits.length wk) (.slice ip c.ins.length ic) (.slice fp F.length fc))
   have HEN:Hid (RunEnv wc wc.heap.size c F day (.slice wp c.waits.length wk) (.slice ip c.ins.length ic) (.slice fp F.length fc)):=hid' ⟨HCD.out.below HB6.out,HFS.out.below HB6.out,HOK.out.1,HOK.out.2.2,HOK.out.2.1,Nat.le_refl _⟩
   have HS5:=hid' (show w.heap.size≤wc.heap.size from HB6.out.size)
   go_upto_region 4 with(fail)
   clear d0 d1 d2
   obtain⟨mb,hmb⟩:∃ mb,mb=wc.heap.size:=⟨_,rfl⟩
   rw[←hmb] at HM0 HEN HS5 ⊢
   clear hmb
   generalize wc.alloc _=w6 at *
   have hlen:=(zbl HOK.out.1).2.2.1
   have HR:=hid' (Vm.run_ok2 c (Vm.env F day) HOK.out.1 (a:=0) (i:=0) (by omega) 1000000 Vm.st0_ok (Nat.zero_le _) (by omega))
   have HC:=hid' (zmw wc mb c F day _ _ _ HEN.out _ 0 1000000 Vm.st0 _ _ w6 (Nat.le_refl _) (by omega) Vm.st0_ok HM0.out)
   rw[show((0:Nat):Int)=0 from rfl] at HC HR
   generalize Vm.run c (Vm.env F day) 0 1000000 Vm.zeros Vm.st0=st at *
   clear hlen
   go_upto_region 5 with(go_at_call 31; refine HC.out.mono ?_; rintro e wr ⟨⟨re,rfl⟩,⟨vh,vo,hm2⟩,hkp2⟩; have HM:=hid' hm2; clear hm2 hkp2)
   have HT:=hid' (zsi wc mb c day _ _ _ st vh vo wr HM.out)
   have HBR:=hid' (show Below w.heap.size w wr from HB6.out.trans (HM.out.bel.mono HS5.out))
   cases hov:st.over with
   |true=>
    have hno:=hid' (show R=none by rw[hst2.out,hov]; rfl)
    have hte:zhx st vh vo=zip:=by unfold zhx; rw[hov]; rfl
    rw[hte,zip] at HT
    clear hov hte
    go_wp2_with (first|(go_at_call 32; refine HT.out.mono ?_; rintro e wt ⟨rfl,bt⟩))
    exact bodyPost_ret (zcd rfl _ _ _) rfl ⟨Below.trans HBR.out (bt.mono HBR.out.size),by rw[hno.out]; rfl⟩
   |false=>
    have hno:=hid' (show R=some st by rw[hst2.out,if_pos hov])
    have hte:zhx st vh vo=.tuple #[vh,vo,.int .i64 (st.steps:Int),.int .i64 0]:=by unfold zhx; rw[hov]; rfl
    rw[hte] at HT
    clear hov hte
    go_wp2_with (first|(go_at_call 32; refine HT.out.mono ?_; rintro e wt ⟨rfl,bt⟩))
    refine bodyPost_ret (zcd rfl _ _ _) rfl ⟨Below.trans HBR.out (bt.mono HBR.out.size),?_⟩
    rw[hno.out]
    exact⟨HR.out.1,vh,vo,rfl,World.ownsRow.mono (HM.out.below bt).hs (Nat.le_trans HS5.out (Nat.le_succ _)),World.ownsRow.mono (HM.out.below bt).ts (Nat.le_trans HS5.out (Nat.le_succ _))⟩
def HoldsSeen (W:World)(v:Value)(l:List (Int × Int)):Prop:=∃ p c,v=.slice p l.length c∧l.length≤1000000∧∀(i:Nat) (x:Int × Int),l[i]? = some x→∃ b off,p=some ⟨b,off,none⟩∧b<W.heap.size∧W.cell? ⟨b,off+i * 2,none⟩=some (.int .i64 x.1)∧W.cell? ⟨b,off+i * 2+1,none⟩=some (.int .i64 x.2)
def qay (W:World)(v:Value)(day:Int)(l:List (ByteArray × Int)):Prop:=∃ p c,v=.slice p l.length c∧l.length≤1000000∧∀(i:Nat) (x:ByteArray × Int),l[i]? = some x→∃ b off,p=some ⟨b,off,none⟩∧b<W.heap.size∧W.cell? ⟨b,off+i * 3,none⟩=some (.int .i64 day)∧W.cell? ⟨b,off+i * 3+1,none⟩=some (.string x.1)∧W.cell? ⟨b,off+i * 3+2,none⟩=some (.int .i64 x.2)
theorem zlu {base:Nat}{W:World}{e:TypeId}{z:Nat}{v:Value}{α:Type}{f:α→List Value}(hf:∀ x,(f x).length=z){L:List α}(h:W.ownsRow base e z v L.length (L.flatMap f)):
  ∃ p c,v=.slice p L.length c∧∀(i:Nat) x,L[i]? = some x→∃ g,p=some ⟨g,0,none⟩∧g<W.heap.size∧∀(j:Nat) u,j<z→(f x)[j]? = some u→W.cell? ⟨g,0+i * z+j,none⟩=some u:=by
 obtain⟨h0,⟨rfl,hz⟩|⟨g,cap,cur,rfl,h2,h3,h4,h5,h6,h7⟩⟩:=h
 ·exact⟨none,0,by rw[hz],fun i x hi=>by have:=(List.getElem?_eq_some_iff.1 hi).1; omega⟩
 ·refine⟨_,cap,rfl,fun i x hi=>⟨g,rfl,zac h3,fun j u hj hu=>?_⟩⟩
  have:=qel h7 ((cells_at f z hf L i x j hi hj).trans hu)
  rw[Nat.zero_add]
  simp only[World.cell?,h3]
  rw[Array.getElem?_toList] at this
  simpa using this
theorem HoldRow.seen {base:Nat}{W:World}{v:Value}{L:List (Int × Int)}(h:HoldRow base W v L)(hl:L.length≤1000000):HoldsSeen W v L:=by
 obtain⟨p,c,e,hc⟩:=zlu (f:=zla) (fun _=>rfl) h
 refine⟨p,c,e,hl,fun i x hi=>?_⟩
 obtain⟨g,rfl,hg,hj⟩:=hc i x hi
 exact⟨g,0,rfl,hg,hj 0 _ (by omega) rfl,hj 1 _ (by omega) rfl⟩
theorem TranRow.seen {base:Nat}{W:World}{v:Value}{day:Int}{L:List (ByteArray × Int)}(h:TranRow base W v day L)(hl:L.length≤1000000):qay W v day L:=by
 obtain⟨p,c,e,hc⟩:=zlu (f:=zms day) (fun _=>rfl) h
 refine⟨p,c,e,hl,fun i x hi=>?_⟩
 obtain⟨g,rfl,hg,hj⟩:=hc i x hi
 exact⟨g,0,rfl,hg,hj 0 _ (by omega) rfl,hj 1 _ (by omega) rfl,hj 2 _ (by omega) rfl⟩
theorem HoldsSeen.below {W W':World}{v:Value}{l:List (Int × Int)}(h:HoldsSeen W v l)(B:Below W.heap.size W W'):HoldsSeen W' v l:=by
 obtain⟨p,c,e,hl,h⟩:=h
 refine⟨p,c,e,hl,fun i x hx=>?_⟩
 obtain⟨b,off,e,hb,h1,h2⟩:=h i x hx
 exact⟨b,off,e,Nat.lt_of_lt_of_le hb B.size,zbf B hb h1,zbf B hb h2⟩
def eur:ByteArray:=⟨#[69,85,82]⟩
def cd1:Gen.Cd:=⟨0,[],[⟨27,0,0,0,0,eur,0⟩,⟨30,0,0,0,0,⟨#[]⟩,0⟩]⟩
theorem qan:Gen.right cd1=true:=by decide +kernel
theorem qfg:Vm.run cd1 (Vm.env [] 3) 0 1000000 Vm.zeros Vm.st0=⟨[],[(eur,1000000)],2,false⟩:=by
 have h:=Vm.run_in cd1 (Vm.env [] 3) (a:=0) (x:=⟨27,0,0,0,0,eur,0⟩) rfl 1000000 Vm.zeros (H:=[]) (O:=[]) (s:=0) (by omega)
 rw[Vm.act_pay rfl (by decide)] at h
 have h2:=Vm.run_in cd1 (Vm.env [] 3) (a:=1) (x:=⟨30,0,0,0,0,⟨#[]⟩,0⟩) rfl 1000000 Vm.zeros (H:=[]) (O:=[(eur,1000000)]) (s:=1) (by omega)
 exact h.trans h2
theorem qfx:Fd.right []=true:=Fd.right_yes ⟨by simp,fun i f h=>by simp at h⟩
theorem qao:Vm.begin' cd1 3 []=some ⟨[],[(eur,1000000)],2,false⟩:=by
 unfold Vm.begin' Vm.beginOk
 rw[qfg,qan,qfx,if_pos ⟨rfl,rfl⟩]
set_option maxHeartbeats 4000000 in
theorem zuk (w:World):Calls Tryz.prog 12 #[] w (qeb w):=by
 obtain⟨w1,hw1⟩:∃ w1,w1=w.alloc (.cells #[.int .i64 27,.int .i64 0,.int .i64 0,.int .i64 0,.int .i64 0,.string ⟨#[69,85,82]⟩,.int .i64 0,.int .i64 30,.int .i64 0,.int .i64 0,.int .i64 0,.int .i64 0,.string ⟨#[]⟩,.int .i64 0] 73):=⟨_,rfl⟩
 obtain⟨w2,hw2⟩:∃ w2,w2=w1.alloc (.cells #[.int .i64 0,.slice none 0 0,.slice (some ⟨w.heap.size,0,none⟩) 2 2] 29):=⟨_,rfl⟩
 have hsz:w1.heap.size=w.heap.size+1:=by rw[hw1]; simp
 have B01:Below w.heap.size w w1:=by rw[hw1]; exact(Below.refl _ _).alloc (Nat.le_refl _) _
 have B12:Below w1.heap.size w1 w2:=by rw[hw2]; exact(Below.refl _ _).alloc (Nat.le_refl _) _
 have hi:=heap_alloc_new w (.cells #[.int .i64 27,.int .i64 0,.int .i64 0,.int .i64 0,.int .i64 0,.string ⟨#[69,85,82]⟩,.int .i64 0,.int .i64 30,.int .i64 0,.int .i64 0,.int .i64 0,.int .i64 0,.string ⟨#[]⟩,.int .i64 0] 73)
 rw[←hw1] at hi
 have hi2:=zad B12 hi
 have hc:=heap_alloc_new w1 (.cells #[.int .i64 0,.slice none 0 0,.slice (some ⟨w.heap.size,0,none⟩) 2 2] 29)
 rw[←hw2,hsz] at hc
 have hcd:CdAt w2 (.agg #[.int .i64 0,.slice none 0 0,.slice (some ⟨w.heap.size,0,none⟩) 2 2]) cd1:=by
  refine⟨_,_,rfl,⟨none,0,rfl,⟨Nat.le_refl _,Nat.zero_le _⟩,fun i w h=>by simp[cd1] at h⟩,⟨_,2,rfl,⟨Nat.le_refl _,by unfold maxLen; omega⟩,fun i x hx=>?_⟩,⟨by decide,by decide⟩⟩
  have c:=fun j v h=>zaa hi2 j v h
  have hcase:(i=0∧x=⟨27,0,0,0,0,eur,0⟩)∨(i=1∧x=⟨30,0,0,0,0,⟨#[]⟩,0⟩):=by
   match i,hx with
   |0,hx=>exact .inl ⟨rfl,by simpa [cd1] using hx.symm⟩
   |1,hx=>exact .inr ⟨rfl,by simpa [cd1] using hx.symm⟩
   |j+2,hx=>simp[cd1] at hx
  rcases hcase with⟨rfl,rfl⟩|⟨rfl,rfl⟩
  ·exact⟨w.heap.size,0,rfl,zac hi2,⟨c 0 _ rfl,c 1 _ rfl,c 2 _ rfl,c 3 _ rfl,c 4 _ rfl,c 5 _ rfl,c 6 _ rfl⟩,⟨⟨by decide,by decide⟩,⟨by decide,by decide⟩,⟨by decide,by decide⟩,⟨by decide,by decide⟩,⟨by decide,by decide⟩,by decide,⟨by decide,by decide⟩⟩⟩
  ·exact⟨w.heap.size,0,rfl,zac hi2,⟨c 7 _ rfl,c 8 _ rfl,c 9 _ rfl,c 10 _ rfl,c 11 _ rfl,c 12 _ rfl,c 13 _ rfl⟩,⟨⟨by decide,by decide⟩,⟨by decide,by decide⟩,⟨by decide,by decide⟩,⟨by decide,by decide⟩,⟨by decide,by decide⟩,by decide,⟨by decide,by decide⟩⟩⟩
 have HB:=hid' (zrk cd1 3 [] (.slice none 0 0) (.slice (some ⟨w.heap.size,0,none⟩) 2 2) (.slice none 0 0) w2 hcd ⟨none,0,rfl,⟨Nat.le_refl _,Nat.zero_le _⟩,fun i x h=>by simp at h⟩)
 rw[qao] at HB
 have HW1:=hid' hw1
 have HW2:=hid' hw2
 have HC:=hid' hc
 have H02:=hid' (Below.more B01 B12)
 have HSZ:=hid' hsz
 clear hw1 hw2 hcd hi hi2 hc B01 B12 hsz
 go_enter Tryz.func12,Tryz.ntmps12
 go_upto_region 2 with(fail)
 rw[←HW1.out]
 rw[←HSZ.out]
 rw[←HW2.out]
 rw[HSZ.out]
 have d0:=zaa HC.out 0 _ rfl
 have d1:=zaa HC.out 1 _ rfl
 have d2:=zaa HC.out 2 _ rfl
 clear HW1 HW2
 go_upto_region 3 with(go_at_call 13; refine HB.out.mono ?_; rintro e w3 ⟨b3,hst,vh,vo,rfl,hh,ht⟩)
 obtain⟨hp,hc,rfl⟩:=zay hh
 obtain⟨op,oc,e1, -,hts⟩:=ht.seen (by simp)
 obtain⟨tb,to',rfl, -,t0,t1,t2⟩:=hts 0 (eur,1000000) rfl
 subst e1
 have HB3:=hid' (Below.more H02.out b3)
 have g1:(List.length [(eur,(1000000:Int))]:Nat)=1:=rfl
 have g0:(List.length ([]:List (Int × Int)):Nat)=0:=rfl
 rw[show eur=⟨#[69,85,82]⟩ from rfl] at t1
 clear hst hh ht hts b3 d0 d1 d2 HC
 rw[g0,g1]
 simp only[Nat.zero_mul,Nat.add_zero] at t0 t1 t2
 go_wp2_with fail
 go_ret
 exact⟨rfl,HB3.out⟩
end
end Go.Proofs.YtanlmbbalamgkaaGreatDoor

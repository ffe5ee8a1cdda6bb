/- Proved: lemmas and contracts of the functions that the law reaches, part 29 of 36: VmRightF, VmStepM. Conditions: as each states. -/
import Derived.Test.YtanlmbbalamgkaaGreatDoorVmi6
import Derived.Test.YtanlmbbalamgkaaGreatDoorVmi27
namespace Go.Proofs.YtanlmbbalamgkaaGreatDoor
set_option linter.unusedVariables false
set_option linter.unusedSimpArgs false
section
open Go.RowKit
open Gen
open Rw
set_option maxRecDepth 100000
namespace Fd
def prevBad (F:List Feed)(i:Nat)(s:ByteArray):Bool:=match i with|0=>false|j+1=>!lt (at' F j).1 s
def headBad (F:List Feed)(i:Nat)(f:Feed):Bool:=!Led.isName f.1 || (prevBad F i f.1 || decide (4096<f.2.length))
def prevLate (l:List (Int × Int))(k:Nat)(d:Int):Bool:=match k with|0=>false|j+1=>decide (d≤(stampAt l j).1)
def stampBad (l:List (Int × Int))(k:Nat)(s:Int × Int):Bool:=!(decide (0≤s.1) && decide (s.1≤73048)) || (prevLate l k s.1 || !(s.2 == Num.clamp s.2))
theorem at_eq {F:List Feed}{j:Nat}{g:Feed}(h:F[j]? = some g):at' F j=g:=by unfold at'; rw[h]; rfl
theorem stampAt_eq {l:List (Int × Int)}{j:Nat}{g:Int × Int}(h:l[j]? = some g):stampAt l j=g:=by unfold stampAt; rw[h]; rfl
theorem stamp_good {l:List (Int × Int)}{k:Nat}{s:Int × Int}(h:stampBad l k s=false):StampOk l k s:=by
 unfold stampBad at h
 simp only[Bool.or_eq_false_iff,Bool.not_eq_false',Bool.and_eq_true,decide_eq_true_eq,beq_iff_eq] at h
 refine⟨h.1,fun j hj u hu=>?_,h.2.2⟩
 subst hj
 have:=h.2.1
 simp only[prevLate,decide_eq_false_iff_not] at this
 rw[stampAt_eq hu] at this
 omega
theorem stamp_bad {l:List (Int × Int)}{k:Nat}{s:Int × Int}(hk:k<l.length)(h:stampBad l k s=true):¬StampOk l k s:=by
 intro ok
 unfold stampBad at h
 have h1:=ok.day
 have h2:=ok.num
 rw[decide_eq_true h1.1,decide_eq_true h1.2,show(s.2 == Num.clamp s.2)=true by rw[beq_iff_eq]; exact h2] at h
 cases k with
 |zero=>cases h
 |succ j=>
  simp only[prevLate,Bool.and_self,Bool.not_true,Bool.false_or,Bool.or_false,decide_eq_true_eq] at h
  have hj:l[j]? = some (stampAt l j):=by unfold stampAt; rw[List.getElem?_eq_getElem (by omega)]; rfl
  have:=ok.up j rfl _ hj
  omega
theorem head_bad {F:List Feed}{i:Nat}{f:Feed}(hi:i<F.length)(h:headBad F i f=true):¬FeedOk F i f:=by
 intro ok
 unfold headBad at h
 have h1:=ok.len
 rw[ok.name,decide_eq_false (by omega:¬4096<f.2.length)] at h
 cases i with
 |zero=>cases h
 |succ j=>
  have hj:F[j]? = some (at' F j):=by unfold at'; rw[List.getElem?_eq_getElem (by omega)]; rfl
  have:=ok.rise j rfl _ hj
  simp only[prevBad,this] at h
  cases h
theorem feed_good {F:List Feed}{i:Nat}{f:Feed}(h:headBad F i f=false)(hs:∀ k s,f.2[k]? = some s→StampOk f.2 k s):FeedOk F i f:=by
 unfold headBad at h
 simp only[Bool.or_eq_false_iff,Bool.not_eq_false',decide_eq_false_iff_not] at h
 refine⟨h.1,fun j hj g hg=>?_,by omega,hs⟩
 subst hj
 have:=h.2.1
 simp only[prevBad,Bool.not_eq_false'] at this
 rwa [at_eq hg] at this
end Fd
set_option maxHeartbeats 8000000 in
theorem zjr (v:Value)(F:List Fd.Feed)(w:World)(h:FeedsAt w v F):Calls Tryz.prog 30 #[v] w (zaj (.bool (Fd.right F)) w):=by
 obtain⟨p,c,rfl,⟨hl1,hl2⟩,hf⟩:=h
 have HF:=hid' hf
 have hbig:(F.length:Int)≤9223372036854775807:=by unfold maxLen at hl2; omega
 clear hf hl1 hl2
 by_cases h64:64<F.length
 ·have e:=hid' (Fd.right_no (F:=F) (fun ok=>by have:=ok.1; omega))
  have h64i:decide ((64:Int)<(F.length:Int))=true:=decide_eq_true (by omega)
  have h64n:decide (64<F.length)=true:=decide_eq_true h64
  go_enter Tryz.func30,Tryz.ntmps30
  clear h64
  go_wp2_with fail
  go_ret
  exact⟨by rw[e.out]; rfl,Below.refl _ _⟩
 ·have h64i:decide ((64:Int)<(F.length:Int))=false:=decide_eq_false (by omega)
  have h64n:decide (64<F.length)=false:=decide_eq_false h64
  have HLE:=hid' (show F.length≤64 by omega)
  clear h64
  go_enter Tryz.func30,Tryz.ntmps30
  go_wp2_with fail
  clear h64i h64n
  have HA0:=hid' (show ∀ j,j<0→∀ f,F[j]? = some f→Fd.FeedOk F j f from fun j hj=>by omega)
  go_loopw [12] (fun iv wr=>∃ i:Nat,iv=.int .i64 (i:Int)∧i≤F.length∧Hid (∀ j,j<i→∀ f,F[j]? = some f→Fd.FeedOk F j f)∧Hid (Below w.heap.size w wr)) (fun iv _=>F.length - (intOf iv).toNat)
  case atStart=>exact⟨0,rfl,Nat.zero_le _,HA0,Below.refl _ _⟩
  case round=>
   obtain⟨i,rfl,hi,HA,HW⟩:=hrel
   by_cases hin:i<F.length
   ·obtain⟨x,hx⟩:∃ x,F[i]? = some x:=⟨_,List.getElem?_eq_getElem hin⟩
    obtain⟨fb,fo,sv,rfl,hfb,⟨x0,x1⟩,hst,hxs⟩:=HF.out i x hx
    replace x0:=zan HW.out _ _ x0
    replace x1:=zan HW.out _ _ x1
    have hst2:=hst.below HW.out
    obtain⟨sp,sc,rfl,⟨hs1,hs2⟩,hss⟩:=hst2
    have HSS:=hid' hss
    have j1:(0:Int)≤(i:Int):=by omega
    have j2:(i:Int)<(F.length:Int):=by omega
    have wi:IntKind.i64.wrap ((i:Int)+1)=(i:Int)+1:=IntWalk.i64_in _ (by omega)
    have HX:=hid' hx
    have HI:=hid' hin
    have HSB:=hid' hs2
    have hs1':=hs1
    clear hst hss hs1 hs2 hx hin hfb
    go_upto_region 6 with(fail)
    have BX:=(Below.refl wr.heap.size wr).alloc (Nat.le_refl _) (.cells #[.string x.1,.slice sp x.2.length sc] 112)
    have hbx:=heap_alloc_new wr (.cells #[.string x.1,.slice sp x.2.length sc] 112)
    have HB6:=hid' (Below.more HW.out BX)
    have HSS6:=hid' (show StampsAt _ (.slice sp x.2.length sc) x.2 from(show StampsAt wr (.slice sp x.2.length sc) x.2 from⟨sp,sc,rfl,⟨hs1',HSB.out⟩,HSS.out⟩).below BX)
    have HBX:=hid' hbx
    clear BX hbx x0 x1 HSS
    generalize wr.alloc (.cells #[.string x.1,.slice sp x.2.length sc] 112)=w6 at *
    generalize wr.heap.size=xb at *
    have z0:=zaa HBX.out 0 _ rfl
    have z1:=zaa HBX.out 1 _ rfl
    have HXS:=hid' hxs
    clear hxs
    obtain⟨bad,hbad⟩:∃ bad,Hid (bad=Fd.headBad F i x):=⟨_,rfl⟩
    go_cut [41] (fun v wx=>v=.bool bad∧Hid (Below w6.heap.size w6 wx))
    case first=>
     have HC:=hid' (fun W=>znh x.1 W (by have:=HXS.out; omega))
     have hb:=hid' (show bad=(!Led.isName x.1 || (Fd.prevBad F i x.1 || decide (4096<x.2.length))) from hbad.out)
     have hlenI:decide ((4096:Int)<(x.2.length:Int))=decide (4096<x.2.length):=by
      by_cases h:4096<x.2.length
      ·rw[decide_eq_true h,decide_eq_true (by omega)]
      ·rw[decide_eq_false h,decide_eq_false (by omega)]
     generalize decide (4096<x.2.length)=ln at *
     have hbx:=(Below.refl w6.heap.size w6).drew
     clear z0 z1
     cases hn:Led.isName x.1 with
     |false=>
      rw[hn] at HC hb
      have hq:=hid' (show bad=true from hb.out)
      have HK:=hid' (fun (W:World) (b:Below w6.heap.size w6 W)=>And.intro (zaa (zad b HBX.out) 0 _ rfl) (And.intro (zaa (zad b HBX.out) 1 _ rfl) trivial))
      clear hn hb
      refine zam (fun w'=>Below w6.heap.size w6 w') (by kernel_rfl) (by kernel_rfl) hbx ?_
      repeat (first
       |(refine zaq ?_ ?_
         ·rfl
         simp only[Act.put,List.setIfInBounds_toArray,List.set_cons_zero,List.set_cons_succ])
       |(apply zal 33 #[.string x.1]
         ·rfl
         ·(intro w hSw; go_simp; done)
         ·(intro w hSw; exact(HC.out w).mono fun e w'' h=>⟨h.1,Below.more hSw h.2⟩)
         simp only[Act.put,List.setIfInBounds_toArray,List.set_cons_zero,List.set_cons_succ])
       |(apply zar
         ·rfl
         ·(intro w hSw; obtain⟨c0,c1,c2⟩:=HK.out w hSw; first|(go_simp; done)|(go_simp; with_reducible rfl))
         simp only[Act.put,List.setIfInBounds_toArray,List.set_cons_zero,List.set_cons_succ]))
      refine zas ?_
      intro w' hS'
      go_wp2_with fail
      go_meet
      exact⟨by rw[hq.out],hS'⟩
     |true=>
      rw[hn] at HC hb
      clear hn
      cases i with
      |zero=>
       have hq:=hid' (show bad=ln from hb.out)
       have g0:decide ((0:Int)<((0:Nat):Int))=false:=rfl
       have HK:=hid' (fun (W:World) (b:Below w6.heap.size w6 W)=>And.intro (zaa (zad b HBX.out) 0 _ rfl) (And.intro (zaa (zad b HBX.out) 1 _ rfl) trivial))
       clear hb
       refine zam (fun w'=>Below w6.heap.size w6 w') (by kernel_rfl) (by kernel_rfl) hbx ?_
       repeat (first
        |(refine zaq ?_ ?_
          ·rfl
          simp only[Act.put,List.setIfInBounds_toArray,List.set_cons_zero,List.set_cons_succ])
        |(apply zal 33 #[.string x.1]
          ·rfl
          ·(intro w hSw; obtain⟨c0,c1,c2⟩:=HK.out w hSw; go_simp; done)
          ·(intro w hSw; exact(HC.out w).mono fun e w'' h=>⟨h.1,Below.more hSw h.2⟩)
          simp only[Act.put,List.setIfInBounds_toArray,List.set_cons_zero,List.set_cons_succ])
        |(apply zar
          ·rfl
          ·(intro w hSw; obtain⟨c0,c1,c2⟩:=HK.out w hSw; first|(go_simp; done)|(go_simp; with_reducible rfl))
          simp only[Act.put,List.setIfInBounds_toArray,List.set_cons_zero,List.set_cons_succ]))
       refine zas ?_
       intro w' hS'
       go_wp2_with fail
       go_meet
       exact⟨by rw[hq.out],hS'⟩
      |succ j=>
       clear wi
       obtain⟨y,hy⟩:∃ y,F[j]? = some y:=⟨_,List.getElem?_eq_getElem (by have:=HI.out; omega)⟩
       obtain⟨fb',fo',sv',e, -,⟨y0, -⟩, -, -⟩:=HF.out j y hy
       obtain⟨rfl,rfl⟩:fb=fb'∧fo=fo':=by simpa using e
       have HK:=hid' (fun (W:World) (b:Below w6.heap.size w6 W)=>And.intro (zaa (zad b HBX.out) 0 _ rfl) (And.intro (zaa (zad b HBX.out) 1 _ rfl) (zan (Below.more HB6.out b) _ _ y0)))
       have hpv:Hid (Fd.prevBad F (j+1) x.1 = !Op.bytesLess y.1.toList x.1.toList):=hid' (by show(!Fd.lt (Fd.at' F j).1 x.1)=_; rw[Fd.at_eq hy]; rfl)
       have hq:=hid' (show bad=(!Op.bytesLess y.1.toList x.1.toList || ln) by rw[hb.out,hpv.out]; rfl)
       have g0:decide ((0:Int)<((j+1:Nat):Int))=true:=decide_eq_true (by omega)
       have g0n:decide (0<j+1)=true:=decide_eq_true (by omega)
       have g5:(0:Int)≤(j:Int):=by omega
       have g6:(j:Int)<(F.length:Int):=by have:=HI.out; omega
       have g3:IntKind.i64.wrap (j:Int)=(j:Int):=IntWalk.i64_in _ (by omega)
       have g4:IntKind.i64.wrap (((j+1:Nat):Int) - 1)=(j:Int):=by rw[IntWalk.i64_in _ (by omega)]; omega
       clear hb hpv hy e y0 j1 j2 hi
       cases hlt:Op.bytesLess y.1.toList x.1.toList with
       |true=>
        rw[hlt] at hq
        refine zam (fun w'=>Below w6.heap.size w6 w') (by kernel_rfl) (by kernel_rfl) hbx ?_
        repeat (first
         |(refine zaq ?_ ?_
           ·rfl
           simp only[Act.put,List.setIfInBounds_toArray,List.set_cons_zero,List.set_cons_succ])
         |(apply zal 33 #[.string x.1]
           ·rfl
           ·(intro w hSw; obtain⟨c0,c1,c2⟩:=HK.out w hSw; go_simp; done)
           ·(intro w hSw; exact(HC.out w).mono fun e w'' h=>⟨h.1,Below.more hSw h.2⟩)
           simp only[Act.put,List.setIfInBounds_toArray,List.set_cons_zero,List.set_cons_succ])
         |(apply zar
           ·rfl
           ·(intro w hSw; obtain⟨c0,c1,c2⟩:=HK.out w hSw; first|(go_simp; done)|(go_simp; with_reducible rfl))
           simp only[Act.put,List.setIfInBounds_toArray,List.set_cons_zero,List.set_cons_succ]))
        refine zas ?_
        intro w' hS'
        go_wp2_with fail
        go_meet
        exact⟨by rw[hq.out]; rfl,hS'⟩
       |false=>
        rw[hlt] at hq
        refine zam (fun w'=>Below w6.heap.size w6 w') (by kernel_rfl) (by kernel_rfl) hbx ?_
        repeat (first
         |(refine zaq ?_ ?_
           ·rfl
           simp only[Act.put,List.setIfInBounds_toArray,List.set_cons_zero,List.set_cons_succ])
         |(apply zal 33 #[.string x.1]
           ·rfl
           ·(intro w hSw; obtain⟨c0,c1,c2⟩:=HK.out w hSw; go_simp; done)
           ·(intro w hSw; exact(HC.out w).mono fun e w'' h=>⟨h.1,Below.more hSw h.2⟩)
           simp only[Act.put,List.setIfInBounds_toArray,List.set_cons_zero,List.set_cons_succ])
         |(apply zar
           ·rfl
           ·(intro w hSw; obtain⟨c0,c1,c2⟩:=HK.out w hSw; first|(go_simp; done)|(go_simp; with_reducible rfl))
           simp only[Act.put,List.setIfInBounds_toArray,List.set_cons_zero,List.set_cons_succ]))
        refine zas ?_
        intro w' hS'
        go_wp2_with fail
        go_meet
        exact⟨by rw[hq.out]; rfl,hS'⟩
    case rest=>
     obtain⟨rfl,HBC⟩:=hcut
     have HBX8:=hid' (zad HBC.out HBX.out)
     have HS8:=hid' (HSS6.out.below HBC.out)
     have HW8:=hid' (Below.more HB6.out HBC.out)
     clear z0 z1 HBX HSS6 HB6 HBC
     cases hbad2:bad with
     |true=>
      have hno:¬Fd.Ok F:=fun ok=>Fd.head_bad HI.out (hbad.out.symm.trans hbad2) (ok.2 i x HX.out)
      have e:=hid' (Fd.right_no hno)
      clear hno hbad2
      go_wp2_with fail
      go_ret
      exact⟨by rw[e.out]; rfl,HW8.out⟩
     |false=>
      have HG:=hid' (show Fd.headBad F i x=false from hbad.out.symm.trans hbad2)
      have HST0:=hid' (show ∀ k,k<0→∀ s,x.2[k]? = some s→Fd.StampOk x.2 k s from fun k hk=>by omega)
      have z1:=zaa HBX8.out 1 _ rfl
      clear hbad hbad2
      go_wp2_with fail
      clear z1
      go_loopw [45] (fun kv wz=>∃ k:Nat,kv=.int .i64 (k:Int)∧k≤x.2.length∧Hid (∀ m,m<k→∀ s,x.2[m]? = some s→Fd.StampOk x.2 m s)∧Hid (Below wc.heap.size wc wz)) (fun kv _=>x.2.length - (intOf kv).toNat)
      case atStart=>exact⟨0,rfl,Nat.zero_le _,HST0,Below.refl _ _⟩
      case round=>
       obtain⟨k,rfl,hk,HST,HZ⟩:=hrel
       clear wi
       by_cases hkn:k<x.2.length
       ·obtain⟨z,hz⟩:∃ z,x.2[k]? = some z:=⟨_,List.getElem?_eq_getElem hkn⟩
        have HSZ:=hid' (HS8.out.below HZ.out)
        obtain⟨sp',sc',e, -,hss⟩:=HSZ.out
        obtain⟨rfl,rfl⟩:sp=sp'∧sc=sc':=by simpa using e
        obtain⟨sb,so,rfl, -,⟨y0,y1⟩, -, -⟩:=hss k z hz
        have HSS:=hid' hss
        have HBZ:=hid' (zad HZ.out HBX8.out)
        have k1:(0:Int)≤(k:Int):=by omega
        have k2:(k:Int)<(x.2.length:Int):=by omega
        have HZ1:=hid' hz
        have HKN:=hid' hkn
        have wk:IntKind.i64.wrap ((k:Int)+1)=(k:Int)+1:=IntWalk.i64_in _ (by have:=HSB.out; unfold maxLen at this; omega)
        clear e hss hz hkn
        go_upto_region 11 with(fail)
        have BX:=(Below.refl wr.heap.size wr).alloc (Nat.le_refl _) (.cells #[.int .i64 z.1,.int .i64 z.2] 114)
        have hbx9:=heap_alloc_new wr (.cells #[.int .i64 z.1,.int .i64 z.2] 114)
        have HB9:=hid' (Below.more HZ.out BX)
        have HBX9:=hid' hbx9
        have HFX9:=hid' (zad BX HBZ.out)
        have HKA:=hid' (zan BX)
        clear BX hbx9 y0 y1 HBZ
        generalize wr.alloc (.cells #[.int .i64 z.1,.int .i64 z.2] 114)=w9 at *
        generalize wr.heap.size=zb at *
        obtain⟨bad2,hbad⟩:∃ bad2,Hid (bad2=Fd.stampBad x.2 k z):=⟨_,rfl⟩
        go_cut [77] (fun v wx=>v=.bool bad2∧Hid (Below w9.heap.size w9 wx))
        case first=>
         have hb:=hid' (show bad2=(!(decide (0≤z.1) && decide (z.1≤73048)) || (Fd.prevLate x.2 k z.1 || !(z.2 == Num.clamp z.2))) from hbad.out)
         have hbx:=(Below.refl w9.heap.size w9).drew
         obtain⟨D,hD⟩:∃ D,(decide (0≤z.1) && decide (z.1≤73048))=D:=⟨_,rfl⟩
         obtain⟨cl,hcl⟩:∃ cl,(z.2 == Num.clamp z.2)=cl:=⟨_,rfl⟩
         rw[hD,hcl] at hb
         have hday:=hD
         have hcl2:(z.2 != Num.clamp z.2) = !cl:=by rw[←hcl]; rfl
         have HK0:=hid' (fun (W:World) (b:Below w9.heap.size w9 W)=>And.intro (zaa (zad b HBX9.out) 0 _ rfl) (And.intro (zaa (zad b HBX9.out) 1 _ rfl) (zaa (zad b HFX9.out) 1 _ rfl)))
         clear hD hcl
         cases D with
         |false=>
          have HK:=hid' (fun (W:World) (b:Below w9.heap.size w9 W)=>And.intro (HK0.out W b).1 (And.intro (HK0.out W b).2.1 (And.intro (HK0.out W b).2.2 trivial)))
          have hq:=hid' (show bad2=true from hb.out)
          clear hb wk
          refine zam (fun w'=>Below w9.heap.size w9 w') (by kernel_rfl) (by kernel_rfl) hbx ?_
          repeat (first
           |(refine zaq ?_ ?_
             ·rfl
             simp only[Act.put,List.setIfInBounds_toArray,List.set_cons_zero,List.set_cons_succ])
           |(apply zal 29 #[.int .i64 z.1]
             ·rfl
             ·(intro w hSw; obtain⟨c0,c1,c2,c3⟩:=HK.out w hSw; go_simp; done)
             ·(intro w hSw; exact(zff z.1 w).mono fun e w'' h=>⟨by rw[h.1,hday],by rw[h.2]; exact hSw⟩)
             simp only[Act.put,List.setIfInBounds_toArray,List.set_cons_zero,List.set_cons_succ])
           |(apply zal 36 #[.int .i64 z.2]
             ·rfl
             ·(intro w hSw; obtain⟨c0,c1,c2,c3⟩:=HK.out w hSw; go_simp; done)
             ·(intro w hSw; exact(zcg z.2 w).mono fun e w'' h=>⟨h.1,by rw[h.2]; exact hSw⟩)
             simp only[Act.put,List.setIfInBounds_toArray,List.set_cons_zero,List.set_cons_succ])
           |(apply zar
             ·rfl
             ·(intro w hSw; obtain⟨c0,c1,c2,c3⟩:=HK.out w hSw; first|(go_simp; done)|(go_simp; with_reducible rfl))
             simp only[Act.put,List.setIfInBounds_toArray,List.set_cons_zero,List.set_cons_succ]))
          refine zas ?_
          intro w' hS'
          go_wp2_with fail
          go_meet
          exact⟨by rw[hq.out],hS'⟩
         |true=>
          cases k with
          |zero=>
           have HK:=hid' (fun (W:World) (b:Below w9.heap.size w9 W)=>And.intro (HK0.out W b).1 (And.intro (HK0.out W b).2.1 (And.intro (HK0.out W b).2.2 trivial)))
           have g0:decide ((0:Int)<((0:Nat):Int))=false:=rfl
           have hq:=hid' (show bad2 = !cl from hb.out)
           clear hb wk
           refine zam (fun w'=>Below w9.heap.size w9 w') (by kernel_rfl) (by kernel_rfl) hbx ?_
           repeat (first
            |(refine zaq ?_ ?_
              ·rfl
              simp only[Act.put,List.setIfInBounds_toArray,List.set_cons_zero,List.set_cons_succ])
            |(apply zal 29 #[.int .i64 z.1]
              ·rfl
              ·(intro w hSw; obtain⟨c0,c1,c2,c3⟩:=HK.out w hSw; go_simp; done)
              ·(intro w hSw; exact(zff z.1 w).mono fun e w'' h=>⟨by rw[h.1,hday],by rw[h.2]; exact hSw⟩)
              simp only[Act.put,List.setIfInBounds_toArray,List.set_cons_zero,List.set_cons_succ])
            |(apply zal 36 #[.int .i64 z.2]
              ·rfl
              ·(intro w hSw; obtain⟨c0,c1,c2,c3⟩:=HK.out w hSw; go_simp; done)
              ·(intro w hSw; exact(zcg z.2 w).mono fun e w'' h=>⟨h.1,by rw[h.2]; exact hSw⟩)
              simp only[Act.put,List.setIfInBounds_toArray,List.set_cons_zero,List.set_cons_succ])
            |(apply zar
              ·rfl
              ·(intro w hSw; obtain⟨c0,c1,c2,c3⟩:=HK.out w hSw; first|(go_simp; done)|(go_simp; with_reducible rfl))
              simp only[Act.put,List.setIfInBounds_toArray,List.set_cons_zero,List.set_cons_succ]))
           refine zas ?_
           intro w' hS'
           go_wp2_with fail
           go_meet
           exact⟨by rw[hq.out],hS'⟩
          |succ m=>
           clear wk
           obtain⟨u,hu⟩:∃ u,x.2[m]? = some u:=⟨_,List.getElem?_eq_getElem (by have:=HKN.out; omega)⟩
           obtain⟨sb',so',e, -,⟨y0, -⟩, -, -⟩:=HSS.out m u hu
           obtain⟨rfl,rfl⟩:sb=sb'∧so=so':=by simpa using e
           have HK:=hid' (fun (W:World) (b:Below w9.heap.size w9 W)=>And.intro (HK0.out W b).1 (And.intro (HK0.out W b).2.1 (And.intro (HK0.out W b).2.2 (zan b _ _ (HKA.out _ _ y0)))))
           have hpv:Hid (Fd.prevLate x.2 (m+1) z.1=decide (z.1≤u.1)):=hid' (by show decide (z.1≤(Fd.stampAt x.2 m).1)=_; rw[Fd.stampAt_eq hu])
           have hq:=hid' (show bad2=(decide (z.1≤u.1) || !cl) by rw[hb.out,hpv.out]; rfl)
           have g0:decide ((0:Int)<((m+1:Nat):Int))=true:=decide_eq_true (by omega)
           have g0n:decide (0<m+1)=true:=decide_eq_true (by omega)
           have g5:(0:Int)≤(m:Int):=by omega
           have g6:(m:Int)<(x.2.length:Int):=by have:=HKN.out; omega
           have g3:IntKind.i64.wrap (m:Int)=(m:Int):=IntWalk.i64_in _ (by have:=HSB.out; unfold maxLen at this; omega)
           have g4:IntKind.i64.wrap (((m+1:Nat):Int) - 1)=(m:Int):=by rw[IntWalk.i64_in _ (by have:=HSB.out; unfold maxLen at this; omega)]; omega
           obtain⟨lt2,hlt⟩:∃ lt2,decide (z.1≤u.1)=lt2:=⟨_,rfl⟩
           rw[hlt] at hq
           clear hb hpv hu e y0 k1 k2 hk
           cases lt2 with
           |true=>
            refine zam (fun w'=>Below w9.heap.size w9 w') (by kernel_rfl) (by kernel_rfl) hbx ?_
            repeat (first
             |(refine zaq ?_ ?_
               ·rfl
               simp only[Act.put,List.setIfInBounds_toArray,List.set_cons_zero,List.set_cons_succ])
             |(apply zal 29 #[.int .i64 z.1]
               ·rfl
               ·(intro w hSw; obtain⟨c0,c1,c2,c3⟩:=HK.out w hSw; go_simp; done)
               ·(intro w hSw; exact(zff z.1 w).mono fun e w'' h=>⟨by rw[h.1,hday],by rw[h.2]; exact hSw⟩)
               simp only[Act.put,List.setIfInBounds_toArray,List.set_cons_zero,List.set_cons_succ])
             |(apply zal 36 #[.int .i64 z.2]
               ·rfl
               ·(intro w hSw; obtain⟨c0,c1,c2,c3⟩:=HK.out w hSw; go_simp; done)
               ·(intro w hSw; exact(zcg z.2 w).mono fun e w'' h=>⟨h.1,by rw[h.2]; exact hSw⟩)
               simp only[Act.put,List.setIfInBounds_toArray,List.set_cons_zero,List.set_cons_succ])
             |(apply zar
               ·rfl
               ·(intro w hSw; obtain⟨c0,c1,c2,c3⟩:=HK.out w hSw; first|(go_simp; done)|(go_simp; with_reducible rfl))
               simp only[Act.put,List.setIfInBounds_toArray,List.set_cons_zero,List.set_cons_succ]))
            refine zas ?_
            intro w' hS'
            go_wp2_with fail
            go_meet
            exact⟨by rw[hq.out]; rfl,hS'⟩
           |false=>
            refine zam (fun w'=>Below w9.heap.size w9 w') (by kernel_rfl) (by kernel_rfl) hbx ?_
            repeat (first
             |(refine zaq ?_ ?_
               ·rfl
               simp only[Act.put,List.setIfInBounds_toArray,List.set_cons_zero,List.set_cons_succ])
             |(apply zal 29 #[.int .i64 z.1]
               ·rfl
               ·(intro w hSw; obtain⟨c0,c1,c2,c3⟩:=HK.out w hSw; go_simp; done)
               ·(intro w hSw; exact(zff z.1 w).mono fun e w'' h=>⟨by rw[h.1,hday],by rw[h.2]; exact hSw⟩)
               simp only[Act.put,List.setIfInBounds_toArray,List.set_cons_zero,List.set_cons_succ])
             |(apply zal 36 #[.int .i64 z.2]
               ·rfl
               ·(intro w hSw; obtain⟨c0,c1,c2,c3⟩:=HK.out w hSw; go_simp; done)
               ·(intro w hSw; exact(zcg z.2 w).mono fun e w'' h=>⟨h.1,by rw[h.2]; exact hSw⟩)
               simp only[Act.put,List.setIfInBounds_toArray,List.set_cons_zero,List.set_cons_succ])
             |(apply zar
               ·rfl
               ·(intro w hSw; obtain⟨c0,c1,c2,c3⟩:=HK.out w hSw; first|(go_simp; done)|(go_simp; with_reducible rfl))
               simp only[Act.put,List.setIfInBounds_toArray,List.set_cons_zero,List.set_cons_succ]))
            refine zas ?_
            intro w' hS'
            go_wp2_with fail
            go_meet
            exact⟨by rw[hq.out]; rfl,hS'⟩
        case rest=>
         obtain⟨rfl,HBC9⟩:=hcut
         have HZ9:=hid' (Below.more HB9.out HBC9.out)
         have HW9:=hid' (Below.more HW8.out HZ9.out)
         clear HBX9 HFX9 HKA HBC9 HB9
         cases hb2:bad2 with
         |true=>
          have hno:¬Fd.Ok F:=fun ok=>Fd.stamp_bad HKN.out (hbad.out.symm.trans hb2) ((ok.2 i x HX.out).stamps k z HZ1.out)
          have e:=hid' (Fd.right_no hno)
          clear hno hb2 wk
          go_wp2_with fail
          go_ret
          exact⟨by rw[e.out]; rfl,HW9.out⟩
         |false=>
          have hgood:=Fd.stamp_good (hbad.out.symm.trans hb2)
          have hnext:∀ m,m<k+1→∀ s,x.2[m]? = some s→Fd.StampOk x.2 m s:=fun m hm s hs=>by
           rcases(by omega:m<k∨m=k) with h|rfl
           ·exact HST.out m h s hs
           ·obtain rfl:z=s:=by have:=HZ1.out.symm.trans hs; simpa using this
            exact hgood
          have HN:=hid' hnext
          clear hgood hnext hb2
          go_wp2_with fail
          go_roundw
          case rel=>exact⟨k+1,by go_num,by have:=HKN.out; omega,HN,HZ9⟩
          case measure=>have:=HKN.out; simp[intOf]; omega
       ·obtain rfl:k=x.2.length:=by omega
        have hok:=Fd.feed_good HG.out (fun m s hm=>HST.out m (List.getElem?_eq_some_iff.1 hm).1 s hm)
        have HNX:=hid' (show ∀ j,j<i+1→∀ f,F[j]? = some f→Fd.FeedOk F j f from fun j hj f hf=>by
         rcases(by omega:j<i∨j=i) with h|rfl
         ·exact HA.out j h f hf
         ·obtain rfl:x=f:=by have:=HX.out.symm.trans hf; simpa using this
          exact hok)
        have j3:decide (x.2.length<x.2.length)=false:=by simp
        have wi:IntKind.i64.wrap ((i:Int)+1)=(i:Int)+1:=IntWalk.i64_in _ (by omega)
        clear hok hkn
        go_wp2_with fail
        go_roundw
        case rel=>exact⟨i+1,by go_num,by have:=HI.out; omega,HNX,Below.more HW8.out HZ.out⟩
        case measure=>have:=HI.out; simp[intOf]; omega
   ·obtain rfl:i=F.length:=by omega
    have e:=hid' (Fd.right_yes (F:=F) ⟨HLE.out,fun j f hj=>HA.out j (List.getElem?_eq_some_iff.1 hj).1 f hj⟩)
    have j3:decide (F.length<F.length)=false:=by simp
    clear hin
    go_wp2_with fail
    go_ret
    exact⟨by rw[e.out]; rfl,HW.out⟩
end
section
open Go.RowKit
open Gen
open Rw
set_option maxRecDepth 100000
namespace Vm
open Gen
def picksB (lab:ByteArray)(wh:Int):Bool:=Led.isName lab && (decide (wh=1) || decide (wh=2))
def noPick (lab:ByteArray)(wh:Int):Bool:=decide (lab=⟨#[]⟩) && decide (wh=0)
def holdBad (c:Cd)(x:Int × Int):Bool:=decide (x.1<0) || (decide ((c.waits.length:Int)≤x.1) || !(x.2 == Num.clamp x.2))
def qge:Wt:=⟨0,0,⟨#[]⟩,0,0⟩
def waitAt (c:Cd)(n:Int):Wt:=(c.waits[n.toNat]?).getD qge
def entryOf (c:Cd)(lab:ByteArray)(wh n:Int):Int:=
 if picksB lab wh=true∧(waitAt c n).label=lab then(if wh=1 then(waitAt c n).first else(waitAt c n).second) else(waitAt c n).entry
noncomputable def stepOk (c:Cd)(L:List (Int × Int))(day:Int)(F:List Fd.Feed)(lab:ByteArray)(wh:Int):Bool:=
 (picksB lab wh || noPick lab wh) && (right c && ((decide (0≤day) && decide (day≤73048)) && (Fd.right F && (decide (L.length≤250) && !L.any (holdBad c)))))
noncomputable def step (c:Cd)(L:List (Int × Int))(day:Int)(F:List Fd.Feed)(lab:ByteArray)(wh:Int):Option St:=
 if stepOk c L day F lab wh=true∧(all c (env F day) (entryOf c lab wh) L st0).over=false then some (all c (env F day) (entryOf c lab wh) L st0) else none
theorem entry_lt {c:Cd}(h:right c=true){x:Int × Int}(hx:holdBad c x=false){lab:ByteArray}{wh:Int}:0≤entryOf c lab wh x.1∧entryOf c lab wh x.1<c.ins.length:=by
 unfold holdBad at hx
 simp only[Bool.or_eq_false_iff,decide_eq_false_iff_not] at hx
 obtain⟨h1,h2,_⟩:=hx
 have hlt:x.1.toNat<c.waits.length:=by omega
 have hw:waitAt c x.1=c.waits[x.1.toNat]:=by unfold waitAt; rw[List.getElem?_eq_getElem hlt]; rfl
 have hmem:=List.getElem_mem hlt
 rw[←hw] at hmem
 have hok:=(zbl h).2.2.2.2.2.1 _ hmem
 unfold entryOf
 split
 ·rename_i hp
  unfold zeq at hok
  simp only[Bool.and_eq_true] at hok
  have hne:¬(waitAt c x.1).label=⟨#[]⟩:=by
   rw[hp.2]
   intro e
   have h3:=hp.1
   unfold picksB at h3
   rw[e,show Led.isName (⟨#[]⟩:ByteArray)=false from rfl] at h3
   cases h3
  have h4:=hok.2.2
  rw[if_neg hne] at h4
  simp only[Bool.and_eq_true] at h4
  split
  ·exact znu h4.2.1
  ·exact znu h4.2.2
 ·exact zto h hmem
theorem all_take (c:Cd)(E:Env)(entry:Int→Int)(l:List (Int × Int))(i:Nat)(x:Int × Int)(h:l[i]? = some x):all c E entry (l.take (i+1)) st0=run c E (entry x.1) x.2 zeros (all c E entry (l.take i) st0):=by
 have:l.take (i+1)=l.take i++[x]:=by
  rw[List.take_add_one,h]; rfl
 unfold all
 rw[this,List.foldl_append]
 rfl
theorem st0_ok:StOk st0:=⟨by simp[st0],by simp[st0],by simp[st0],fun _=>by simp[st0]⟩
theorem run_ok2 (c:Cd)(E:Env)(hr:right c=true){a:Nat}(ha:a<c.ins.length)(f:Int){st:St}{i:Nat}(hs:StOk st)(hb:st.steps≤82000+i)(hi:i≤250):StOk (run c E (a:Int) f zeros st)∧(run c E (a:Int) f zeros st).steps≤82000+(i+1):=by
 have hn:c.ins.length≤16384:=(zbl hr).2.2.2.1
 cases ho:st.over with
 |true=>
  rw[run_out _ _ _ _ _ (.inr ho)]
  obtain⟨k1,k2,k3,k4⟩:=hs
  exact⟨⟨by simp only; omega,by simp only; omega,by simp only; omega,fun h=>by cases h⟩,by simp only; omega⟩
 |false=>
  have:=run_ok c E hr _ a f zeros st (Nat.le_refl _) ha hs ho
  exact⟨this.1,by omega⟩
end Vm
def zip:Value:=.tuple #[.slice none 0 0,.slice none 0 0,.int .i64 0,.int .i64 180]
def zhx (st:Vm.St)(vh vo:Value):Value:=bif st.over then zip else .tuple #[vh,vo,.int .i64 (st.steps:Int),.int .i64 0]
theorem zsi (W0:World)(mb:Nat)(c:Gen.Cd)(day:Int)(vw vi vf:Value)(st:Vm.St)(vh vo:Value)(w:World)(h:Mach W0 mb c day vw vi vf st vh vo w):
  Calls Tryz.prog 32 #[.pointer (some ⟨mb,0,none⟩)] w (zaj (zhx st vh vo) w):=by
 have q5:=zaa h.box 5 _ rfl
 have q6:=zaa h.box 6 _ rfl
 have q7:=zaa h.box 7 _ rfl
 have q8:=zaa h.box 8 _ rfl
 obtain⟨H,O,s,o⟩:=st
 obtain⟨hp,hc,rfl⟩:=zay h.hs
 obtain⟨op,oc,rfl⟩:=zay h.ts
 simp only at q5 q6 q7 q8
 clear h
 cases o with
 |true=>
  go_enter Tryz.func32,Tryz.ntmps32
  go_wp2_with fail
  exact bodyPost_ret (zcd rfl _ _ _) rfl ⟨rfl,Below.refl _ _⟩
 |false=>
  go_enter Tryz.func32,Tryz.ntmps32
  go_wp2_with fail
  go_quiet (fail)
  go_wp2_with fail
  exact bodyPost_ret (zcd rfl _ _ _) rfl ⟨rfl,Below.drewn (Below.refl _ _) _⟩
theorem zzo (c:Gen.Cd)(b5:Nat)(wp:Option Addr)(wc:Nat)(x:Int × Int)(W:World)(h5:W.cell? ⟨b5,1,none⟩=some (.slice wp c.waits.length wc)):
  Calls Tryz.prog 35 (#[.agg #[.int .i64 x.1,.int .i64 x.2]]++#[.pointer (some ⟨b5,0,none⟩)]) W (zaj (.bool (Vm.holdBad c x)) W):=by
 obtain⟨n,f⟩:=x
 have hb:=hid' (show Vm.holdBad c (n,f)=(decide (n<0) || (decide ((c.waits.length:Int)≤n) || !(f == Num.clamp f))) from rfl)
 obtain⟨bad,hbad⟩:∃ bad,Vm.holdBad c (n,f)=bad:=⟨_,rfl⟩
 rw[hbad] at hb ⊢
 clear hbad
 have HC:=hid' (fun W=>zcg f W)
 have B0:=(Below.refl W.heap.size W).alloc (Nat.le_refl _) (.cells #[.int .i64 n,.int .i64 f] 52)
 have HBX:=hid' (show(W.alloc (.cells #[.int .i64 n,.int .i64 f] 52)).heap[W.heap.size]? = some (.cells #[.int .i64 n,.int .i64 f] 52 (0,0)) from heap_alloc_new W _)
 have H5:=hid' (zan B0 _ _ h5)
 have HB0:=hid' B0
 obtain⟨cl,hcl⟩:∃ cl,(f == Num.clamp f)=cl:=⟨_,rfl⟩
 rw[hcl] at hb
 have hcl2:(f != Num.clamp f) = !cl:=by rw[←hcl]; rfl
 generalize Num.clamp f=g at *
 clear hcl B0 h5
 go_enter Tryz.func35,Tryz.ntmps35
 go_upto_region 1 with(fail)
 generalize W.alloc (.cells #[.int .i64 n,.int .i64 f] 52)=w1 at *
 obtain⟨xb,hxb⟩:∃ xb,xb=W.heap.size:=⟨_,rfl⟩
 rw[←hxb] at HBX ⊢
 clear hxb
 have hbx:=(Below.refl w1.heap.size w1).drew
 have HK:=hid' (fun (W':World) (b:Below w1.heap.size w1 W')=>And.intro (zaa (zad b HBX.out) 0 _ rfl) (And.intro (zaa (zad b HBX.out) 1 _ rfl) (zan b _ _ H5.out)))
 by_cases h1:n<0
 ·have g1:decide (n<0)=true:=decide_eq_true h1
  rw[g1] at hb
  have hq:=hid' (show bad=true from hb.out)
  clear h1 hb
  refine zam (fun w'=>Below w1.heap.size w1 w') (by kernel_rfl) (by kernel_rfl) hbx ?_
  repeat (first
   |(refine zaq ?_ ?_
     ·rfl
     simp only[Act.put,List.setIfInBounds_toArray,List.set_cons_zero,List.set_cons_succ])
   |(apply zal 36 #[.int .i64 f]
     ·rfl
     ·(intro w hSw; obtain⟨c0,c1,c2⟩:=HK.out w hSw; go_simp; done)
     ·(intro w hSw; exact(HC.out w).mono fun e w'' h=>⟨h.1,by rw[h.2]; exact hSw⟩)
     simp only[Act.put,List.setIfInBounds_toArray,List.set_cons_zero,List.set_cons_succ])
   |(apply zar
     ·rfl
     ·(intro w hSw; obtain⟨c0,c1,c2⟩:=HK.out w hSw; first|(go_simp; done)|(go_simp; with_reducible rfl))
     simp only[Act.put,List.setIfInBounds_toArray,List.set_cons_zero,List.set_cons_succ]))
  refine zas ?_
  intro w' hS'
  go_wp2_with fail
  go_ret
  exact⟨by rw[hq.out]; rfl,Below.more HB0.out hS'⟩
 ·have g1:decide (n<0)=false:=decide_eq_false h1
  rw[g1] at hb
  by_cases h2:(c.waits.length:Int)≤n
  ·have g2:decide ((c.waits.length:Int)≤n)=true:=decide_eq_true h2
   rw[g2] at hb
   have hq:=hid' (show bad=true from hb.out)
   clear h1 h2 hb
   refine zam (fun w'=>Below w1.heap.size w1 w') (by kernel_rfl) (by kernel_rfl) hbx ?_
   repeat (first
    |(refine zaq ?_ ?_
      ·rfl
      simp only[Act.put,List.setIfInBounds_toArray,List.set_cons_zero,List.set_cons_succ])
    |(apply zal 36 #[.int .i64 f]
      ·rfl
      ·(intro w hSw; obtain⟨c0,c1,c2⟩:=HK.out w hSw; go_simp; done)
      ·(intro w hSw; exact(HC.out w).mono fun e w'' h=>⟨h.1,by rw[h.2]; exact hSw⟩)
      simp only[Act.put,List.setIfInBounds_toArray,List.set_cons_zero,List.set_cons_succ])
    |(apply zar
      ·rfl
      ·(intro w hSw; obtain⟨c0,c1,c2⟩:=HK.out w hSw; first|(go_simp; done)|(go_simp; with_reducible rfl))
      simp only[Act.put,List.setIfInBounds_toArray,List.set_cons_zero,List.set_cons_succ]))
   refine zas ?_
   intro w' hS'
   go_wp2_with fail
   go_ret
   exact⟨by rw[hq.out]; rfl,Below.more HB0.out hS'⟩
  ·have g2:decide ((c.waits.length:Int)≤n)=false:=decide_eq_false h2
   rw[g2] at hb
   have hq:=hid' (show bad = !cl from hb.out)
   clear h1 h2 hb
   refine zam (fun w'=>Below w1.heap.size w1 w') (by kernel_rfl) (by kernel_rfl) hbx ?_
   repeat (first
    |(refine zaq ?_ ?_
      ·rfl
      simp only[Act.put,List.setIfInBounds_toArray,List.set_cons_zero,List.set_cons_succ])
    |(apply zal 36 #[.int .i64 f]
      ·rfl
      ·(intro w hSw; obtain⟨c0,c1,c2⟩:=HK.out w hSw; go_simp; done)
      ·(intro w hSw; exact(HC.out w).mono fun e w'' h=>⟨h.1,by rw[h.2]; exact hSw⟩)
      simp only[Act.put,List.setIfInBounds_toArray,List.set_cons_zero,List.set_cons_succ])
    |(apply zar
      ·rfl
      ·(intro w hSw; obtain⟨c0,c1,c2⟩:=HK.out w hSw; first|(go_simp; done)|(go_simp; with_reducible rfl))
      simp only[Act.put,List.setIfInBounds_toArray,List.set_cons_zero,List.set_cons_succ]))
   refine zas ?_
   intro w' hS'
   go_wp2_with fail
   go_ret
   exact⟨by rw[hq.out]; rfl,Below.more HB0.out hS'⟩
def zue (o:Option Vm.St)(day:Int)(w:World)(e:Ending)(w':World):Prop:=
 Below w.heap.size w w'∧match o with
  |none=>e=.returned zip
  |some st=>Vm.StOk st∧∃ vh vo,e=.returned (.tuple #[vh,vo,.int .i64 (st.steps:Int),.int .i64 0])∧HoldRow w.heap.size w' vh st.holds∧TranRow w.heap.size w' vo day st.out
set_option maxHeartbeats 4000000 in
theorem zrt (c:Gen.Cd)(b5:Nat)(wp:Option Addr)(wc:Nat)(vl:Value)(L:List (Int × Int))(W:World)(h5:W.cell? ⟨b5,1,none⟩=some (.slice wp c.waits.length wc))(hl:StampsAt W vl L):
  Calls Tryz.prog 65 #[vl,.func (.func 35) #[] #[.pointer (some ⟨b5,0,none⟩)]] W fun e w'=>(∃ k:Int,e=.returned (.int .i64 k)∧decide (0≤k)=L.any (Vm.holdBad c))∧Below W.heap.size W w':=by
 obtain⟨lp,lc,rfl,⟨hl1,hl2⟩,hc⟩:=hl
 have HC:=hid' hc
 have H5:=hid' h5
 have hbig:(L.length:Int)≤9223372036854775807:=by unfold maxLen at hl2; omega
 have HA0:=hid' (show ∀ j,j<0→∀ x,L[j]? = some x→Vm.holdBad c x=false from fun j hj=>by omega)
 clear hc h5 hl1 hl2
 go_enter Tryz.func65,Tryz.ntmps65
 go_wp2_with fail
 go_loopw [8] (fun iv wr=>∃ i:Nat,iv=.int .i64 (i:Int)∧i≤L.length∧Hid (∀ j,j<i→∀ x,L[j]? = some x→Vm.holdBad c x=false)∧Hid (Below W.heap.size W wr)) (fun iv _=>L.length - (intOf iv).toNat)
 case atStart=>exact⟨0,rfl,Nat.zero_le _,HA0,Below.refl _ _⟩
 case round=>
  obtain⟨i,rfl,hi,HA,HW⟩:=hrel
  by_cases hin:i<L.length
  ·obtain⟨x,hx⟩:∃ x,L[i]? = some x:=⟨_,List.getElem?_eq_getElem hin⟩
   obtain⟨lb,lo,rfl, -,⟨y0,y1⟩, -, -⟩:=HC.out i x hx
   replace y0:=zan HW.out _ _ y0
   replace y1:=zan HW.out _ _ y1
   have j1:(0:Int)≤(i:Int):=by omega
   have j2:(i:Int)<(L.length:Int):=by omega
   have wi:IntKind.i64.wrap ((i:Int)+1)=(i:Int)+1:=IntWalk.i64_in _ (by omega)
   have HF:=hid' (zzo c b5 wp wc x wr (zan HW.out _ _ H5.out))
   have HX:=hid' hx
   have HI:=hid' hin
   clear hx hin
   cases hb:Vm.holdBad c x with
   |true=>
    rw[hb] at HF
    have hany:=hid' (show L.any (Vm.holdBad c)=true from List.any_eq_true.2 ⟨x,List.mem_of_getElem? HX.out,hb⟩)
    clear hb
    go_wp2_with (first|(go_at_call 35; refine HF.out.mono ?_; rintro e w2 ⟨rfl,b2⟩; have HB2:=hid' (Below.more HW.out b2); clear b2))
    go_ret
    exact⟨⟨_,rfl,by rw[hany.out]; exact decide_eq_true j1⟩,HB2.out⟩
   |false=>
    rw[hb] at HF
    have HN:=hid' (show ∀ j,j<i+1→∀ z,L[j]? = some z→Vm.holdBad c z=false from fun j hj z hz=>by
     rcases(by omega:j<i∨j=i) with h|rfl
     ·exact HA.out j h z hz
     ·obtain rfl:x=z:=by have:=HX.out.symm.trans hz; simpa using this
      exact hb)
    clear hb
    go_wp2_with (first|(go_at_call 35; refine HF.out.mono ?_; rintro e w2 ⟨rfl,b2⟩; have HB2:=hid' (Below.more HW.out b2); clear b2))
    go_roundw
    case rel=>exact⟨i+1,by go_num,by have:=HI.out; omega,HN,HB2⟩
    case measure=>have:=HI.out; simp[intOf]; omega
  ·obtain rfl:i=L.length:=by omega
   have hany:=hid' (show L.any (Vm.holdBad c)=false by
    rw[List.any_eq_false]
    intro x hx
    obtain⟨j,hj⟩:=List.getElem?_of_mem hx
    rw[HA.out j (List.getElem?_eq_some_iff.1 hj).1 x hj]
    exact Bool.false_ne_true)
   have j3:decide (L.length<L.length)=false:=by simp
   clear hin
   go_wp2_with fail
   go_ret
   exact⟨⟨-1,rfl,by rw[hany.out]; rfl⟩,HW.out⟩
theorem zod (c:Gen.Cd)(b5:Nat)(wp:Option Addr)(wc:Nat)(vl:Value)(L:List (Int × Int))(W:World)(h5:W.cell? ⟨b5,1,none⟩=some (.slice wp c.waits.length wc))(hl:StampsAt W vl L):
  Calls Tryz.prog 34 #[vl,.func (.func 35) #[] #[.pointer (some ⟨b5,0,none⟩)]] W (zaj (.bool (L.any (Vm.holdBad c))) W):=by
 have HI:=hid' (zrt c b5 wp wc vl L W h5 hl)
 clear h5 hl
 generalize L.any (Vm.holdBad c)=r at *
 go_enter Tryz.func34,Tryz.ntmps34
 go_wp2_with (first|(go_at_call 65; refine HI.out.mono ?_; rintro e w2 ⟨⟨k,rfl,hk⟩,b2⟩))
 go_ret
 exact⟨by rw[←hk]; rfl,b2⟩
end
end Go.Proofs.YtanlmbbalamgkaaGreatDoor

/- Proved: lemmas and contracts of the functions that the law reaches, part 36 of 36: SmIdle2, VmIdleL. Conditions: as each states. -/
import Derived.Test.YtanlmbbalamgkaaGreatDoorVmi34
import Derived.Test.YtanlmbbalamgkaaGreatDoorVmi35
namespace Go.Proofs.YtanlmbbalamgkaaGreatDoor
set_option linter.unusedVariables false
set_option linter.unusedSimpArgs false
section
open Go.RowKit
namespace Sm
open Co Gen Dn Gf
theorem znq {c:Gen.Cd}{day:Int}{F:List Fd.Feed}{st:Vm.St}(h:Vm.begin' c day F=some st):Gen.right c=true∧(decide (0≤day) && decide (day≤73048))=true∧Fd.right F=true∧Vm.run c (Vm.env F day) 0 1000000 Vm.zeros Vm.st0=st:=by
 unfold Vm.begin' at h
 split at h
 ·rename_i h1
  cases h
  have h2:=h1.1
  unfold Vm.beginOk at h2
  simp only[Bool.and_eq_true] at h2
  exact⟨h2.1,by simp only[Bool.and_eq_true]; exact h2.2.1,h2.2.2,rfl⟩
 ·cases h
theorem zxp {t:T}{p day:Int}{F:List Fd.Feed}(h:zeo t p≠0):Vm.begin' (zbx t p) day F=none:=by
 cases hb:Vm.begin' (zbx t p) day F with
 |none=>rfl
 |some st=>
  have:=(znq hb).1
  unfold zbx at this
  rw[if_neg h] at this
  cases this
theorem idle_law {t:T}{p day:Int}{F:List Fd.Feed}{st:Vm.St}(hb:Vm.begin' (zbx t p) day F=some st):
  zeo t p=0∧Gen.right (zbx t p)=true∧(∀ x∈st.holds,I64 x.1∧I64 x.2)∧∃ st',Vm.step (zbx t p) st.holds day F ⟨#[]⟩ 0=some st'∧st'.holds.map Prod.snd=st.holds.map Prod.snd∧st'.out=[]∧st'.steps≤(zbx t p).ins.length:=by
 by_cases hc:zeo t p=0
 ·obtain⟨h1,h2,h3,h4⟩:=znq hb
  refine⟨hc,h1,?_⟩
  obtain⟨sh,e1,hx,hd⟩:=qal hc
  have e2:zbx t p=(make sh (t.rw p)).code:=by unfold zbx; rw[if_pos hc]; exact e1
  rw[e2] at h1 h4 ⊢
  refine⟨?_,zzn h1 hx hd h2 h3 h4⟩
  obtain⟨k,hs,a1,a2,g0,g1,g2,g3⟩:=qea F day h1 hx hd
  rw[g0] at h4
  subst h4
  obtain⟨-,hw, -,hl, -⟩:=zbl h1
  have hw:(make sh (t.rw p)).ws.length≤250:=hw
  intro x hx'
  obtain⟨j,t',a,b,y1,y2,y3⟩:=g1.mem x hx'
  have hj:=y2.fact.2.2
  have hcl:=qag F day (t.rw p) hx 1000000 (by decide) _ y3
  have h5:=Num.clamp_le x.2
  have h6:=Num.clamp_ge x.2
  have hcl:Num.clamp x.2=x.2:=hcl
  unfold I64
  omega
 ·rw[zxp hc] at hb
  cases hb
end Sm
end
section
open Go.RowKit
open Rw
set_option maxRecDepth 100000
namespace Gf
open Co
theorem zva {base:Nat}{W:World}{v:Value}{L:List (Int × Int)}(row:HoldRow base W v L)(hI:∀ x∈L,I64 x.1∧I64 x.2):StampsAt W v L:=by
 obtain⟨p,k,e,hcl⟩:=zlu (f:=zla) (fun _=>rfl) row
 refine⟨p,k,e,?_,fun i x hx=>?_⟩
 ·rcases row.2 with⟨e1,hz⟩|⟨g,cap,cur,e1,_,_,h4,h5,_⟩
  ·rw[e] at e1
   obtain⟨-,e2,e3⟩:=Value.slice.inj e1
   rw[e2,e3]
   exact⟨Nat.le_refl _,Nat.zero_le _⟩
  ·rw[e] at e1
   obtain⟨-, -,rfl⟩:=Value.slice.inj e1
   exact⟨h4,h5⟩
 ·obtain⟨g,rfl,hg,hj⟩:=hcl i x hx
  exact⟨g,0,rfl,hg,⟨hj 0 _ (by omega) rfl,hj 1 _ (by omega) rfl⟩,hI x (List.mem_of_getElem? hx)⟩
set_option maxHeartbeats 8000000 in
theorem law_idle (t:T)(v:Value)(p day:Int)(F:List Fd.Feed)(vf:Value)(w:World)(hv:CoreIn (fun b=>b<w.heap.size) w t v)(hsz:t.size≤2000000)(hF:FeedsAt w vf F):Calls Tryz.prog 5 #[v,.int .i64 p,.int .i64 day,vf] w (qeb w):=by
 obtain⟨op,n,s,q,ln,c,rfl,hop,hn,hs,hln⟩:=zbn hv
 have HV:=hid' hv
 have HSZ:=hid' hsz
 have HFS:=hid' hF
 obtain⟨fp,fc,rfl, -, -⟩:=hF
 have HB0:=hid' ((Below.refl w.heap.size w).alloc (Nat.le_refl _) (.cells #[.int .i64 op,.int .i64 n,.string s,.slice q ln c] 24))
 have HC0:=hid' (heap_alloc_new w (.cells #[.int .i64 op,.int .i64 n,.string s,.slice q ln c] 24))
 clear hop hn hs hln hv hsz
 go_enter Tryz.func5,Tryz.ntmps5
 go_upto_region 1 with(fail)
 obtain⟨B,hB⟩:∃ B,Hid (w.heap.size=B):=⟨_,hid' rfl⟩
 simp only[hB.out] at HC0 ⊢
 generalize World.alloc _ _=w1 at *
 go_wp2_with fail
 refine(zuk _).mono ?_
 rintro e w2 ⟨rfl,b2⟩
 have HB2:=hid' (HB0.out.trans (b2.mono HB0.out.size))
 have HC2:=hid' (zad b2 HC0.out)
 clear b2 HB0 HC0
 have c0:=zaa HC2.out 0 _ rfl
 have c1:=zaa HC2.out 1 _ rfl
 have c2:=zaa HC2.out 2 _ rfl
 have c3:=zaa HC2.out 3 _ rfl
 have hv2:=HV.out.under HB2.out
 have HCO:=hid' (zvi t _ p w2 (hv2.keep fun b h1 h2=>⟨h2,rfl⟩) HSZ.out)
 clear hv2
 go_wp2_with fail
 refine HCO.out.mono ?_
 rintro e w3 ⟨b3,r,vw,vi,rfl,hcd⟩
 obtain⟨vw',vi',ev,hwt,hin,hrr⟩:=hcd
 have hr':r=(zbx t p).regs∧vw=vw'∧vi=vi':=by
  simp only[Value.agg.injEq,Array.mk.injEq,List.cons.injEq,Value.int.injEq,true_and,and_true] at ev
  exact ev
 obtain⟨rfl,rfl,rfl⟩:=hr'
 have hwt0:=hwt
 obtain⟨pw,cw,rfl, -⟩:=hwt0
 have hin0:=hin
 obtain⟨pi,ci,rfl, -⟩:=hin0
 have BN:=(Below.refl w3.heap.size w3).alloc (Nat.le_refl _) (.cells #[.int .i64 (zbx t p).regs,.slice pw (zbx t p).waits.length cw,.slice pi (zbx t p).ins.length ci] 29)
 have yn:=heap_alloc_new w3 (.cells #[.int .i64 (zbx t p).regs,.slice pw (zbx t p).waits.length cw,.slice pi (zbx t p).ins.length ci] 29)
 have HB3:=hid' ((HB2.out.trans (b3.mono HB2.out.size)).trans (BN.mono (Nat.le_trans HB2.out.size b3.size)))
 have HY3:=hid' yn
 have HCD:=hid' (show CdAt _ _ (zbx t p) from CdAt.below (c:=zbx t p) ⟨_,_,rfl,hwt,hin,hrr⟩ BN)
 clear b3 ev hwt hin hrr BN yn c0 c1 c2 c3 HCO HB2 HC2
 go_upto_region 3 with(fail)
 obtain⟨N,hN⟩:∃ N,Hid (w3.heap.size=N):=⟨_,hid' rfl⟩
 simp only[hN.out] at HY3 ⊢
 generalize World.alloc _ _=w4 at *
 have y0:=zaa HY3.out 0 _ rfl
 have y1:=zaa HY3.out 1 _ rfl
 have y2:=zaa HY3.out 2 _ rfl
 obtain⟨bo,hbo⟩:∃ bo,Hid (Vm.begin' (zbx t p) day F=bo):=⟨_,hid' rfl⟩
 have HBG:=hid' (zrk (zbx t p) day F _ _ _ w4 HCD.out (HFS.out.below HB3.out))
 rw[hbo.out] at HBG
 cases bo with
 |none=>
  obtain⟨ee,hee⟩:∃ ee,Hid (zeo t p=ee):=⟨_,hid' rfl⟩
  have hec:ee=0∨ee=170∨ee=171:=by
   rw[←hee.out]
   unfold zeo
   split
   ·split
    ·exact .inr (.inr rfl)
    ·exact .inl rfl
   ·exact .inr (.inl rfl)
  rw[hee.out]
  rcases hec with rfl|rfl|rfl
  all_goals
   go_wp2_with fail
   refine HBG.out.mono ?_
   rintro e w5 ⟨b5,he⟩
   replace he:=he.trans (show Ending.returned zip=Ending.returned (.tuple #[.slice none 0 0,.slice none 0 0,.int .i64 0,.int .i64 180]) from rfl)
   subst he
   have HB5:=hid' (HB3.out.trans (b5.mono HB3.out.size))
   clear b5
   go_wp2_with fail
   go_ret
   exact⟨rfl,HB5.out⟩
 |some st=>
  obtain⟨hE,hRt,hI,st',hst,hsnd,hout,hstep⟩:=Sm.idle_law hbo.out
  have HE:=hid' hE
  have HRT:=hid' hRt
  have HI:=hid' hI
  have HST:=hid' hst
  have HSN:=hid' hsnd
  have HOU:=hid' hout
  have HSP:=hid' hstep
  clear hE hRt hI hst hsnd hout hstep
  rw[HE.out]
  go_wp2_with fail
  refine HBG.out.mono ?_
  rintro e w5 ⟨b5,hok5,vh5,vo5,rfl,hh5,ht5⟩
  have HB5:=hid' (HB3.out.trans (b5.mono HB3.out.size))
  have HY5:=hid' (zad b5 HY3.out)
  have HCD5:=hid' (HCD.out.below b5)
  have hl5:=hok5.holds
  have hm5:=hok5.most
  have HH5:=hid' (hh5.seen (by omega))
  have HS5:=hid' (zva hh5 HI.out)
  obtain⟨hp5,hc5,rfl⟩:=zay hh5
  obtain⟨op5,oc5,rfl⟩:=zay ht5
  have HLN:=hid' (show st.holds.length≤200000 from by omega)
  clear b5 hok5 hh5 ht5 hl5 hm5 y0 y1 y2 HBG HB3 HY3 HCD
  have y0:=zaa HY5.out 0 _ rfl
  have y1:=zaa HY5.out 1 _ rfl
  have y2:=zaa HY5.out 2 _ rfl
  have HSG:=hid' (qbt (zbx t p) st.holds day F ⟨#[]⟩ 0 _ _ _ _ w5 HCD5.out HS5.out (HFS.out.below HB5.out) (by decide))
  rw[HST.out] at HSG
  go_wp2_with fail
  refine HSG.out.mono ?_
  rintro e w6 ⟨b6,hok6,vh6,vo6,rfl,hh6,ht6⟩
  have HB6:=hid' (HB5.out.trans (b6.mono HB5.out.size))
  have HY6:=hid' (zad b6 HY5.out)
  have HCD6:=hid' (HCD5.out.below b6)
  have hlen:st'.holds.length=st.holds.length:=by have:=congrArg List.length HSN.out; simpa using this
  have hl6:=hok6.holds
  have hm6:=hok6.most
  have HA6:=hid' (HH5.out.below b6)
  have HH6:=hid' (hh6.seen (by omega))
  obtain⟨hp6,hc6,rfl⟩:=zay hh6
  obtain⟨op6,oc6,rfl⟩:=zay ht6
  have ho0:st'.out.length=0:=by rw[HOU.out]; rfl
  rw[ho0]
  rw[hlen] at HH6 ⊢
  have HPR:=hid' (show ∀(i:Nat) x y,st.holds[i]? = some x→st'.holds[i]? = some y→x.2=y.2 from fun i x y hx hy=>by
   have h1:(st.holds.map Prod.snd)[i]? = some x.2:=by rw[List.getElem?_map,hx]; rfl
   have h2:(st'.holds.map Prod.snd)[i]? = some y.2:=by rw[List.getElem?_map,hy]; rfl
   rw[HSN.out,h1] at h2
   exact Option.some.inj h2)
  have HFU:=hid' (fun (W:World) (b:Below w6.heap.size w6 W)=>qdf _ (zbx t p) W (HCD6.out.below b))
  rw[HRT.out] at HFU
  have gle:decide ((st'.steps:Int)≤((zbx t p).ins.length:Int))=true:=decide_eq_true (by have:=HSP.out; omega)
  have gne:((st.holds.length:Int) != (st.holds.length:Int))=false:=by simp
  have HAX:=hid' (show ∀(i:Nat) x,st.holds[i]? = some x→∃ b off,hp5=some ⟨b,off,none⟩∧w6.cell? ⟨b,off+i * 2+1,none⟩=some (.int .i64 x.2) from by
   obtain⟨pa,ca,ea, -,h⟩:=HA6.out
   obtain⟨rfl, -, -⟩:=Value.slice.inj ea
   intro i x hx
   obtain⟨b,o,e,_,_,h2⟩:=h i x hx
   exact⟨b,o,e,h2⟩)
  have HBX:=hid' (show ∀(i:Nat) x,st'.holds[i]? = some x→∃ b off,hp6=some ⟨b,off,none⟩∧w6.cell? ⟨b,off+i * 2+1,none⟩=some (.int .i64 x.2) from by
   obtain⟨pa,ca,ea, -,h⟩:=HH6.out
   obtain⟨rfl, -, -⟩:=Value.slice.inj ea
   intro i x hx
   obtain⟨b,o,e,_,_,h2⟩:=h i x hx
   exact⟨b,o,e,h2⟩)
  have HL6:=hid' hlen
  have hl':(st.holds.length:Int)≤200000:=by have:=HLN.out; omega
  clear b6 hok6 hh6 ht6 hl6 hm6 y0 y1 y2 HSG HB5 HY5 HCD5 HS5 HH5 HA6 HH6 hlen ho0
  go_wp2_with fail
  go_loopw [20] (fun iv wr=>∃ i:Nat,iv=.int .i64 (i:Int)∧i≤st.holds.length∧Hid (Below w6.heap.size w6 wr)) (fun iv _=>st.holds.length - (intOf iv).toNat)
  case atStart=>exact⟨0,rfl,Nat.zero_le _,hid' (Below.refl _ _)⟩
  case round=>
   obtain⟨i,rfl,hi,HW⟩:=hrel
   by_cases hin:i<st.holds.length
   ·obtain⟨x,hx⟩:∃ x,st.holds[i]? = some x:=⟨_,List.getElem?_eq_getElem hin⟩
    obtain⟨y,hy⟩:∃ y,st'.holds[i]? = some y:=⟨_,List.getElem?_eq_getElem (by rw[HL6.out]; exact hin)⟩
    have hxy:=HPR.out i x y hx hy
    obtain⟨b1,o1,rfl,x2⟩:=HAX.out i x hx
    obtain⟨b2,o2,rfl,y2⟩:=HBX.out i y hy
    rw[←hxy] at y2
    replace x2:=zan HW.out _ _ x2
    replace y2:=zan HW.out _ _ y2
    have j1:(0:Int)≤(i:Int):=by omega
    have j2:(i:Int)<(st.holds.length:Int):=by omega
    have hne:(x.2 != x.2)=false:=by simp
    have hgd:decide ((i:Int)<(st.holds.length:Int))=true:=decide_eq_true j2
    clear hx hy hxy
    go_wp2_with fail
    go_quiet (fail)
    go_wp2_with fail
    go_roundw
    case rel=>exact⟨i+1,by go_num,by omega,hid' (Below.drewn HW.out _)⟩
    case measure=>simp[intOf]; omega
   ·obtain rfl:i=st.holds.length:=by omega
    have g9:decide (st.holds.length<st.holds.length)=false:=by simp
    clear hin
    have y0:=zaa (zad HW.out HY6.out) 0 _ rfl
    have y1:=zaa (zad HW.out HY6.out) 1 _ rfl
    have y2:=zaa (zad HW.out HY6.out) 2 _ rfl
    go_wp2_with fail
    refine(HFU.out _ HW.out).mono ?_
    rintro e w7 ⟨rfl,b7⟩
    have HB7:=hid' (HB6.out.trans ((HW.out.trans (b7.mono HW.out.size)).mono HB6.out.size))
    go_wp2_with fail
    go_ret
    exact⟨by simp; exact HSP.out,HB7.out⟩
end Gf
end
end Go.Proofs.YtanlmbbalamgkaaGreatDoor

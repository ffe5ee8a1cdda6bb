/- Proved: lemmas and contracts of the functions that the law reaches, part 33 of 36: GfInto, GfChoose, GfObs, GfEither, GfCon, GfPick. Conditions: as each states. -/
import Derived.Test.YtanlmbbalamgkaaGreatDoorVmi24
import Derived.Test.YtanlmbbalamgkaaGreatDoorVmi32
namespace Go.Proofs.YtanlmbbalamgkaaGreatDoor
set_option linter.unusedVariables false
set_option linter.unusedSimpArgs false
section
open Go.RowKit
open Rw
set_option maxRecDepth 100000
namespace Gf
open Co Dn
def okT (t:TypeId):Bool:=t != 1 && t != 141 && t != 73 && t != 76 && t != 104
structure Bx (mb:Nat)(l:List (Nat × Array Value × TypeId))(W:World):Prop where
 at':∀ x∈l,W.heap[x.1]? = some (.cells x.2.1 x.2.2 (0,0))
 ok:∀ x∈l,mb<x.1∧okT x.2.2=true
theorem Bx.below {mb:Nat}{l:List (Nat × Array Value × TypeId)}{W W':World}(h:Bx mb l W)(b:Below W.heap.size W W'):Bx mb l W':=⟨fun x hx=>zad b (h.at' x hx),h.ok⟩
theorem Bx.kp {mb kb:Nat}{ub:Option Nat}{u:List Nat}{l:List (Nat × Array Value × TypeId)}{W W':World}(h:Bx mb l W)(k:KpG mb kb ub W W')(hu:UnkO mb ub u W):Bx mb l W':=by
 refine⟨fun x hx=>?_,h.ok⟩
 have e:=h.at' x hx
 obtain⟨h1,h2⟩:=h.ok x hx
 unfold okT at h2
 simp only[Bool.and_eq_true,bne_iff_ne,ne_eq] at h2
 obtain⟨⟨⟨⟨t1,t2⟩,t3⟩,t4⟩,t5⟩:=h2
 refine k.box (by omega) (fun b hb=>⟨?_,t1⟩) t3 t4 t5 e
 rintro rfl
 obtain⟨cur,e2⟩:=hu.box _ hb
 rw[e] at e2
 simp at e2
 exact t2 e2.2
theorem Bx.cons {mb:Nat}{l:List (Nat × Array Value × TypeId)}{W:World}{b:Nat}{c:Array Value}{t:TypeId}(h:Bx mb l W)(e:W.heap[b]? = some (.cells c t (0,0)))(hb:mb<b)(ht:okT t=true):Bx mb ((b,c,t)::l) W:=
 ⟨fun x hx=>by
  rcases List.mem_cons.1 hx with rfl|hx
  ·exact e
  ·exact h.at' x hx,fun x hx=>by
  rcases List.mem_cons.1 hx with rfl|hx
  ·exact⟨hb,ht⟩
  ·exact h.ok x hx⟩
theorem Bx.nil (mb:Nat)(W:World):Bx mb [] W:=⟨fun x hx=>(by cases hx),fun x hx=>(by cases hx)⟩
theorem Bx.sub {mb:Nat}{l l':List (Nat × Array Value × TypeId)}{W:World}(h:Bx mb l W)(hs:∀ x∈l',x∈l):Bx mb l' W:=⟨fun x hx=>h.at' x (hs x hx),fun x hx=>h.ok x (hs x hx)⟩
def zif (sh:Bool)(d:Nat):Prop:=∀(t:T) (m:Mk) (u:List Nat) (k mb kb:Nat) (ub:Option Nat) (vw vi vj v:Value) (w:World),Obs t→t.depth≤d→CoreAt mb w t v→MkAt mb sh m vw vi vj kb w→UnkO mb ub u w →
 (ub=none→zbs t=false)→Fit k m→k+8 * t.size≤700000→u.length+8 * t.size≤700000 →
 Calls Tryz.prog 104 #[.pointer (some ⟨mb,0,none⟩),v,uptr ub] w (qba mb kb ub sh (obs sh d t m u) w)
set_option maxHeartbeats 4000000 in
theorem ziu {sh:Bool}{d:Nat}(HO:zif sh d)(t:T)(m:Mk)(u:List Nat)(k mb kb:Nat)(ub:Option Nat)(vw vi vj v:Value)(w:World)(b0 b2 b3:Nat)(out:Int)(ht:Obs t)(hd:t.depth≤d)(hv:CoreAt mb w t v)(hm:MkAt mb sh m vw vi vj kb w)
  (hu:UnkO mb ub u w) (hub:ub=none→zbs t=false) (hf:Fit k m) (hk:k+8 * t.size≤700000) (hul:u.length+8 * t.size≤700000) (ho:0≤out∧out≤700000)
  (hbx:Bx mb [(b0,#[.pointer (some ⟨mb,0,none⟩)],62),(b2,#[uptr ub],143),(b3,#[.int .i64 out],3)] w):
  Calls Tryz.prog 166 #[v,.pointer (some ⟨b0,0,none⟩),.pointer (some ⟨b2,0,none⟩),.pointer (some ⟨b3,0,none⟩)] w (Does mb kb ub sh (into sh out (obs sh d t m u)).1 (into sh out (obs sh d t m u)).2 w):=by
 have HFO:=hid' (zat sh d t m u k ht hf)
 have HCL:=hid' (fun W (b:Below w.heap.size w W)=>HO t m u k mb kb ub vw vi vj v W ht hd (hv.kept (b.mono (Nat.le_of_lt hm.lt)) (Nat.le_refl _)) (hm.below b) (hu.below b) hub hf hk hul)
 obtain⟨q,c,rfl, -⟩:=hv.open
 have B0:=(Below.refl w.heap.size w).alloc (Nat.le_refl _) (.cells #[.int .i64 t.op,.int .i64 t.n,.string t.s,.slice q t.ks.length c] 24)
 have HC:=hid' (heap_alloc_new w (.cells #[.int .i64 t.op,.int .i64 t.n,.string t.s,.slice q t.ks.length c] 24))
 have HB:=hid' B0
 have HBX:=hid' (hbx.below B0)
 have HU:=hid' (hu.below B0)
 have HKP:=hid' (KpG.of (mb:=mb) (kb:=kb) (ub:=ub) B0 (Nat.le_of_lt hm.lt))
 have HK:=hid' (And.intro hk (And.intro hul ho))
 obtain⟨op,hop⟩:∃ x,Hid (t.op=x):=⟨_,hid' rfl⟩
 obtain⟨n,hn⟩:∃ x,Hid (t.n=x):=⟨_,hid' rfl⟩
 obtain⟨s,hs⟩:∃ x,Hid (t.s=x):=⟨_,hid' rfl⟩
 obtain⟨ln,hln⟩:∃ x,Hid (t.ks.length=x):=⟨_,hid' rfl⟩
 rw[hop.out,hn.out,hs.out,hln.out] at HC HCL ⊢
 rw[hop.out,hn.out,hs.out,hln.out] at HB HBX HU HKP
 obtain⟨up,hup⟩:∃ up,Hid (uptr ub=up):=⟨_,hid' rfl⟩
 rw[hup.out] at HCL HBX
 obtain⟨O,hO⟩:∃ O,Hid (obs sh d t m u=O):=⟨_,hid' rfl⟩
 rw[hO.out] at HFO HCL ⊢
 clear B0 hbx hu hv hm hk hul ho hf hub ht hd HO
 go_enter Tryz.func166,Tryz.ntmps166
 go_upto_region 1 with(fail)
 generalize hw1:World.alloc _ _=w1 at *
 have HC1:=hid' (HCL.out w1 HB.out)
 have e0:=zaa (HBX.out.at' _ (.head _)) 0 _ rfl
 have e2:=zaa (HBX.out.at' _ (.tail _ (.head _))) 0 _ rfl
 have e3:=zaa (HBX.out.at' _ (.tail _ (.tail _ (.head _)))) 0 _ rfl
 simp only at e0 e2 e3
 have c0:=zaa HC.out 0 _ rfl
 have c1:=zaa HC.out 1 _ rfl
 have c2:=zaa HC.out 2 _ rfl
 have c3:=zaa HC.out 3 _ rfl
 clear hw1 HCL
 go_wp2_with fail
 refine HC1.out.mono ?_
 rintro e w2 ⟨rfl,hl2,hu2⟩
 have HL2:=hid' hl2
 have HU2:=hid' hu2
 have HBX2:=hid' (HBX.out.kp hl2.kp HU.out)
 obtain⟨vw2,vi2,vj2,kb2,M2,hk2⟩:=hl2.at'
 have HM2:=hid' (And.intro M2 hk2)
 have hlen:=HFO.out.m.len
 have hkk:=HK.out.1
 have HLY:=hid' (zdc mb kb2 sh O.2.1 vw2 vi2 vj2 (ix 18 out O.1 0) w2 M2 (by omega))
 unfold ix txt0 at HLY
 clear e0 e2 e3 c0 c1 c2 c3 hl2 hu2 M2 hk2 hlen hkk HC1
 have e0:=zaa (HBX2.out.at' _ (.head _)) 0 _ rfl
 have e3:=zaa (HBX2.out.at' _ (.tail _ (.tail _ (.head _)))) 0 _ rfl
 simp only at e0 e3
 go_wp2_with fail
 refine HLY.out.mono ?_
 rintro e w3 ⟨rfl,hl3⟩
 have HU3:=hid' (HU2.out.kp hl3.kp)
 have HBX3:=hid' (HBX2.out.kp hl3.kp (u:=[]) (zag))
 obtain⟨vw3,vi3,vj3,kb3,M3,hk3⟩:=hl3.at'
 have HM3:=hid' M3
 have hkk:kb3=kb∨w.heap.size≤kb3:=by
  rcases hk3 with rfl|h
  ·exact HM2.out.2.imp id fun h=>Nat.le_trans HB.out.size h
  ·exact .inr (Nat.le_trans (Nat.le_trans HB.out.size HL2.out.kp.bel.size) h)
 have HKK:=hid' hkk
 have HKP3:=hid' ((HKP.out.trans HL2.out.kp (.inl rfl)).trans hl3.kp.wk (HM2.out.2.imp id fun h=>Nat.le_trans HB.out.size h))
 clear e0 e3 hl3 M3 hk3 hkk HLY
 have e0:=zaa (HBX3.out.at' _ (.head _)) 0 _ rfl
 have e3:=zaa (HBX3.out.at' _ (.tail _ (.tail _ (.head _)))) 0 _ rfl
 have m3:=zaa HM3.out.box 3 _ rfl
 simp only at e0 e3
 cases sh with
 |true=>
  go_wp2_with fail
  refine bodyPost_end (results_none rfl _ _ _) rfl ?_
  exact⟨⟨_,rfl⟩,⟨⟨_,_,_,_,HM3.out,HKK.out⟩,HKP3.out⟩,HU3.out⟩
 |false=>
  have m5:=zaa HM3.out.box 5 _ rfl
  have f5:=frozen_of (o:=5) HM3.out.box
  have hw:IntKind.i64.wrap (out+1)=out+1:=IntWalk.i64_in _ (by have:=HK.out.2.2; omega)
  have HF:=hid' (HM3.out.parts (m':={ O.2.1.lay (ix 18 out O.1 0) with next:=out+1 }) 5 (.int .i64 (out+1)) rfl rfl rfl rfl rfl rfl)
  go_wp2_with fail
  refine bodyPost_end (results_none rfl _ _ _) rfl ?_
  exact⟨⟨_,rfl⟩,⟨⟨_,_,_,_,HF.out.1,HKK.out⟩,HKP3.out.trans HF.out.2.wk HKK.out⟩,HU3.out.kp HF.out.2⟩
set_option maxHeartbeats 4000000 in
theorem qcy {sh:Bool}{d:Nat}(HO:zif sh d)(t a:T)(m:Mk)(u:List Nat)(k mb kb:Nat)(ub:Option Nat)(vw vi vj:Value)(w:World)(b0 b1 b2 b3 b4:Nat)(out:Int)(cs:Array Value)(hat:t.ks[1]? = some a)(ha:Obs a)(hd:a.depth≤d)(hv:CoreAt mb w t (.agg cs))(hm:MkAt mb sh m vw vi vj kb w)
  (hu:UnkO mb ub u w) (hub:ub=none→zbs a=false) (hf:Fit k m) (hk:k+8 * a.size≤700000) (hul:u.length+8 * a.size≤700000) (ho:0≤out∧out≤700000)
  (hbx:Bx mb [(b0,#[.pointer (some ⟨mb,0,none⟩)],62),(b2,#[uptr ub],143),(b3,#[.int .i64 out],3),(b1,cs,24),(b4,#[.func (.func 166) #[] #[.pointer (some ⟨b0,0,none⟩),.pointer (some ⟨b2,0,none⟩),.pointer (some ⟨b3,0,none⟩)]],102)] w):
  Calls Tryz.prog 167 #[.pointer (some ⟨b4,0,none⟩),.pointer (some ⟨b1,0,none⟩)] w (Does mb kb ub sh (into sh out (obs sh d a m u)).1 (into sh out (obs sh d a m u)).2 w):=by
 obtain⟨q,c,hve,hcc, -, -, -,hkr⟩:=hv.open
 simp only[Value.agg.injEq] at hve
 subst hve
 obtain⟨b,off,kop,kn,kst,pk,kl,ck,rfl,hlb,hvk,r0,r1,r2,r3⟩:=zbq hkr hat
 have HI:=hid' (ziu HO a m u k mb kb ub vw vi vj _ w.drew b0 b2 b3 out ha hd (hvk.kept ((Below.refl mb w).drew) (Nat.le_refl _)) hm.drew (hu.below (Below.refl _ w).drew) hub hf hk hul ho ((hbx.below (Below.refl _ w).drew).sub (fun x hx=>by
  simp only[List.mem_cons,List.not_mem_nil,or_false] at hx ⊢
  rcases hx with rfl|rfl|rfl
  ·exact .inl rfl
  ·exact .inr (.inl rfl)
  ·exact .inr (.inr (.inl rfl)))))
 have HKD:=hid' (hm.kd (ub:=ub))
 have e1:=zaa (hbx.at' _ (.tail _ (.tail _ (.tail _ (.head _))))) 3 _ rfl
 have e4:=zaa (hbx.at' _ (.tail _ (.tail _ (.tail _ (.tail _ (.head _)))))) 0 _ rfl
 simp only at e1 e4
 have j2:(1:Int)<(t.ks.length:Int):=by
  have:=(List.getElem?_eq_some_iff.1 hat).1
  omega
 obtain⟨ln,hln⟩:∃ x,Hid (t.ks.length=x):=⟨_,hid' rfl⟩
 rw[hln.out] at e1 j2
 simp only[Nat.one_mul,Nat.reduceMul] at r0 r1 r2 r3
 obtain⟨O,hO⟩:∃ O,Hid (into sh out (obs sh d a m u)=O):=⟨_,hid' rfl⟩
 rw[hO.out] at HI ⊢
 clear hbx hu hv hm hk hul ho hf hub ha hd HO hkr hat hvk hcc
 go_enter Tryz.func167,Tryz.ntmps167
 go_still_tail 5,(by kernel_rfl)
 change wpList _ _ _ _ _ w.drew
 go_wp2_with fail
 refine HI.out.mono ?_
 rintro e w2 ⟨⟨r,rfl⟩,hl2,hu2⟩
 have HF:=hid' (And.intro hl2 hu2)
 clear hl2 hu2
 go_wp2_with fail
 refine bodyPost_end (results_none rfl _ _ _) rfl ?_
 exact⟨⟨_,rfl⟩,KpG.then HKD.out (.inl rfl) HF.out.1,HF.out.2⟩
set_option maxHeartbeats 4000000 in
theorem qcx {sh:Bool}{d:Nat}(HO:zif sh d)(t a:T)(m:Mk)(u:List Nat)(k mb kb:Nat)(ub:Option Nat)(vw vi vj:Value)(w:World)(b0 b1 b2 b3 b4:Nat)(out:Int)(cs:Array Value)(hat:t.ks[1]? = some a)(ha:Obs a)(hd:a.depth≤d)(hv:CoreAt mb w t (.agg cs))(hm:MkAt mb sh m vw vi vj kb w)
  (hu:UnkO mb ub u w) (hub:ub=none→zbs a=false) (hf:Fit k m) (hk:k+8 * a.size≤700000) (hul:u.length+8 * a.size≤700000) (ho:0≤out∧out≤700000)
  (hbx:Bx mb [(b0,#[.pointer (some ⟨mb,0,none⟩)],62),(b2,#[uptr ub],143),(b3,#[.int .i64 out],3),(b1,cs,24),(b4,#[.func (.func 166) #[] #[.pointer (some ⟨b0,0,none⟩),.pointer (some ⟨b2,0,none⟩),.pointer (some ⟨b3,0,none⟩)]],102)] w):
  Calls Tryz.prog 168 #[.pointer (some ⟨b4,0,none⟩),.pointer (some ⟨b1,0,none⟩)] w (Does mb kb ub sh (into sh out (obs sh d a m u)).1 (into sh out (obs sh d a m u)).2 w):=by
 obtain⟨q,c,hve,hcc, -, -, -,hkr⟩:=hv.open
 simp only[Value.agg.injEq] at hve
 subst hve
 obtain⟨b,off,kop,kn,kst,pk,kl,ck,rfl,hlb,hvk,r0,r1,r2,r3⟩:=zbq hkr hat
 have HI:=hid' (ziu HO a m u k mb kb ub vw vi vj _ w.drew b0 b2 b3 out ha hd (hvk.kept ((Below.refl mb w).drew) (Nat.le_refl _)) hm.drew (hu.below (Below.refl _ w).drew) hub hf hk hul ho ((hbx.below (Below.refl _ w).drew).sub (fun x hx=>by
  simp only[List.mem_cons,List.not_mem_nil,or_false] at hx ⊢
  rcases hx with rfl|rfl|rfl
  ·exact .inl rfl
  ·exact .inr (.inl rfl)
  ·exact .inr (.inr (.inl rfl)))))
 have HKD:=hid' (hm.kd (ub:=ub))
 have e1:=zaa (hbx.at' _ (.tail _ (.tail _ (.tail _ (.head _))))) 3 _ rfl
 have e4:=zaa (hbx.at' _ (.tail _ (.tail _ (.tail _ (.tail _ (.head _)))))) 0 _ rfl
 simp only at e1 e4
 have j2:(1:Int)<(t.ks.length:Int):=by
  have:=(List.getElem?_eq_some_iff.1 hat).1
  omega
 obtain⟨ln,hln⟩:∃ x,Hid (t.ks.length=x):=⟨_,hid' rfl⟩
 rw[hln.out] at e1 j2
 simp only[Nat.one_mul,Nat.reduceMul] at r0 r1 r2 r3
 obtain⟨O,hO⟩:∃ O,Hid (into sh out (obs sh d a m u)=O):=⟨_,hid' rfl⟩
 rw[hO.out] at HI ⊢
 clear hbx hu hv hm hk hul ho hf hub ha hd HO hkr hat hvk hcc
 go_enter Tryz.func168,Tryz.ntmps168
 go_still_tail 5,(by kernel_rfl)
 change wpList _ _ _ _ _ w.drew
 go_wp2_with fail
 refine HI.out.mono ?_
 rintro e w2 ⟨⟨r,rfl⟩,hl2,hu2⟩
 have HF:=hid' (And.intro hl2 hu2)
 clear hl2 hu2
 go_wp2_with fail
 refine bodyPost_end (results_none rfl _ _ _) rfl ?_
 exact⟨⟨_,rfl⟩,KpG.then HKD.out (.inl rfl) HF.out.1,HF.out.2⟩
set_option maxHeartbeats 4000000 in
theorem qcw {sh:Bool}{d:Nat}(HO:zif sh d)(t a:T)(m:Mk)(u:List Nat)(k mb kb:Nat)(ub:Option Nat)(vw vi vj:Value)(w:World)(b0 b1 b2 b3 b4:Nat)(out:Int)(cs:Array Value)(hat:t.ks[1]? = some a)(ha:Obs a)(hd:a.depth≤d)(hv:CoreAt mb w t (.agg cs))(hm:MkAt mb sh m vw vi vj kb w)
  (hu:UnkO mb ub u w) (hub:ub=none→zbs a=false) (hf:Fit k m) (hk:k+8 * a.size≤700000) (hul:u.length+8 * a.size≤700000) (ho:0≤out∧out≤700000)
  (hbx:Bx mb [(b0,#[.pointer (some ⟨mb,0,none⟩)],62),(b2,#[uptr ub],143),(b3,#[.int .i64 out],3),(b1,cs,24),(b4,#[.func (.func 166) #[] #[.pointer (some ⟨b0,0,none⟩),.pointer (some ⟨b2,0,none⟩),.pointer (some ⟨b3,0,none⟩)]],102)] w):
  Calls Tryz.prog 169 #[.pointer (some ⟨b4,0,none⟩),.pointer (some ⟨b1,0,none⟩)] w (Does mb kb ub sh (into sh out (obs sh d a m u)).1 (into sh out (obs sh d a m u)).2 w):=by
 obtain⟨q,c,hve,hcc, -, -, -,hkr⟩:=hv.open
 simp only[Value.agg.injEq] at hve
 subst hve
 obtain⟨b,off,kop,kn,kst,pk,kl,ck,rfl,hlb,hvk,r0,r1,r2,r3⟩:=zbq hkr hat
 have HI:=hid' (ziu HO a m u k mb kb ub vw vi vj _ w.drew b0 b2 b3 out ha hd (hvk.kept ((Below.refl mb w).drew) (Nat.le_refl _)) hm.drew (hu.below (Below.refl _ w).drew) hub hf hk hul ho ((hbx.below (Below.refl _ w).drew).sub (fun x hx=>by
  simp only[List.mem_cons,List.not_mem_nil,or_false] at hx ⊢
  rcases hx with rfl|rfl|rfl
  ·exact .inl rfl
  ·exact .inr (.inl rfl)
  ·exact .inr (.inr (.inl rfl)))))
 have HKD:=hid' (hm.kd (ub:=ub))
 have e1:=zaa (hbx.at' _ (.tail _ (.tail _ (.tail _ (.head _))))) 3 _ rfl
 have e4:=zaa (hbx.at' _ (.tail _ (.tail _ (.tail _ (.tail _ (.head _)))))) 0 _ rfl
 simp only at e1 e4
 have j2:(1:Int)<(t.ks.length:Int):=by
  have:=(List.getElem?_eq_some_iff.1 hat).1
  omega
 obtain⟨ln,hln⟩:∃ x,Hid (t.ks.length=x):=⟨_,hid' rfl⟩
 rw[hln.out] at e1 j2
 simp only[Nat.one_mul,Nat.reduceMul] at r0 r1 r2 r3
 obtain⟨O,hO⟩:∃ O,Hid (into sh out (obs sh d a m u)=O):=⟨_,hid' rfl⟩
 rw[hO.out] at HI ⊢
 clear hbx hu hv hm hk hul ho hf hub ha hd HO hkr hat hvk hcc
 go_enter Tryz.func169,Tryz.ntmps169
 go_still_tail 5,(by kernel_rfl)
 change wpList _ _ _ _ _ w.drew
 go_wp2_with fail
 refine HI.out.mono ?_
 rintro e w2 ⟨⟨r,rfl⟩,hl2,hu2⟩
 have HF:=hid' (And.intro hl2 hu2)
 clear hl2 hu2
 go_wp2_with fail
 refine bodyPost_end (results_none rfl _ _ _) rfl ?_
 exact⟨⟨_,rfl⟩,KpG.then HKD.out (.inl rfl) HF.out.1,HF.out.2⟩
set_option maxHeartbeats 4000000 in
theorem qcv {sh:Bool}{d:Nat}(HO:zif sh d)(t a:T)(m:Mk)(u:List Nat)(k mb kb:Nat)(ub:Option Nat)(vw vi vj:Value)(w:World)(b0 b1 b2 b3 b4:Nat)(out:Int)(cs:Array Value)(hat:t.ks[2]? = some a)(ha:Obs a)(hd:a.depth≤d)(hv:CoreAt mb w t (.agg cs))(hm:MkAt mb sh m vw vi vj kb w)
  (hu:UnkO mb ub u w) (hub:ub=none→zbs a=false) (hf:Fit k m) (hk:k+8 * a.size≤700000) (hul:u.length+8 * a.size≤700000) (ho:0≤out∧out≤700000)
  (hbx:Bx mb [(b0,#[.pointer (some ⟨mb,0,none⟩)],62),(b2,#[uptr ub],143),(b3,#[.int .i64 out],3),(b1,cs,24),(b4,#[.func (.func 166) #[] #[.pointer (some ⟨b0,0,none⟩),.pointer (some ⟨b2,0,none⟩),.pointer (some ⟨b3,0,none⟩)]],102)] w):
  Calls Tryz.prog 170 #[.pointer (some ⟨b4,0,none⟩),.pointer (some ⟨b1,0,none⟩)] w (Does mb kb ub sh (into sh out (obs sh d a m u)).1 (into sh out (obs sh d a m u)).2 w):=by
 obtain⟨q,c,hve,hcc, -, -, -,hkr⟩:=hv.open
 simp only[Value.agg.injEq] at hve
 subst hve
 obtain⟨b,off,kop,kn,kst,pk,kl,ck,rfl,hlb,hvk,r0,r1,r2,r3⟩:=zbq hkr hat
 have HI:=hid' (ziu HO a m u k mb kb ub vw vi vj _ w.drew b0 b2 b3 out ha hd (hvk.kept ((Below.refl mb w).drew) (Nat.le_refl _)) hm.drew (hu.below (Below.refl _ w).drew) hub hf hk hul ho ((hbx.below (Below.refl _ w).drew).sub (fun x hx=>by
  simp only[List.mem_cons,List.not_mem_nil,or_false] at hx ⊢
  rcases hx with rfl|rfl|rfl
  ·exact .inl rfl
  ·exact .inr (.inl rfl)
  ·exact .inr (.inr (.inl rfl)))))
 have HKD:=hid' (hm.kd (ub:=ub))
 have e1:=zaa (hbx.at' _ (.tail _ (.tail _ (.tail _ (.head _))))) 3 _ rfl
 have e4:=zaa (hbx.at' _ (.tail _ (.tail _ (.tail _ (.tail _ (.head _)))))) 0 _ rfl
 simp only at e1 e4
 have j2:(2:Int)<(t.ks.length:Int):=by
  have:=(List.getElem?_eq_some_iff.1 hat).1
  omega
 obtain⟨ln,hln⟩:∃ x,Hid (t.ks.length=x):=⟨_,hid' rfl⟩
 rw[hln.out] at e1 j2
 simp only[Nat.one_mul,Nat.reduceMul] at r0 r1 r2 r3
 obtain⟨O,hO⟩:∃ O,Hid (into sh out (obs sh d a m u)=O):=⟨_,hid' rfl⟩
 rw[hO.out] at HI ⊢
 clear hbx hu hv hm hk hul ho hf hub ha hd HO hkr hat hvk hcc
 go_enter Tryz.func170,Tryz.ntmps170
 go_still_tail 5,(by kernel_rfl)
 change wpList _ _ _ _ _ w.drew
 go_wp2_with fail
 refine HI.out.mono ?_
 rintro e w2 ⟨⟨r,rfl⟩,hl2,hu2⟩
 have HF:=hid' (And.intro hl2 hu2)
 clear hl2 hu2
 go_wp2_with fail
 refine bodyPost_end (results_none rfl _ _ _) rfl ?_
 exact⟨⟨_,rfl⟩,KpG.then HKD.out (.inl rfl) HF.out.1,HF.out.2⟩
end Gf
end
section
open Go.RowKit
open Rw
set_option maxRecDepth 100000
attribute [local go_sem] zbj
namespace Gf
open Co Dn
theorem KpG.next {mb kb kb':Nat}{ub:Option Nat}{sh:Bool}{m:Mk}{A B C:World}(h:(kb'=kb∨A.heap.size≤kb')∧KpG mb kb ub A B)(k:Lays mb kb' ub sh m B C):
  ∃ vw vi vj kb2,MkAt mb sh m vw vi vj kb2 C∧((kb2=kb∨A.heap.size≤kb2)∧KpG mb kb ub A C):=by
 obtain⟨vw,vi,vj,kb2,h1,h2⟩:=k.at'
 refine⟨vw,vi,vj,kb2,h1,?_,h.2.trans k.kp h.1⟩
 rcases h2 with rfl|h2
 ·exact h.1
 ·exact .inr (Nat.le_trans h.2.bel.size h2)
noncomputable def cho (sh:Bool)(d:Nat)(t:T)(m:Mk)(u:List Nat):Mk × List Nat:=if t.op=15 then zdi (obs sh d) sh t m u else if t.op=16 then zec (obs sh d) sh t m u else zed (obs sh d) sh t m u
set_option maxHeartbeats 8000000 in
theorem zxl {sh:Bool}{d:Nat}(HO:zif sh d)(t:T)(m:Mk)(u:List Nat)(k mb kb:Nat)(ub:Option Nat)(vw vi vj v:Value)(w:World)(ht:Obs t)(hop:t.op=15∨t.op=16∨t.op=22)(hd:t.depth≤d+1)(hv:CoreAt mb w t v)(hm:MkAt mb sh m vw vi vj kb w)
  (hu:UnkO mb ub u w) (hub:ub=none→zbs t=false) (hf:Fit k m) (hk:k+8 * t.size≤700000) (hul:u.length+8 * t.size≤700000):
  Calls Tryz.prog 145 #[.pointer (some ⟨mb,0,none⟩),v,uptr ub] w (fun e w'=>e=.returned (.int .i64 m.next)∧Lays mb kb ub sh (cho sh d t m u).1 w w'∧UnkO mb ub (cho sh d t m u).2 w'):=by
 obtain⟨q,c,rfl,hcc, -, -, -,hkr⟩:=hv.open
 obtain⟨op,n,s,ks⟩:=t
 -- the kids
 obtain⟨a,b,r,hks,ha,hb,hc⟩:∃ a b r,ks=a::b::r∧Obs a∧Obs b∧(op=22→∃ c,r=[c]∧Obs c)∧(op≠22→r=[]):=by
  simp only[T.op] at hop
  rcases zdj ht with h1|⟨rfl, -⟩|⟨rfl, -⟩|⟨h1,a,rfl,ha, -⟩|⟨h1,a,b,rfl,ha,hb⟩|⟨rfl,a,b,c,rfl,ha,hb,hc⟩|⟨h1,a,b,rfl,ha,hb⟩
  ·omega
  ·omega
  ·omega
  ·omega
  ·exact⟨a,b,[],rfl,zbd ha,hb,fun e=>by omega,fun _=>rfl⟩
  ·exact⟨a,b,[c],rfl,zbd ha,hb,fun _=>⟨c,rfl,hc⟩,fun e=>absurd rfl e⟩
  ·unfold zcv at h1; omega
 have hfa:∀ x∈ks,ub=none→zbs x=false:=fun x hx e=>by
  have:=hub e
  rw[zgo,Bool.or_eq_false_iff,List.any_eq_false] at this
  simpa using this.2 x hx
 have hda:∀ x∈ks,x.depth≤d:=fun x hx=>by
  have:=zcy hx
  rw[T.depth] at hd
  omega
 have hsz:(T.mk op n s ks).size=1+(a.size+(b.size+sizes r)):=by rw[T.size,hks]; simp[sizes]
 have hfr:=hf.reg
 have hnx:=hf.nx
 have hfm:=hf.len
 obtain⟨pa,hup⟩:∃ pa,Hid (uptr ub=.pointer pa):=by
  cases ub with
  |none=>exact⟨none,hid' rfl⟩
  |some b=>exact⟨some ⟨b,0,none⟩,hid' rfl⟩
 simp only[T.op,T.n,T.s,T.ks] at hkr hop ⊢
 rw[hup.out]
 -- the boxes
 have B1:=(Below.refl w.heap.size w).alloc (Nat.le_refl _) (.cells #[.pointer (some ⟨mb,0,none⟩)] 62)
 have y1:=heap_alloc_new w (.cells #[.pointer (some ⟨mb,0,none⟩)] 62)
 have B2:=(Below.refl (w.heap.size+1) (w.alloc (.cells #[.pointer (some ⟨mb,0,none⟩)] 62))).alloc (by simp) (.cells #[.int .i64 op,.int .i64 n,.string s,.slice q ks.length c] 24)
 have y2:=heap_alloc_new (w.alloc (.cells #[.pointer (some ⟨mb,0,none⟩)] 62)) (.cells #[.int .i64 op,.int .i64 n,.string s,.slice q ks.length c] 24)
 have B3:=(Below.refl (w.heap.size+1+1) ((w.alloc (.cells #[.pointer (some ⟨mb,0,none⟩)] 62)).alloc (.cells #[.int .i64 op,.int .i64 n,.string s,.slice q ks.length c] 24))).alloc (by simp) (.cells #[.pointer pa] 143)
 have y3:=heap_alloc_new ((w.alloc (.cells #[.pointer (some ⟨mb,0,none⟩)] 62)).alloc (.cells #[.int .i64 op,.int .i64 n,.string s,.slice q ks.length c] 24)) (.cells #[.pointer pa] 143)
 simp only[World.size_alloc] at y2 y3
 have z1:=(B3.block _ (by omega)).trans ((B2.block _ (by omega)).trans y1)
 have z2:=(B3.block _ (by omega)).trans y2
 have BA:=(B1.trans (B2.mono (by omega))).trans (B3.mono (by omega))
 have HBX:=hid' ((((Bx.nil mb _).cons z2 (by have:=hm.lt; omega) rfl).cons y3 (by have:=hm.lt; omega) rfl).cons z1 hm.lt rfl)
 have HM:=hid' (hm.below BA)
 have HU:=hid' (hu.below BA)
 have HB:=hid' BA
 have HKP:=hid' (KpG.of (mb:=mb) (kb:=kb) (ub:=ub) BA (Nat.le_of_lt hm.lt))
 have HCA:=hid' (fun (W:World) (b:Below mb w W)=>(hv.kept b (Nat.le_refl _)))
 have HKR:=hid' hkr
 have HMB:=hid' hm.lt
 have HKS:=hid' hks
 have HABC:=hid' (And.intro ha (And.intro hb hc))
 have HFA:=hid' hfa
 have HDA:=hid' hda
 have HSZ:=hid' (And.intro hsz (And.intro hk hul))
 have HFR:=hid' hfr
 have HF:=hid' hf
 clear B1 y1 B2 y2 B3 y3 z1 z2 BA hm hu hv hkr hks ha hb hc hfa hda hsz hk hul hfr hf hfm hcc ht hub hd
 have HNX:=hid' hnx
 clear hnx
 go_enter Tryz.func145,Tryz.ntmps145
 go_upto_region 1 with(fail)
 obtain⟨B,hB⟩:∃ B,Hid (w.heap.size=B):=⟨_,hid' rfl⟩
 simp only[hB.out] at HBX ⊢
 generalize World.alloc _ _=w1 at *
 have e0:=zaa (HBX.out.at' _ (.head _)) 0 _ rfl
 simp only at e0
 have HRG:=hid' (zin mb kb sh m vw vi vj w1 HM.out (by have:=HNX.out; have:=HSZ.out; omega))
 go_wp2_with fail
 refine HRG.out.mono ?_
 rintro e w2 ⟨rfl,hl2⟩
 have hb2:=hl2.kp
 have HBX2:=hid' (HBX.out.kp hl2.kp (u:=[]) zag)
 have HU2:=hid' (HU.out.kp hl2.kp)
 have HL2:=hid' hl2
 have ba:=(Below.refl w2.heap.size w2).alloc (Nat.le_refl _) (.cells #[.int .i64 m.next] 3)
 have nn:=heap_alloc_new w2 (.cells #[.int .i64 m.next] 3)
 have bf:=(Below.refl (w2.heap.size+1) (w2.alloc (.cells #[.int .i64 m.next] 3))).alloc (by simp) (.cells #[.func (.func 166) #[] #[.pointer (some ⟨B,0,none⟩),.pointer (some ⟨B+1+1,0,none⟩),.pointer (some ⟨w2.heap.size,0,none⟩)]] 102)
 have nf:=heap_alloc_new (w2.alloc (.cells #[.int .i64 m.next] 3)) (.cells #[.func (.func 166) #[] #[.pointer (some ⟨B,0,none⟩),.pointer (some ⟨B+1+1,0,none⟩),.pointer (some ⟨w2.heap.size,0,none⟩)]] 102)
 simp only[World.size_alloc] at nf
 have nn2:=(bf.block _ (by omega)).trans nn
 have bab:=ba.trans (bf.mono (by omega))
 have hlt2:mb<w2.heap.size:=Nat.lt_of_lt_of_le HM.out.lt hl2.kp.bel.size
 have HBX4:=hid' (((HBX2.out.below bab).cons nn2 hlt2 rfl).cons nf (by omega) rfl)
 have HU4:=hid' (HU2.out.below bab)
 have HL4:=hid' (hl2.below bab)
 clear ba nn bf nf nn2 bab hlt2 hl2 hb2 e0 HRG HL2 HU2 HU HBX HM
 go_upto_region 3 with(fail)
 obtain⟨b3,hb3⟩:∃ b,Hid (w2.heap.size=b):=⟨_,hid' rfl⟩
 simp only[hb3.out] at HBX4 HU4 HL4 ⊢
 generalize World.alloc _ _=w4 at *
 have HB4:=hid' (HKP.out.bel.trans HL4.out.kp.bel)
 obtain⟨⟨vw4,vi4,vj4,kb4,M4,hk4⟩,hp4⟩:=HL4.out
 have HM4:=hid' M4
 have HK4:=hid' (show(kb4=kb∨w.heap.size≤kb4)∧KpG mb kb ub w w4 from⟨hk4.imp id fun h=>Nat.le_trans HB.out.size h,HKP.out.trans hp4.wk (.inl rfl)⟩)
 clear M4 hk4 hp4 HL4 HKP HB
 have hk0:(T.mk op n s ks).ks[0]? = some a:=by show ks[0]? = some a; rw[HKS.out]; rfl
 have hk1:(T.mk op n s ks).ks[1]? = some b:=by show ks[1]? = some b; rw[HKS.out]; rfl
 have HK01:=hid' (And.intro hk0 hk1)
 obtain⟨cb,off,kop,kn,kst,pk,kl,ck,rfl,hlb,hvk,r0,r1,r2,r3⟩:=zbq (t:=.mk op n s ks) (zaw HKR.out HB4.out) hk0
 have hma:a∈ks:=by rw[HKS.out]; simp
 have hmb':b∈ks:=by rw[HKS.out]; simp
 have hsz:=HSZ.out
 have hnx:=HNX.out
 have HI:=hid' (ziu HO a m.reg u (k+1) mb kb4 ub vw4 vi4 vj4 _ w4.drew B (B+1+1) b3 m.next HABC.out.1 (HDA.out a hma) (hvk.kept ((Below.refl mb w4).drew) (Nat.le_refl _)) HM4.out.drew (HU4.out.below (Below.refl _ w4).drew) (HFA.out a hma) HFR.out (by omega) (by omega) (by omega)
  (by rw[hup.out]; exact(HBX4.out.below (Below.refl _ w4).drew).sub (fun x hx=>by
   simp only[List.mem_cons,List.not_mem_nil,or_false] at hx ⊢
   rcases hx with rfl|rfl|rfl
   ·exact .inr (.inr (.inl rfl))
   ·exact .inr (.inr (.inr (.inl rfl)))
   ·exact .inr (.inl rfl))))
 have e1:=zaa (HBX4.out.at' _ (.tail _ (.tail _ (.tail _ (.tail _ (.head _)))))) 3 _ rfl
 have e4:=zaa (HBX4.out.at' _ (.head _)) 0 _ rfl
 simp only at e1 e4
 have j2:(0:Int)<(ks.length:Int):=by rw[HKS.out]; simp; omega
 have HJ2:=hid' j2
 simp only[Nat.zero_mul,Nat.add_zero] at r0 r1 r2 r3
 obtain⟨A,hA⟩:∃ A,Hid (into sh m.next (obs sh d a m.reg u)=A):=⟨_,hid' rfl⟩
 have HFA2:=hid' (zce sh (zat sh d a m.reg u (k+1) HABC.out.1 HFR.out) (out:=m.next) (by omega))
 have HPA:=hid' (show m.puts≤A.1.puts from by rw[←hA.out,zgd]; exact zfw sh d a m.reg u)
 rw[hA.out] at HI HFA2
 have j5:ks≠[]:=by rw[HKS.out]; simp
 have j3:0<ks.length:=List.length_pos_iff.2 j5
 have j4:(ks.length == 0)=false:=by simp; omega
 clear hvk hma hmb' hsz hnx hlb hk0 hk1
 go_still_tail 5,(by kernel_rfl)
 change wpList _ _ _ _ _ w4.drew
 go_wp2_with fail
 refine HI.out.mono ?_
 rintro e w5 ⟨⟨rr,rfl⟩,hl5,hu5⟩
 have HBX5:=hid' ((HBX4.out.below (Below.refl _ w4).drew).kp hl5.kp (HU4.out.below (Below.refl _ w4).drew))
 obtain⟨⟨vw5,vi5,vj5,kb5,M5,hk5⟩,hp5⟩:=hl5
 have HM5:=hid' M5
 have HU5:=hid' hu5
 have HK5:=hid' (show(kb5=kb∨w.heap.size≤kb5)∧KpG mb kb ub w w5 from⟨by
  rcases hk5 with rfl|h
  ·exact HK4.out.1
  ·exact .inr (Nat.le_trans HK4.out.2.bel.size h),(HK4.out.2.trans HM4.out.kd HK4.out.1).trans hp5 HK4.out.1⟩)
 clear M5 hk5 hp5 hu5 HI e1 e4 r0 r1 r2 r3 HM4 HK4 HBX4 HU4 HB4 j2
 have e1:=zaa (HBX5.out.at' _ (.tail _ (.tail _ (.tail _ (.tail _ (.head _)))))) 0 _ rfl
 have e0:=zaa (HBX5.out.at' _ (.tail _ (.tail _ (.head _)))) 0 _ rfl
 have e3:=zaa (HBX5.out.at' _ (.tail _ (.head _))) 0 _ rfl
 simp only at e0 e1 e3
 have hfl:=HFA2.out.1.len
 have hsz:=HSZ.out
 have HAL:=hid' (show A.1.ins.length≤700000 by omega)
 clear hfl hsz j3 j4 j5
 --CASES
 rcases hop with rfl|rfl|rfl
 ·have hr:r=[]:=HABC.out.2.2.2 (by omega)
  have hz:(T.mk 15 n s ks).size=1+(a.size+b.size):=by have:=HSZ.out.1; rw[hr] at this; simpa [sizes] using this
  have HDB:=hid' (HDA.out b (by rw[HKS.out]; simp))
  have HFB:=hid' (HFA.out b (by rw[HKS.out]; simp))
  have hsz:=HSZ.out
  have hnx:=HNX.out
  have hal:=HAL.out
  have f1:=HFA2.out.1.lay (ix 19 0 m.next 0)
  have hau:=HFA2.out.2
  have fb:=zce sh (zat sh d b (A.1.lay (ix 19 0 m.next 0)) A.2 _ HABC.out.2.1 f1) (out:=m.next) (by omega)
  have hpc:=zfw sh d b (A.1.lay (ix 19 0 m.next 0)) A.2
  rw[←zgd sh m.next] at hpc
  have hlc:=zap sh d b (A.1.lay (ix 19 0 m.next 0)) A.2
  rw[zae] at hlc
  have hlc2:=zca sh m.next (obs sh d b (A.1.lay (ix 19 0 m.next 0)) A.2)
  obtain⟨C,hC⟩:∃ C,Hid (into sh m.next (obs sh d b (A.1.lay (ix 19 0 m.next 0)) A.2)=C):=⟨_,hid' rfl⟩
  have HE:=hid' (show cho sh d (T.mk 15 n s ks) m u=((C.1.back A.1.known).here A.1.ins.length,C.2) by
   unfold cho
   refine(if_pos (show(T.mk 15 n s ks).op=15 from rfl)).trans ?_
   unfold zdi
   rw[show(T.mk 15 n s ks).kid 0=a by rw[HKS.out]; rfl,show(T.mk 15 n s ks).kid 1=b by rw[HKS.out]; rfl,hA.out]
   simp only
   rw[hC.out]
   rfl)
  rw[hC.out] at fb hpc hlc2
  have hcl:=fb.1.len
  have HCL:=hid' (show A.1.ins.length<(C.1.back A.1.known).ins.length∧(C.1.back A.1.known).ins.length≤900000 by rw[zai]; omega)
  have HJP:=hid' (zcp mb kb5 sh (A.1) vw5 vi5 vj5 (ix 19 0 m.next 0) w5 HM5.out (by have:=HAL.out; omega))
  unfold ix txt0 at HJP
  go_wp2_with fail
  refine HJP.out.mono ?_
  rintro e w6 ⟨f6,rfl,⟨ja1,ja2,rfl,ja3⟩,hl6⟩
  have HBja:=hid' (show JumpFn mb w6 _ _ from⟨ja1,ja2,rfl,ja3⟩)
  have HBX6:=hid' (HBX5.out.kp hl6.kp (u:=[]) zag)
  have HU6:=hid' (HU5.out.kp hl6.kp)
  obtain⟨vw6,vi6,vj6,kb6,m6,hk6⟩:=KpG.next HK5.out hl6.wk
  have HM6:=hid' m6
  have HK6:=hid' hk6
  clear hl6 m6 hk6 HM5 HK5 HBX5 HU5 HJP e0 e1 e3
  have e1:=zaa (HBX6.out.at' _ (.tail _ (.tail _ (.tail _ (.tail _ (.head _)))))) 0 _ rfl
  have e0:=zaa (HBX6.out.at' _ (.tail _ (.tail _ (.head _)))) 0 _ rfl
  have e3:=zaa (HBX6.out.at' _ (.tail _ (.head _))) 0 _ rfl
  simp only at e0 e1 e3
  have HBR:=hid' (zfp mb kb6 ub sh (A.1.lay (ix 19 0 m.next 0)) (C.1) (C.2) vw6 vi6 vj6 167 #[.pointer (some ⟨b3+1,0,none⟩),.pointer (some ⟨B+1,0,none⟩)] w6 HM6.out (fun w=>by kernel_rfl) (hpc)
   (fun W bw=>by rw[←hC.out]; exact qcy HO (T.mk 15 n s ks) b (A.1.lay (ix 19 0 m.next 0)) A.2 _ mb kb6 ub vw6 vi6 vj6 W B (B+1) (B+1+1) b3 (b3+1) m.next #[.int .i64 15,.int .i64 n,.string s,.slice (some ⟨cb,off,none⟩) ks.length c] HK01.out.2 (by first|exact HABC.out.2.1) (by first|exact HDB.out) (HCA.out W (HK6.out.2.bel.trans (bw.mono (Nat.le_of_lt HM6.out.lt)))) (HM6.out.below bw) (HU6.out.below bw) (by first|exact HFB.out) f1 (by omega) (by omega) (by omega) (by rw[hup.out]; exact(HBX6.out.below bw).sub (fun x hx=>by simp only[List.mem_cons,List.not_mem_nil,or_false] at hx ⊢; rcases hx with rfl|rfl|rfl|rfl|rfl<;>simp))))
  go_wp2_with fail
  refine HBR.out.mono ?_
  rintro e w7 ⟨⟨r7,rfl⟩,hl7,hu7⟩
  have HBX7:=hid' (HBX6.out.kp hl7.kp HU6.out)
  have HU7:=hid' hu7
  obtain⟨vw7,vi7,vj7,kb7,m7,hk7⟩:=KpG.next HK6.out hl7
  have HM7:=hid' m7
  have HK7:=hid' hk7
  have HBja:=hid' (HBja.out.kp hl7.kp HU6.out.box)
  clear hl7 m7 hk7 hu7 HM6 HK6 HBX6 HU6 HBR e0 e1 e3
  have e1:=zaa (HBX7.out.at' _ (.tail _ (.tail _ (.tail _ (.tail _ (.head _)))))) 0 _ rfl
  have e0:=zaa (HBX7.out.at' _ (.tail _ (.tail _ (.head _)))) 0 _ rfl
  have e3:=zaa (HBX7.out.at' _ (.tail _ (.head _))) 0 _ rfl
  simp only at e0 e1 e3
  obtain⟨x1,x2,hxe, -, -,hx1,hx2⟩:=HBja.out
  simp only[Value.func.injEq,Array.mk.injEq,List.cons.injEq,Value.pointer.injEq,Option.some.injEq,Addr.mk.injEq,and_true,true_and] at hxe
  obtain⟨rfl,rfl⟩:=hxe
  have HHR:=hid' (zdw mb kb7 sh (C.1.back A.1.known) vw7 vi7 vj7 (A.1.ins.length) ja1 ja2 w7 HM7.out (HCL.out.2) (HCL.out.1) hx1 hx2)
  clear hx1 hx2
  go_wp2_with fail
  refine HHR.out.mono ?_
  rintro e w8 ⟨⟨r8,rfl⟩,hl8⟩
  have HBX8:=hid' (HBX7.out.kp hl8.kp (u:=[]) zag)
  have HU8:=hid' (HU7.out.kp hl8.kp)
  obtain⟨vw8,vi8,vj8,kb8,m8,hk8⟩:=KpG.next HK7.out hl8.wk
  have HM8:=hid' m8
  have HK8:=hid' hk8
  clear hl8 m8 hk8 HM7 HK7 HBX7 HU7 HHR e0 e1 e3
  have e1:=zaa (HBX8.out.at' _ (.tail _ (.tail _ (.tail _ (.tail _ (.head _)))))) 0 _ rfl
  have e0:=zaa (HBX8.out.at' _ (.tail _ (.tail _ (.head _)))) 0 _ rfl
  have e3:=zaa (HBX8.out.at' _ (.tail _ (.head _))) 0 _ rfl
  simp only at e0 e1 e3
  go_wp2_with fail
  go_ret
  rw[HE.out]
  exact⟨rfl,⟨⟨_,_,_,_,HM8.out,HK8.out.1⟩,HK8.out.2⟩,HU8.out⟩
 ·have hz:(T.mk 16 n s ks).size=1+(a.size+(b.size+sizes r)):=HSZ.out.1
  have HDB:=hid' (HDA.out b (by rw[HKS.out]; simp))
  have HFB:=hid' (HFA.out b (by rw[HKS.out]; simp))
  have hsz:=HSZ.out
  have hnx:=HNX.out
  have hal:=HAL.out
  have hau:=HFA2.out.2
  have f1:=((HFA2.out.1.lay (ix 19 0 m.next 0)).lay (ix 20 0 0 0)).here A.1.ins.length
  have fb:=zce sh (zat sh d b (((A.1.lay (ix 19 0 m.next 0)).lay (ix 20 0 0 0)).here A.1.ins.length) A.2 _ HABC.out.2.1 f1) (out:=m.next) (by omega)
  have hpc:=zfw sh d b (((A.1.lay (ix 19 0 m.next 0)).lay (ix 20 0 0 0)).here A.1.ins.length) A.2
  rw[←zgd sh m.next] at hpc
  have hlc:=zap sh d b (((A.1.lay (ix 19 0 m.next 0)).lay (ix 20 0 0 0)).here A.1.ins.length) A.2
  rw[zaf,zae,zae] at hlc
  have hlc2:=zca sh m.next (obs sh d b (((A.1.lay (ix 19 0 m.next 0)).lay (ix 20 0 0 0)).here A.1.ins.length) A.2)
  obtain⟨C,hC⟩:∃ C,Hid (into sh m.next (obs sh d b (((A.1.lay (ix 19 0 m.next 0)).lay (ix 20 0 0 0)).here A.1.ins.length) A.2)=C):=⟨_,hid' rfl⟩
  have HE:=hid' (show cho sh d (T.mk 16 n s ks) m u=((C.1.back A.1.known).here (A.1.ins.length+1),C.2) by
   unfold cho
   refine(if_neg (show ¬(T.mk 16 n s ks).op=15 by show ¬(16:Int)=15; decide)).trans ((if_pos (show(T.mk 16 n s ks).op=16 from rfl)).trans ?_)
   unfold zec
   rw[show(T.mk 16 n s ks).kid 0=a by rw[HKS.out]; rfl,show(T.mk 16 n s ks).kid 1=b by rw[HKS.out]; rfl,hA.out]
   simp only
   rw[hC.out]
   rfl)
  rw[hC.out] at fb hpc hlc2
  have hcl:=fb.1.len
  have HCL:=hid' (show A.1.ins.length+1<(C.1.back A.1.known).ins.length∧(C.1.back A.1.known).ins.length≤900000 by rw[zai]; omega)
  have HJP:=hid' (zcp mb kb5 sh (A.1) vw5 vi5 vj5 (ix 19 0 m.next 0) w5 HM5.out (by have:=HAL.out; omega))
  unfold ix txt0 at HJP
  go_wp2_with fail
  refine HJP.out.mono ?_
  rintro e w6 ⟨f6,rfl,⟨ja1,ja2,rfl,ja3⟩,hl6⟩
  have HBja:=hid' (show JumpFn mb w6 _ _ from⟨ja1,ja2,rfl,ja3⟩)
  have HBX6:=hid' (HBX5.out.kp hl6.kp (u:=[]) zag)
  have HU6:=hid' (HU5.out.kp hl6.kp)
  obtain⟨vw6,vi6,vj6,kb6,m6,hk6⟩:=KpG.next HK5.out hl6.wk
  have HM6:=hid' m6
  have HK6:=hid' hk6
  clear hl6 m6 hk6 HM5 HK5 HBX5 HU5 HJP e0 e1 e3
  have e1:=zaa (HBX6.out.at' _ (.tail _ (.tail _ (.tail _ (.tail _ (.head _)))))) 0 _ rfl
  have e0:=zaa (HBX6.out.at' _ (.tail _ (.tail _ (.head _)))) 0 _ rfl
  have e3:=zaa (HBX6.out.at' _ (.tail _ (.head _))) 0 _ rfl
  simp only at e0 e1 e3
  have HJP:=hid' (zcp mb kb6 sh (A.1.lay (ix 19 0 m.next 0)) vw6 vi6 vj6 (ix 20 0 0 0) w6 HM6.out (by rw[zae]; have:=HAL.out; omega))
  unfold ix txt0 at HJP
  go_wp2_with fail
  refine HJP.out.mono ?_
  rintro e w7 ⟨f7,rfl,⟨jb1,jb2,rfl,jb3⟩,hl7⟩
  have HBjb:=hid' (show JumpFn mb w7 _ _ from⟨jb1,jb2,rfl,jb3⟩)
  have HBX7:=hid' (HBX6.out.kp hl7.kp (u:=[]) zag)
  have HU7:=hid' (HU6.out.kp hl7.kp)
  obtain⟨vw7,vi7,vj7,kb7,m7,hk7⟩:=KpG.next HK6.out hl7.wk
  have HM7:=hid' m7
  have HK7:=hid' hk7
  have HBja:=hid' (HBja.out.kp hl7.kp (fun u e=>by cases e))
  clear hl7 m7 hk7 HM6 HK6 HBX6 HU6 HJP e0 e1 e3
  have e1:=zaa (HBX7.out.at' _ (.tail _ (.tail _ (.tail _ (.tail _ (.head _)))))) 0 _ rfl
  have e0:=zaa (HBX7.out.at' _ (.tail _ (.tail _ (.head _)))) 0 _ rfl
  have e3:=zaa (HBX7.out.at' _ (.tail _ (.head _))) 0 _ rfl
  simp only at e0 e1 e3
  rw[zae] at HBjb
  obtain⟨x1,x2,hxe, -, -,hx1,hx2⟩:=HBja.out
  simp only[Value.func.injEq,Array.mk.injEq,List.cons.injEq,Value.pointer.injEq,Option.some.injEq,Addr.mk.injEq,and_true,true_and] at hxe
  obtain⟨rfl,rfl⟩:=hxe
  have HHR:=hid' (zdw mb kb7 sh ((A.1.lay (ix 19 0 m.next 0)).lay (ix 20 0 0 0)) vw7 vi7 vj7 (A.1.ins.length) ja1 ja2 w7 HM7.out (by rw[zae,zae]; have:=HAL.out; omega) (by rw[zae,zae]; omega) hx1 hx2)
  clear hx1 hx2
  go_wp2_with fail
  refine HHR.out.mono ?_
  rintro e w8 ⟨⟨r8,rfl⟩,hl8⟩
  have HBX8:=hid' (HBX7.out.kp hl8.kp (u:=[]) zag)
  have HU8:=hid' (HU7.out.kp hl8.kp)
  obtain⟨vw8,vi8,vj8,kb8,m8,hk8⟩:=KpG.next HK7.out hl8.wk
  have HM8:=hid' m8
  have HK8:=hid' hk8
  have HBjb:=hid' (HBjb.out.kp hl8.kp (fun u e=>by cases e))
  clear hl8 m8 hk8 HM7 HK7 HBX7 HU7 HHR e0 e1 e3
  have e1:=zaa (HBX8.out.at' _ (.tail _ (.tail _ (.tail _ (.tail _ (.head _)))))) 0 _ rfl
  have e0:=zaa (HBX8.out.at' _ (.tail _ (.tail _ (.head _)))) 0 _ rfl
  have e3:=zaa (HBX8.out.at' _ (.tail _ (.head _))) 0 _ rfl
  simp only at e0 e1 e3
  have HBR:=hid' (zfp mb kb8 ub sh (((A.1.lay (ix 19 0 m.next 0)).lay (ix 20 0 0 0)).here A.1.ins.length) (C.1) (C.2) vw8 vi8 vj8 168 #[.pointer (some ⟨b3+1,0,none⟩),.pointer (some ⟨B+1,0,none⟩)] w8 HM8.out (fun w=>by kernel_rfl) (hpc)
   (fun W bw=>by rw[←hC.out]; exact qcx HO (T.mk 16 n s ks) b (((A.1.lay (ix 19 0 m.next 0)).lay (ix 20 0 0 0)).here A.1.ins.length) A.2 _ mb kb8 ub vw8 vi8 vj8 W B (B+1) (B+1+1) b3 (b3+1) m.next #[.int .i64 16,.int .i64 n,.string s,.slice (some ⟨cb,off,none⟩) ks.length c] HK01.out.2 (by first|exact HABC.out.2.1) (by first|exact HDB.out) (HCA.out W (HK8.out.2.bel.trans (bw.mono (Nat.le_of_lt HM8.out.lt)))) (HM8.out.below bw) (HU8.out.below bw) (by first|exact HFB.out) f1 (by omega) (by omega) (by omega) (by rw[hup.out]; exact(HBX8.out.below bw).sub (fun x hx=>by simp only[List.mem_cons,List.not_mem_nil,or_false] at hx ⊢; rcases hx with rfl|rfl|rfl|rfl|rfl<;>simp))))
  go_wp2_with fail
  refine HBR.out.mono ?_
  rintro e w9 ⟨⟨r9,rfl⟩,hl9,hu9⟩
  have HBX9:=hid' (HBX8.out.kp hl9.kp HU8.out)
  have HU9:=hid' hu9
  obtain⟨vw9,vi9,vj9,kb9,m9,hk9⟩:=KpG.next HK8.out hl9
  have HM9:=hid' m9
  have HK9:=hid' hk9
  have HBjb:=hid' (HBjb.out.kp hl9.kp HU8.out.box)
  clear hl9 m9 hk9 hu9 HM8 HK8 HBX8 HU8 HBR e0 e1 e3
  have e1:=zaa (HBX9.out.at' _ (.tail _ (.tail _ (.tail _ (.tail _ (.head _)))))) 0 _ rfl
  have e0:=zaa (HBX9.out.at' _ (.tail _ (.tail _ (.head _)))) 0 _ rfl
  have e3:=zaa (HBX9.out.at' _ (.tail _ (.head _))) 0 _ rfl
  simp only at e0 e1 e3
  obtain⟨x1,x2,hxe, -, -,hx1,hx2⟩:=HBjb.out
  simp only[Value.func.injEq,Array.mk.injEq,List.cons.injEq,Value.pointer.injEq,Option.some.injEq,Addr.mk.injEq,and_true,true_and] at hxe
  obtain⟨rfl,rfl⟩:=hxe
  have HHR:=hid' (zdw mb kb9 sh (C.1.back A.1.known) vw9 vi9 vj9 (A.1.ins.length+1) jb1 jb2 w9 HM9.out (HCL.out.2) (HCL.out.1) hx1 hx2)
  clear hx1 hx2
  go_wp2_with fail
  refine HHR.out.mono ?_
  rintro e w10 ⟨⟨r10,rfl⟩,hl10⟩
  have HBX10:=hid' (HBX9.out.kp hl10.kp (u:=[]) zag)
  have HU10:=hid' (HU9.out.kp hl10.kp)
  obtain⟨vw10,vi10,vj10,kb10,m10,hk10⟩:=KpG.next HK9.out hl10.wk
  have HM10:=hid' m10
  have HK10:=hid' hk10
  clear hl10 m10 hk10 HM9 HK9 HBX9 HU9 HHR e0 e1 e3
  have e1:=zaa (HBX10.out.at' _ (.tail _ (.tail _ (.tail _ (.tail _ (.head _)))))) 0 _ rfl
  have e0:=zaa (HBX10.out.at' _ (.tail _ (.tail _ (.head _)))) 0 _ rfl
  have e3:=zaa (HBX10.out.at' _ (.tail _ (.head _))) 0 _ rfl
  simp only at e0 e1 e3
  go_wp2_with fail
  go_ret
  rw[HE.out]
  exact⟨rfl,⟨⟨_,_,_,_,HM10.out,HK10.out.1⟩,HK10.out.2⟩,HU10.out⟩
 ·have hz:(T.mk 22 n s ks).size=1+(a.size+(b.size+sizes r)):=HSZ.out.1
  have HDB:=hid' (HDA.out b (by rw[HKS.out]; simp))
  have HFB:=hid' (HFA.out b (by rw[HKS.out]; simp))
  have hsz:=HSZ.out
  have hnx:=HNX.out
  have hal:=HAL.out
  have hau:=HFA2.out.2
  obtain⟨x3,hr,hx3⟩:=HABC.out.2.2.1 rfl
  have HOC:=hid' hx3
  have HR:=hid' hr
  have hzr:sizes r=x3.size:=by rw[hr]; simp[sizes]
  have HDC:=hid' (HDA.out x3 (by rw[HKS.out,hr]; simp))
  have HFC:=hid' (HFA.out x3 (by rw[HKS.out,hr]; simp))
  have HK2:=hid' (show(T.mk 22 n s ks).ks[2]? = some x3 by show ks[2]? = some x3; rw[HKS.out,hr]; rfl)
  clear hr hx3
  have f1:=HFA2.out.1.lay (ix 19 0 m.next 0)
  have fb:=zce sh (zat sh d b (A.1.lay (ix 19 0 m.next 0)) A.2 _ HABC.out.2.1 f1) (out:=m.next) (by omega)
  have hpc:=zfw sh d b (A.1.lay (ix 19 0 m.next 0)) A.2
  rw[←zgd sh m.next] at hpc
  have hlc:=zap sh d b (A.1.lay (ix 19 0 m.next 0)) A.2
  rw[zae] at hlc
  have hlc2:=zca sh m.next (obs sh d b (A.1.lay (ix 19 0 m.next 0)) A.2)
  obtain⟨C,hC⟩:∃ C,Hid (into sh m.next (obs sh d b (A.1.lay (ix 19 0 m.next 0)) A.2)=C):=⟨_,hid' rfl⟩
  rw[hC.out] at fb hpc hlc2
  have f2:=((fb.1.back f1 (by omega)).lay (ix 20 0 0 0)).here A.1.ins.length
  have fc:=zce sh (zat sh d x3 (((C.1.back (A.1.lay (ix 19 0 m.next 0)).known).lay (ix 20 0 0 0)).here A.1.ins.length) C.2 _ HOC.out f2) (out:=m.next) (by omega)
  have hpf:=zfw sh d x3 (((C.1.back (A.1.lay (ix 19 0 m.next 0)).known).lay (ix 20 0 0 0)).here A.1.ins.length) C.2
  rw[←zgd sh m.next] at hpf
  have hlf:=zap sh d x3 (((C.1.back (A.1.lay (ix 19 0 m.next 0)).known).lay (ix 20 0 0 0)).here A.1.ins.length) C.2
  rw[zaf,zae,zai] at hlf
  have hlf2:=zca sh m.next (obs sh d x3 (((C.1.back (A.1.lay (ix 19 0 m.next 0)).known).lay (ix 20 0 0 0)).here A.1.ins.length) C.2)
  obtain⟨F,hF⟩:∃ F,Hid (into sh m.next (obs sh d x3 (((C.1.back (A.1.lay (ix 19 0 m.next 0)).known).lay (ix 20 0 0 0)).here A.1.ins.length) C.2)=F):=⟨_,hid' rfl⟩
  rw[hF.out] at fc hpf hlf2
  have HE:=hid' (show cho sh d (T.mk 22 n s ks) m u=((F.1.back (((C.1.back (A.1.lay (ix 19 0 m.next 0)).known).lay (ix 20 0 0 0)).here A.1.ins.length).known).here (C.1.back (A.1.lay (ix 19 0 m.next 0)).known).ins.length,F.2) by
   unfold cho
   refine(if_neg (show ¬(T.mk 22 n s ks).op=15 by show ¬(22:Int)=15; decide)).trans ((if_neg (show ¬(T.mk 22 n s ks).op=16 by show ¬(22:Int)=16; decide)).trans ?_)
   unfold zed
   rw[show(T.mk 22 n s ks).kid 0=a by rw[HKS.out]; rfl,show(T.mk 22 n s ks).kid 1=b by rw[HKS.out]; rfl,show(T.mk 22 n s ks).kid 2=x3 by rw[HKS.out,HR.out]; rfl,hA.out]
   simp only
   rw[hC.out,hF.out]
   rfl)
  have hcl:=fb.1.len
  have hfl:=fc.1.len
  have hcu:=fb.2
  have HCL:=hid' (show A.1.ins.length<(C.1.back (A.1.lay (ix 19 0 m.next 0)).known).ins.length∧(C.1.back (A.1.lay (ix 19 0 m.next 0)).known).ins.length≤800000 by rw[zai]; omega)
  have HFL:=hid' (show(C.1.back (A.1.lay (ix 19 0 m.next 0)).known).ins.length<(F.1.back (((C.1.back (A.1.lay (ix 19 0 m.next 0)).known).lay (ix 20 0 0 0)).here A.1.ins.length).known).ins.length∧(F.1.back (((C.1.back (A.1.lay (ix 19 0 m.next 0)).known).lay (ix 20 0 0 0)).here A.1.ins.length).known).ins.length≤900000 by rw[zai,zai]; omega)
  have HJP:=hid' (zcp mb kb5 sh (A.1) vw5 vi5 vj5 (ix 19 0 m.next 0) w5 HM5.out (by have:=HAL.out; omega))
  unfold ix txt0 at HJP
  go_wp2_with fail
  refine HJP.out.mono ?_
  rintro e w6 ⟨f6,rfl,⟨ja1,ja2,rfl,ja3⟩,hl6⟩
  have HBja:=hid' (show JumpFn mb w6 _ _ from⟨ja1,ja2,rfl,ja3⟩)
  have HBX6:=hid' (HBX5.out.kp hl6.kp (u:=[]) zag)
  have HU6:=hid' (HU5.out.kp hl6.kp)
  obtain⟨vw6,vi6,vj6,kb6,m6,hk6⟩:=KpG.next HK5.out hl6.wk
  have HM6:=hid' m6
  have HK6:=hid' hk6
  clear hl6 m6 hk6 HM5 HK5 HBX5 HU5 HJP e0 e1 e3
  have e1:=zaa (HBX6.out.at' _ (.tail _ (.tail _ (.tail _ (.tail _ (.head _)))))) 0 _ rfl
  have e0:=zaa (HBX6.out.at' _ (.tail _ (.tail _ (.head _)))) 0 _ rfl
  have e3:=zaa (HBX6.out.at' _ (.tail _ (.head _))) 0 _ rfl
  simp only at e0 e1 e3
  have HBR:=hid' (zfp mb kb6 ub sh (A.1.lay (ix 19 0 m.next 0)) (C.1) (C.2) vw6 vi6 vj6 169 #[.pointer (some ⟨b3+1,0,none⟩),.pointer (some ⟨B+1,0,none⟩)] w6 HM6.out (fun w=>by kernel_rfl) (hpc)
   (fun W bw=>by rw[←hC.out]; exact qcw HO (T.mk 22 n s ks) b (A.1.lay (ix 19 0 m.next 0)) A.2 _ mb kb6 ub vw6 vi6 vj6 W B (B+1) (B+1+1) b3 (b3+1) m.next #[.int .i64 22,.int .i64 n,.string s,.slice (some ⟨cb,off,none⟩) ks.length c] HK01.out.2 (by first|exact HABC.out.2.1) (by first|exact HDB.out) (HCA.out W (HK6.out.2.bel.trans (bw.mono (Nat.le_of_lt HM6.out.lt)))) (HM6.out.below bw) (HU6.out.below bw) (by first|exact HFB.out) f1 (by omega) (by omega) (by omega) (by rw[hup.out]; exact(HBX6.out.below bw).sub (fun x hx=>by simp only[List.mem_cons,List.not_mem_nil,or_false] at hx ⊢; rcases hx with rfl|rfl|rfl|rfl|rfl<;>simp))))
  go_wp2_with fail
  refine HBR.out.mono ?_
  rintro e w7 ⟨⟨r7,rfl⟩,hl7,hu7⟩
  have HBX7:=hid' (HBX6.out.kp hl7.kp HU6.out)
  have HU7:=hid' hu7
  obtain⟨vw7,vi7,vj7,kb7,m7,hk7⟩:=KpG.next HK6.out hl7
  have HM7:=hid' m7
  have HK7:=hid' hk7
  have HBja:=hid' (HBja.out.kp hl7.kp HU6.out.box)
  clear hl7 m7 hk7 hu7 HM6 HK6 HBX6 HU6 HBR e0 e1 e3
  have e1:=zaa (HBX7.out.at' _ (.tail _ (.tail _ (.tail _ (.tail _ (.head _)))))) 0 _ rfl
  have e0:=zaa (HBX7.out.at' _ (.tail _ (.tail _ (.head _)))) 0 _ rfl
  have e3:=zaa (HBX7.out.at' _ (.tail _ (.head _))) 0 _ rfl
  simp only at e0 e1 e3
  have HJP:=hid' (zcp mb kb7 sh (C.1.back (A.1.lay (ix 19 0 m.next 0)).known) vw7 vi7 vj7 (ix 20 0 0 0) w7 HM7.out (by have:=HCL.out.2; omega))
  unfold ix txt0 at HJP
  go_wp2_with fail
  refine HJP.out.mono ?_
  rintro e w8 ⟨f8,rfl,⟨jb1,jb2,rfl,jb3⟩,hl8⟩
  have HBjb:=hid' (show JumpFn mb w8 _ _ from⟨jb1,jb2,rfl,jb3⟩)
  have HBX8:=hid' (HBX7.out.kp hl8.kp (u:=[]) zag)
  have HU8:=hid' (HU7.out.kp hl8.kp)
  obtain⟨vw8,vi8,vj8,kb8,m8,hk8⟩:=KpG.next HK7.out hl8.wk
  have HM8:=hid' m8
  have HK8:=hid' hk8
  have HBja:=hid' (HBja.out.kp hl8.kp (fun u e=>by cases e))
  clear hl8 m8 hk8 HM7 HK7 HBX7 HU7 HJP e0 e1 e3
  have e1:=zaa (HBX8.out.at' _ (.tail _ (.tail _ (.tail _ (.tail _ (.head _)))))) 0 _ rfl
  have e0:=zaa (HBX8.out.at' _ (.tail _ (.tail _ (.head _)))) 0 _ rfl
  have e3:=zaa (HBX8.out.at' _ (.tail _ (.head _))) 0 _ rfl
  simp only at e0 e1 e3
  obtain⟨x1,x2,hxe, -, -,hx1,hx2⟩:=HBja.out
  simp only[Value.func.injEq,Array.mk.injEq,List.cons.injEq,Value.pointer.injEq,Option.some.injEq,Addr.mk.injEq,and_true,true_and] at hxe
  obtain⟨rfl,rfl⟩:=hxe
  have HHR:=hid' (zdw mb kb8 sh ((C.1.back (A.1.lay (ix 19 0 m.next 0)).known).lay (ix 20 0 0 0)) vw8 vi8 vj8 (A.1.ins.length) ja1 ja2 w8 HM8.out (by rw[zae]; have:=HCL.out.2; omega) (by rw[zae]; have:=HCL.out.1; omega) hx1 hx2)
  clear hx1 hx2
  go_wp2_with fail
  refine HHR.out.mono ?_
  rintro e w9 ⟨⟨r9,rfl⟩,hl9⟩
  have HBX9:=hid' (HBX8.out.kp hl9.kp (u:=[]) zag)
  have HU9:=hid' (HU8.out.kp hl9.kp)
  obtain⟨vw9,vi9,vj9,kb9,m9,hk9⟩:=KpG.next HK8.out hl9.wk
  have HM9:=hid' m9
  have HK9:=hid' hk9
  have HBjb:=hid' (HBjb.out.kp hl9.kp (fun u e=>by cases e))
  clear hl9 m9 hk9 HM8 HK8 HBX8 HU8 HHR e0 e1 e3
  have e1:=zaa (HBX9.out.at' _ (.tail _ (.tail _ (.tail _ (.tail _ (.head _)))))) 0 _ rfl
  have e0:=zaa (HBX9.out.at' _ (.tail _ (.tail _ (.head _)))) 0 _ rfl
  have e3:=zaa (HBX9.out.at' _ (.tail _ (.head _))) 0 _ rfl
  simp only at e0 e1 e3
  have HBR:=hid' (zfp mb kb9 ub sh (((C.1.back (A.1.lay (ix 19 0 m.next 0)).known).lay (ix 20 0 0 0)).here A.1.ins.length) (F.1) (F.2) vw9 vi9 vj9 170 #[.pointer (some ⟨b3+1,0,none⟩),.pointer (some ⟨B+1,0,none⟩)] w9 HM9.out (fun w=>by kernel_rfl) (hpf)
   (fun W bw=>by rw[←hF.out]; exact qcv HO (T.mk 22 n s ks) x3 (((C.1.back (A.1.lay (ix 19 0 m.next 0)).known).lay (ix 20 0 0 0)).here A.1.ins.length) C.2 _ mb kb9 ub vw9 vi9 vj9 W B (B+1) (B+1+1) b3 (b3+1) m.next #[.int .i64 22,.int .i64 n,.string s,.slice (some ⟨cb,off,none⟩) ks.length c] HK2.out (by first|exact HOC.out) (by first|exact HDC.out) (HCA.out W (HK9.out.2.bel.trans (bw.mono (Nat.le_of_lt HM9.out.lt)))) (HM9.out.below bw) (HU9.out.below bw) (by first|exact HFC.out) f2 (by omega) (by omega) (by omega) (by rw[hup.out]; exact(HBX9.out.below bw).sub (fun x hx=>by simp only[List.mem_cons,List.not_mem_nil,or_false] at hx ⊢; rcases hx with rfl|rfl|rfl|rfl|rfl<;>simp))))
  go_wp2_with fail
  refine HBR.out.mono ?_
  rintro e w10 ⟨⟨r10,rfl⟩,hl10,hu10⟩
  have HBX10:=hid' (HBX9.out.kp hl10.kp HU9.out)
  have HU10:=hid' hu10
  obtain⟨vw10,vi10,vj10,kb10,m10,hk10⟩:=KpG.next HK9.out hl10
  have HM10:=hid' m10
  have HK10:=hid' hk10
  have HBjb:=hid' (HBjb.out.kp hl10.kp HU9.out.box)
  clear hl10 m10 hk10 hu10 HM9 HK9 HBX9 HU9 HBR e0 e1 e3
  have e1:=zaa (HBX10.out.at' _ (.tail _ (.tail _ (.tail _ (.tail _ (.head _)))))) 0 _ rfl
  have e0:=zaa (HBX10.out.at' _ (.tail _ (.tail _ (.head _)))) 0 _ rfl
  have e3:=zaa (HBX10.out.at' _ (.tail _ (.head _))) 0 _ rfl
  simp only at e0 e1 e3
  obtain⟨x1,x2,hxe, -, -,hx1,hx2⟩:=HBjb.out
  simp only[Value.func.injEq,Array.mk.injEq,List.cons.injEq,Value.pointer.injEq,Option.some.injEq,Addr.mk.injEq,and_true,true_and] at hxe
  obtain⟨rfl,rfl⟩:=hxe
  have HHR:=hid' (zdw mb kb10 sh (F.1.back (((C.1.back (A.1.lay (ix 19 0 m.next 0)).known).lay (ix 20 0 0 0)).here A.1.ins.length).known) vw10 vi10 vj10 ((C.1.back (A.1.lay (ix 19 0 m.next 0)).known).ins.length) jb1 jb2 w10 HM10.out (HFL.out.2) (HFL.out.1) hx1 hx2)
  clear hx1 hx2
  go_wp2_with fail
  refine HHR.out.mono ?_
  rintro e w11 ⟨⟨r11,rfl⟩,hl11⟩
  have HBX11:=hid' (HBX10.out.kp hl11.kp (u:=[]) zag)
  have HU11:=hid' (HU10.out.kp hl11.kp)
  obtain⟨vw11,vi11,vj11,kb11,m11,hk11⟩:=KpG.next HK10.out hl11.wk
  have HM11:=hid' m11
  have HK11:=hid' hk11
  clear hl11 m11 hk11 HM10 HK10 HBX10 HU10 HHR e0 e1 e3
  have e1:=zaa (HBX11.out.at' _ (.tail _ (.tail _ (.tail _ (.tail _ (.head _)))))) 0 _ rfl
  have e0:=zaa (HBX11.out.at' _ (.tail _ (.tail _ (.head _)))) 0 _ rfl
  have e3:=zaa (HBX11.out.at' _ (.tail _ (.head _))) 0 _ rfl
  simp only at e0 e1 e3
  go_wp2_with fail
  go_ret
  rw[HE.out]
  exact⟨rfl,⟨⟨_,_,_,_,HM11.out,HK11.out.1⟩,HK11.out.2⟩,HU11.out⟩
end Gf
end
section
open Go.RowKit
open Rw
set_option maxRecDepth 100000
attribute [local go_sem] zbj
namespace Gf
open Co Dn
set_option maxHeartbeats 4000000 in
theorem zit (mb kb:Nat)(sh:Bool)(m:Mk)(vw vi vj:Value)(w:World)(b1 b2:Nat)(r base:Int)(hm:MkAt mb sh m vw vi vj kb w)(hb:0≤base∧base≤900000)
  (h1:w.heap[b1]? = some (.cells #[.pointer (some ⟨mb,0,none⟩)] 62 (0,0))) (h2:w.heap[b2]? = some (.cells #[.int .i64 base] 3 (0,0))):
  Calls Tryz.prog 143 #[.int .i64 r,.pointer (some ⟨b1,0,none⟩),.pointer (some ⟨b2,0,none⟩)] w (fun e w'=>e=.returned (.int .i64 r)∧Lays mb kb none sh (m.free sh (base+1)) w w'):=by
 have y1:=zaa h1 0 _ rfl
 have y2:=zaa h2 0 _ rfl
 have m3:=zaa hm.box 3 _ rfl
 have m5:=zaa hm.box 5 _ rfl
 have f5:=frozen_of (o:=5) hm.box
 have hw:IntKind.i64.wrap (base+1)=base+1:=IntWalk.i64_in _ (by omega)
 have HM:=hid' hm
 clear hm hb h1 h2
 cases sh with
 |true=>
  go_enter Tryz.func143,Tryz.ntmps143
  go_wp2_with fail
  go_ret
  exact⟨rfl,⟨_,_,_,_,HM.out,.inl rfl⟩,KpG.refl _ _ _ _⟩
 |false=>
  have HF:=hid' (HM.out.parts (m':={ m with next:=base+1 }) 5 (.int .i64 (base+1)) rfl rfl rfl rfl rfl rfl)
  go_enter Tryz.func143,Tryz.ntmps143
  go_wp2_with fail
  go_ret
  exact⟨rfl,⟨_,_,_,_,HF.out.1,.inl rfl⟩,HF.out.2⟩
theorem zmd {n:Int}{op:Int}{s:ByteArray}(hn:I64 n)(ho:I64 op)(hs:s.size≤2000000):ValOk ⟨op,n,s,0,0⟩:=⟨ho,hn,(by show s.size≤maxLen; unfold maxLen; omega),(by show I64 0; unfold I64; omega),(by show I64 0; unfold I64; omega)⟩
set_option maxHeartbeats 8000000 in
theorem qcq {sh:Bool}{d:Nat}(HO:zif sh d):zif sh (d+1):=by
 intro t m u k mb kb ub vw vi vj v w ht hd hv hm hu hub hf hk hul
 have hv0:=hv
 obtain⟨q,c,rfl,hcc,hio,hin,hss,hkr⟩:=hv.open
 obtain⟨op,n,s,ks⟩:=t
 have hfa:∀ x∈ks,ub=none→zbs x=false:=fun x hx e=>by
  have:=hub e
  rw[zgo,Bool.or_eq_false_iff,List.any_eq_false] at this
  simpa using this.2 x hx
 have hda:∀ x∈ks,x.depth≤d:=fun x hx=>by
  have:=zcy hx
  rw[T.depth] at hd
  omega
 have hf4:op=4→∃ b,ub=some b:=fun e=>by
  subst e
  cases ub with
  |some b=>exact⟨b,rfl⟩
  |none=>
   have:=hub rfl
   rw[zgo] at this
   cases this
 have hnx:=hf.nx
 have hfl:=hf.len
 have hpt:=hf.pt
 obtain⟨pa,hup⟩:∃ pa,Hid (uptr ub=.pointer pa):=by
  cases ub with
  |none=>exact⟨none,hid' rfl⟩
  |some b=>exact⟨some ⟨b,0,none⟩,hid' rfl⟩
 simp only[T.op,T.n,T.s,T.ks] at hio hin hss
 have HKR:=hid' hkr
 simp only[T.op,T.n,T.s,T.ks]
 have HRC:=hid' (fun (v:Val) (W:World) (b:Below w.heap.size w W) (hv:ValOk v) (h2:v.op=2→∃ b,ub=some b)=>zgl mb kb ub sh m u vw vi vj v W (hm.below b) (hu.below b) hv h2 (by omega) (by omega) (by omega))
 have HCH:=hid' (fun (W:World) (b:Below w.heap.size w W) (h:op=15∨op=16∨op=22)=>zxl HO (.mk op n s ks) m u k mb kb ub vw vi vj _ W ht h hd (hv0.kept (b.mono (Nat.le_of_lt hm.lt)) (Nat.le_refl _)) (hm.below b) (hu.below b) hub hf hk hul)
 simp only[T.op,T.n,T.s,T.ks] at HCH
 rw[hup.out] at HRC HCH ⊢
 -- the boxes
 have B1:=(Below.refl w.heap.size w).alloc (Nat.le_refl _) (.cells #[.pointer (some ⟨mb,0,none⟩)] 62)
 have y1:=heap_alloc_new w (.cells #[.pointer (some ⟨mb,0,none⟩)] 62)
 have B2:=(Below.refl (w.heap.size+1) (w.alloc (.cells #[.pointer (some ⟨mb,0,none⟩)] 62))).alloc (by simp) (.cells #[.int .i64 op,.int .i64 n,.string s,.slice q ks.length c] 24)
 have y2:=heap_alloc_new (w.alloc (.cells #[.pointer (some ⟨mb,0,none⟩)] 62)) (.cells #[.int .i64 op,.int .i64 n,.string s,.slice q ks.length c] 24)
 have B3:=(Below.refl (w.heap.size+1+1) ((w.alloc (.cells #[.pointer (some ⟨mb,0,none⟩)] 62)).alloc (.cells #[.int .i64 op,.int .i64 n,.string s,.slice q ks.length c] 24))).alloc (by simp) (.cells #[.int .i64 m.next] 3)
 have y3:=heap_alloc_new ((w.alloc (.cells #[.pointer (some ⟨mb,0,none⟩)] 62)).alloc (.cells #[.int .i64 op,.int .i64 n,.string s,.slice q ks.length c] 24)) (.cells #[.int .i64 m.next] 3)
 simp only[World.size_alloc] at y2 y3
 have BA2:=B1.trans (B2.mono (by omega))
 have z1:=(B3.block _ (by omega)).trans ((B2.block _ (by omega)).trans y1)
 have z2:=(B3.block _ (by omega)).trans y2
 have BA:=BA2.trans (B3.mono (by omega))
 have HY:=hid' (And.intro ((B2.block _ (by omega)).trans y1) (hm.below BA2))
 have HBX:=hid' ((((Bx.nil mb _).cons z2 (by have:=hm.lt; omega) rfl).cons y3 (by have:=hm.lt; omega) rfl).cons z1 hm.lt rfl)
 have HM:=hid' (hm.below BA)
 have HU:=hid' (hu.below BA)
 have HB:=hid' BA
 have HKP:=hid' (KpG.of (mb:=mb) (kb:=kb) (ub:=ub) BA (Nat.le_of_lt hm.lt))
 have HCA:=hid' (fun (W:World) (b:Below mb w W)=>(hv0.kept b (Nat.le_refl _)))
 have HFA:=hid' hfa
 have HDA:=hid' hda
 have HF4:=hid' hf4
 have HSZ:=hid' (And.intro hk (And.intro hul (And.intro hnx (And.intro hfl hpt))))
 have HF:=hid' hf
 have HT:=hid' ht
 have HI:=hid' (And.intro hio (And.intro hin hss))
 have HMB:=hid' hm.lt
 clear B1 y1 B2 y2 B3 y3 z1 z2 BA BA2 hm hu hv hv0 hkr hfa hda hf4 hk hul hf hcc hub hd hnx hfl hpt hio hin hss
 go_enter Tryz.func104,Tryz.ntmps104
 go_upto_region 1 with(fail)
 have e0:=zaa HY.out.1 0 _ rfl
 have m5:=zaa HY.out.2.box 5 _ rfl
 clear HY
 go_upto_region 3 with(fail)
 obtain⟨B,hB⟩:∃ B,Hid (w.heap.size=B):=⟨_,hid' rfl⟩
 simp only[hB.out] at HBX ⊢
 clear e0 m5
 generalize World.alloc _ _=w1 at *
 have e0:=zaa (HBX.out.at' _ (.head _)) 0 _ rfl
 have c0:=zaa (HBX.out.at' _ (.tail _ (.tail _ (.head _)))) 0 _ rfl
 have c1:=zaa (HBX.out.at' _ (.tail _ (.tail _ (.head _)))) 1 _ rfl
 have c2:=zaa (HBX.out.at' _ (.tail _ (.tail _ (.head _)))) 2 _ rfl
 have c3:=zaa (HBX.out.at' _ (.tail _ (.tail _ (.head _)))) 3 _ rfl
 simp only at e0 c0 c1 c2 c3
 rcases zdj HT.out with h1|⟨rfl, -⟩|⟨rfl, -⟩|⟨h1,a,hks,ha, -⟩|⟨h1,a,b,hks,ha,hb⟩|⟨rfl,a,b,cc,hks,ha,hb,hc⟩|⟨h1,a,b,hks,ha,hb⟩
 ·have HWN:(1:Int)=2→∃ b,ub=some b:=fun e=>by cases e
  rcases h1 with rfl|rfl|rfl
  ·have HR:=hid' (HRC.out ⟨1,n,txt0,0,0⟩ w1 HB.out (zmd (by first|exact HI.out.2.1|exact HI.out.1) (by unfold I64; omega) (by first|exact HI.out.2.2|(show(0:Nat)≤2000000; omega))) HWN)
   unfold txt0 at HR
   go_wp2_with fail
   refine HR.out.mono ?_
   rintro e w2 ⟨rfl,hl2,hu2⟩
   have HF2:=hid' (And.intro hl2 hu2)
   clear hl2 hu2
   go_wp2_with fail
   go_ret
   rw[zgt (t:=.mk 1 n s ks) (.inl rfl)]
   exact⟨rfl,KpG.then HKP.out (.inl rfl) HF2.out.1,HF2.out.2⟩
  ·have HR:=hid' (HRC.out ⟨1,n,txt0,0,0⟩ w1 HB.out (zmd (by first|exact HI.out.2.1|exact HI.out.1) (by unfold I64; omega) (by first|exact HI.out.2.2|(show(0:Nat)≤2000000; omega))) HWN)
   unfold txt0 at HR
   go_wp2_with fail
   refine HR.out.mono ?_
   rintro e w2 ⟨rfl,hl2,hu2⟩
   have HF2:=hid' (And.intro hl2 hu2)
   clear hl2 hu2
   go_wp2_with fail
   go_ret
   rw[zgt (t:=.mk 2 n s ks) (.inr (.inl rfl))]
   exact⟨rfl,KpG.then HKP.out (.inl rfl) HF2.out.1,HF2.out.2⟩
  ·have HR:=hid' (HRC.out ⟨1,n,txt0,0,0⟩ w1 HB.out (zmd (by first|exact HI.out.2.1|exact HI.out.1) (by unfold I64; omega) (by first|exact HI.out.2.2|(show(0:Nat)≤2000000; omega))) HWN)
   unfold txt0 at HR
   go_wp2_with fail
   refine HR.out.mono ?_
   rintro e w2 ⟨rfl,hl2,hu2⟩
   have HF2:=hid' (And.intro hl2 hu2)
   clear hl2 hu2
   go_wp2_with fail
   go_ret
   rw[zgt (t:=.mk 3 n s ks) (.inr (.inr rfl))]
   exact⟨rfl,KpG.then HKP.out (.inl rfl) HF2.out.1,HF2.out.2⟩
 ·have HWN:(2:Int)=2→∃ b,ub=some b:=fun _=>HF4.out rfl
  have HR:=hid' (HRC.out ⟨2,n,s,0,0⟩ w1 HB.out (zmd (by first|exact HI.out.2.1|exact HI.out.1) (by unfold I64; omega) (by first|exact HI.out.2.2|(show(0:Nat)≤2000000; omega))) HWN)
  go_wp2_with fail
  refine HR.out.mono ?_
  rintro e w2 ⟨rfl,hl2,hu2⟩
  have HF2:=hid' (And.intro hl2 hu2)
  clear hl2 hu2
  go_wp2_with fail
  go_ret
  rw[zio (t:=.mk 4 n s ks) rfl]
  exact⟨rfl,KpG.then HKP.out (.inl rfl) HF2.out.1,HF2.out.2⟩
 ·have HWN:(3:Int)=2→∃ b,ub=some b:=fun e=>by cases e
  have HR:=hid' (HRC.out ⟨3,n,txt0,0,0⟩ w1 HB.out (zmd (by first|exact HI.out.2.1|exact HI.out.1) (by unfold I64; omega) (by first|exact HI.out.2.2|(show(0:Nat)≤2000000; omega))) HWN)
  unfold txt0 at HR
  go_wp2_with fail
  refine HR.out.mono ?_
  rintro e w2 ⟨rfl,hl2,hu2⟩
  have HF2:=hid' (And.intro hl2 hu2)
  clear hl2 hu2
  go_wp2_with fail
  go_ret
  rw[zjv (t:=.mk 5 n s ks) rfl]
  exact⟨rfl,KpG.then HKP.out (.inl rfl) HF2.out.1,HF2.out.2⟩
 ·have hop:(6≤op∧op≤14)∨(17≤op∧op≤21):=by omega
  have hop2:6≤op∧op≤21∧op≠15∧op≠16:=by omega
  have g1:((op:Int) == 1)=false:=by simp; omega
  have g2:((op:Int) == 2)=false:=by simp; omega
  have g3:((op:Int) == 3)=false:=by simp; omega
  have g4:((op:Int) == 4)=false:=by simp; omega
  have g5:((op:Int) == 5)=false:=by simp; omega
  have g15:((op:Int) == 15)=false:=by simp; omega
  have g16:((op:Int) == 16)=false:=by simp; omega
  have g22:((op:Int) == 22)=false:=by simp; omega
  have HOP:=hid' (And.intro hop hop2)
  have HKS:=hid' hks
  have HHA:=hid' ha
  have hk0:(T.mk op n s ks).ks[0]? = some a:=by show ks[0]? = some a; rw[hks]; rfl
  have hma:a∈ks:=by rw[hks]; simp
  have hz:(T.mk op n s ks).size=1+a.size:=by rw[T.size,hks]; simp[sizes]
  have hlen:ks.length=1:=by rw[hks]; rfl
  have l1:decide ((1:Int)<(ks.length:Int))=false:=decide_eq_false (by omega)
  have l2':decide (1<ks.length)=false:=decide_eq_false (by omega)
  have l3:0<ks.length:=by omega
  have l4:ks≠[]:=by rw[hks]; simp
  have HLN:=hid' hlen
  have HZ:=hid' hz
  have hsz:=HSZ.out
  obtain⟨cb,off,kop,kn,kst,pk,kl,ck,hq,hlb,hvk,r0,r1,r2,r3⟩:=zbq (t:=.mk op n s ks) (zaw HKR.out (HB.out.mono (Nat.le_of_lt HMB.out))) hk0
  subst hq
  have HCL:=hid' (HO a m u k mb kb ub vw vi vj _ w1.drew ha (HDA.out a hma) (hvk.kept ((Below.refl mb w1).drew) (Nat.le_refl _)) HM.out.drew (HU.out.below (Below.refl _ w1).drew) (HFA.out a hma) HF.out (by omega) (by omega))
  rw[hup.out] at HCL
  simp only[Nat.zero_mul,Nat.add_zero] at r0 r1 r2 r3
  have HFO:=hid' (zat sh d a m u k ha HF.out)
  obtain⟨O,hO⟩:∃ O,Hid (obs sh d a m u=O):=⟨_,hid' rfl⟩
  rw[hO.out] at HCL HFO
  clear hks ha hk0 hma hz hlen hsz hvk hlb hop hop2 h1
  go_upto_region 16 with(fail)
  clear g1 g2 g3 g4 g5 g15 g16 g22
  go_still_tail 6,(by kernel_rfl)
  change wpList _ _ _ _ _ w1.drew
  go_wp2_with fail
  refine HCL.out.mono ?_
  rintro e w2 ⟨rfl,hl2,hu2⟩
  have HBX2:=hid' ((HBX.out.below (Below.refl _ w1).drew).kp hl2.kp (HU.out.below (Below.refl _ w1).drew))
  have HU2:=hid' hu2
  obtain⟨vw2,vi2,vj2,kb2,m2,hk2⟩:=KpG.next ⟨.inl rfl,HKP.out.trans HM.out.kd (.inl rfl)⟩ hl2
  have HM2:=hid' m2
  have HK2:=hid' hk2
  clear hl2 hu2 m2 hk2 HCL e0 c0 c1 c2 c3 r0 r1 r2 r3 HBX HU HM HKP
  have e0:=zaa (HBX2.out.at' _ (.head _)) 0 _ rfl
  have c0:=zaa (HBX2.out.at' _ (.tail _ (.tail _ (.head _)))) 0 _ rfl
  have c3:=zaa (HBX2.out.at' _ (.tail _ (.tail _ (.head _)))) 3 _ rfl
  simp only at e0 c0 c3
  have HPL:=hid' (fun W=>zqv op W HOP.out.1)
  obtain⟨po,hpo⟩:∃ po,Hid (zah op=po∧4≤po∧po≤30):=⟨_,hid' ⟨rfl,by unfold zah; have:=HOP.out.1; split<;>omega,by unfold zah; have:=HOP.out.1; split<;>omega⟩⟩
  rw[hpo.out.1] at HPL
  have hsz:=HSZ.out
  have hzz:=HZ.out
  have hr1:=HFO.out.r
  have hr2:0≤(0:Int)∧(0:Int)≤700000:=by omega
  have hml:=HFO.out.m.len
  have hmp:=HFO.out.m.pt
  have hmn:=HFO.out.m.nx
  have hou:=HFO.out.u
  have HVO:=hid' (show ValOk ⟨po,0,txt0,O.1,0⟩ from⟨(by have:=hpo.out; show I64 po; unfold I64; omega),(by show I64 0; unfold I64; omega),(by show(0:Nat)≤maxLen; unfold maxLen; omega),(by show I64 O.1; unfold I64; omega),(by show I64 0; unfold I64; omega)⟩)
  have HBND:=hid' (show O.2.1.ins.length≤800000∧(0≤O.2.1.next∧O.2.1.next≤800000)∧(O.2.2.length≤800000∧O.2.1.puts≤800000) by omega)
  clear hsz hzz hr1 hr2 hml hmp hmn hou
  go_wp2_with fail
  refine(HPL.out _).mono ?_
  rintro e w4 ⟨rfl,b4⟩
  have bn:=(Below.refl w4.heap.size w4).alloc (Nat.le_refl _) (.cells #[.int .i64 po,.int .i64 0,.string ⟨#[]⟩,.int .i64 O.1,.int .i64 0] 171)
  have HN:=hid' (heap_alloc_new w4 (.cells #[.int .i64 po,.int .i64 0,.string ⟨#[]⟩,.int .i64 O.1,.int .i64 0] 171))
  have B5:=Below.more b4 bn
  have HBX5:=hid' (HBX2.out.below B5)
  have HU5:=hid' (HU2.out.below B5)
  have HM5:=hid' (HM2.out.below B5)
  have HK5:=hid' (show(kb2=kb∨w.heap.size≤kb2)∧KpG mb kb ub w _ from⟨HK2.out.1,HK2.out.2.trans (kb':=kb2) (KpG.of B5 (Nat.le_of_lt HM2.out.lt)) HK2.out.1⟩)
  clear b4 bn B5 e0 c0 c3
  go_upto_region 21 with(fail)
  obtain⟨vb,hvb⟩:∃ vb,Hid (w4.heap.size=vb):=⟨_,hid' rfl⟩
  simp only[hvb.out] at HN ⊢
  generalize World.alloc _ _=w5 at *
  have e0:=zaa (HBX5.out.at' _ (.head _)) 0 _ rfl
  have m3:=zaa HM5.out.box 3 _ rfl
  have v0:=zaa HN.out 0 _ rfl
  have v1:=zaa HN.out 1 _ rfl
  have v2:=zaa HN.out 2 _ rfl
  have v3:=zaa HN.out 3 _ rfl
  have v4:=zaa HN.out 4 _ rfl
  simp only at e0
  have HE:=hid' (show obs sh (d+1) (T.mk op n s ks) m u=if sh=true then zak sh ⟨po,0,txt0,O.1,0⟩ O.2.1 O.2.2 else(O.1,(O.2.1.lay ⟨po,O.1,O.1,0,0,txt0,0⟩).free sh (m.next+1),O.2.2) by
   rw[zfs (t:=.mk op n s ks) HOP.out.2]
   rw[zdq (t:=.mk op n s ks) (show ¬1<ks.length by rw[HLN.out]; decide) (show(T.mk op n s ks).kid 0=a by rw[HKS.out]; rfl) hO.out]
   show(if sh=true then zak sh ⟨zah op,_,_,_,_⟩ _ _ else(_,(Mk.lay _ ⟨zah op,_,_,_,_,_,_⟩).free sh _,_))=_
   rw[hpo.out.1])
  cases sh with
  |true=>
   have HRK:=hid' (zgl mb kb2 ub true O.2.1 O.2.2 vw2 vi2 vj2 ⟨po,0,txt0,O.1,0⟩ w5 HM5.out HU5.out HVO.out (fun e=>by have:=hpo.out; have e':po=2:=e; omega) HBND.out.1 HBND.out.2.1 HBND.out.2.2)
   rw[hup.out] at HRK
   unfold txt0 at HRK
   go_wp2_with fail
   refine HRK.out.mono ?_
   rintro e w6 ⟨rfl,hl6,hu6⟩
   have HF6:=hid' (And.intro (KpG.then HK5.out.2 HK5.out.1 hl6) hu6)
   clear hl6 hu6
   go_wp2_with fail
   go_ret
   rw[HE.out]
   exact⟨rfl,HF6.out.1,HF6.out.2⟩
  |false=>
   have HLY:=hid' (zdc mb kb2 false O.2.1 vw2 vi2 vj2 ⟨po,O.1,O.1,0,0,txt0,0⟩ w5 HM5.out (by have:=HBND.out.1; omega))
   unfold txt0 at HLY
   go_wp2_with fail
   refine HLY.out.mono ?_
   rintro e w6 ⟨rfl,hl6⟩
   have HBX6:=hid' (HBX5.out.kp hl6.kp (u:=[]) zag)
   have HU6:=hid' (HU5.out.kp hl6.kp)
   obtain⟨vw6,vi6,vj6,kb6,M6,K6⟩:=KpG.next HK5.out hl6.wk
   have HK6:=hid' K6
   have q0:=HBX6.out.at' _ (.head _)
   have q1:=HBX6.out.at' _ (.tail _ (.head _))
   simp only at q0 q1
   have HKE:=hid' (zit mb kb6 false _ vw6 vi6 vj6 w6 B (B+1+1) O.1 m.next M6 (by have:=HSZ.out; omega) q0 q1)
   clear hl6 M6 K6 q0 q1 e0 m3 v0 v1 v2 v3 v4
   go_wp2_with fail
   refine HKE.out.mono ?_
   rintro e w7 ⟨rfl,hl7⟩
   have HF7:=hid' (And.intro (KpG.then HK6.out.2 HK6.out.1 hl7.wk) (HU6.out.kp hl7.kp))
   clear hl7
   go_wp2_with fail
   go_ret
   rw[HE.out]
   exact⟨rfl,HF7.out.1,HF7.out.2⟩
 ·rcases h1 with rfl|rfl
  ·clear hks
   have HC:=hid' (HCH.out w1 HB.out (by omega))
   obtain⟨R,hR⟩:∃ R,Hid (cho sh d (T.mk 15 n s ks) m u=R):=⟨_,hid' rfl⟩
   have HE:=hid' (show obs sh (d+1) (T.mk 15 n s ks) m u=chosen m sh R by rw[←hR.out,zjw (t:=.mk 15 n s ks) rfl]; rfl)
   rw[hR.out] at HC
   go_wp2_with fail
   refine HC.out.mono ?_
   rintro e w2 ⟨rfl,hl2,hu2⟩
   have HBX2:=hid' (HBX.out.kp hl2.kp HU.out)
   obtain⟨vw2,vi2,vj2,kb2,M2,K2⟩:=KpG.next ⟨.inl rfl,HKP.out⟩ hl2
   have HK2:=hid' K2
   have HU2:=hid' hu2
   have q0:=HBX2.out.at' _ (.head _)
   have q1:=HBX2.out.at' _ (.tail _ (.head _))
   simp only at q0 q1
   have HKE:=hid' (zit mb kb2 sh R.1 vw2 vi2 vj2 w2 B (B+1+1) m.next m.next M2 (by have:=HSZ.out; omega) q0 q1)
   clear q0 q1
   clear hl2 hu2 M2 K2 e0 c0 c1 c2 c3
   go_wp2_with fail
   refine HKE.out.mono ?_
   rintro e w3 ⟨rfl,hl3⟩
   have HF3:=hid' (And.intro (KpG.then HK2.out.2 HK2.out.1 hl3.wk) (HU2.out.kp hl3.kp))
   clear hl3
   go_wp2_with fail
   go_ret
   rw[HE.out]
   exact⟨rfl,HF3.out.1,HF3.out.2⟩
  ·clear hks
   have HC:=hid' (HCH.out w1 HB.out (by omega))
   obtain⟨R,hR⟩:∃ R,Hid (cho sh d (T.mk 16 n s ks) m u=R):=⟨_,hid' rfl⟩
   have HE:=hid' (show obs sh (d+1) (T.mk 16 n s ks) m u=chosen m sh R by rw[←hR.out,zly (t:=.mk 16 n s ks) rfl]; rfl)
   rw[hR.out] at HC
   go_wp2_with fail
   refine HC.out.mono ?_
   rintro e w2 ⟨rfl,hl2,hu2⟩
   have HBX2:=hid' (HBX.out.kp hl2.kp HU.out)
   obtain⟨vw2,vi2,vj2,kb2,M2,K2⟩:=KpG.next ⟨.inl rfl,HKP.out⟩ hl2
   have HK2:=hid' K2
   have HU2:=hid' hu2
   have q0:=HBX2.out.at' _ (.head _)
   have q1:=HBX2.out.at' _ (.tail _ (.head _))
   simp only at q0 q1
   have HKE:=hid' (zit mb kb2 sh R.1 vw2 vi2 vj2 w2 B (B+1+1) m.next m.next M2 (by have:=HSZ.out; omega) q0 q1)
   clear q0 q1
   clear hl2 hu2 M2 K2 e0 c0 c1 c2 c3
   go_wp2_with fail
   refine HKE.out.mono ?_
   rintro e w3 ⟨rfl,hl3⟩
   have HF3:=hid' (And.intro (KpG.then HK2.out.2 HK2.out.1 hl3.wk) (HU2.out.kp hl3.kp))
   clear hl3
   go_wp2_with fail
   go_ret
   rw[HE.out]
   exact⟨rfl,HF3.out.1,HF3.out.2⟩
 ·clear hks
  have HC:=hid' (HCH.out w1 HB.out (by omega))
  obtain⟨R,hR⟩:∃ R,Hid (cho sh d (T.mk 22 n s ks) m u=R):=⟨_,hid' rfl⟩
  have HE:=hid' (show obs sh (d+1) (T.mk 22 n s ks) m u=chosen m sh R by rw[←hR.out,zlz (t:=.mk 22 n s ks) rfl]; rfl)
  rw[hR.out] at HC
  go_wp2_with fail
  refine HC.out.mono ?_
  rintro e w2 ⟨rfl,hl2,hu2⟩
  have HBX2:=hid' (HBX.out.kp hl2.kp HU.out)
  obtain⟨vw2,vi2,vj2,kb2,M2,K2⟩:=KpG.next ⟨.inl rfl,HKP.out⟩ hl2
  have HK2:=hid' K2
  have HU2:=hid' hu2
  have q0:=HBX2.out.at' _ (.head _)
  have q1:=HBX2.out.at' _ (.tail _ (.head _))
  simp only at q0 q1
  have HKE:=hid' (zit mb kb2 sh R.1 vw2 vi2 vj2 w2 B (B+1+1) m.next m.next M2 (by have:=HSZ.out; omega) q0 q1)
  clear q0 q1
  clear hl2 hu2 M2 K2 e0 c0 c1 c2 c3
  go_wp2_with fail
  refine HKE.out.mono ?_
  rintro e w3 ⟨rfl,hl3⟩
  have HF3:=hid' (And.intro (KpG.then HK2.out.2 HK2.out.1 hl3.wk) (HU2.out.kp hl3.kp))
  clear hl3
  go_wp2_with fail
  go_ret
  rw[HE.out]
  exact⟨rfl,HF3.out.1,HF3.out.2⟩
 ·have hop:(6≤op∧op≤14)∨(17≤op∧op≤21):=by unfold zcv at h1; omega
  have hop2:6≤op∧op≤21∧op≠15∧op≠16:=by omega
  have g1:((op:Int) == 1)=false:=by simp; omega
  have g2:((op:Int) == 2)=false:=by simp; omega
  have g3:((op:Int) == 3)=false:=by simp; omega
  have g4:((op:Int) == 4)=false:=by simp; omega
  have g5:((op:Int) == 5)=false:=by simp; omega
  have g15:((op:Int) == 15)=false:=by simp; omega
  have g16:((op:Int) == 16)=false:=by simp; omega
  have g22:((op:Int) == 22)=false:=by simp; omega
  have HOP:=hid' (And.intro hop hop2)
  have HKS:=hid' hks
  have HHA:=hid' ha
  have HHB:=hid' hb
  have hk0:(T.mk op n s ks).ks[0]? = some a:=by show ks[0]? = some a; rw[hks]; rfl
  have hma:a∈ks:=by rw[hks]; simp
  have hk1:(T.mk op n s ks).ks[1]? = some b:=by show ks[1]? = some b; rw[hks]; rfl
  have hmb':b∈ks:=by rw[hks]; simp
  have HK1:=hid' hk1
  have HMB2:=hid' hmb'
  have hz:(T.mk op n s ks).size=1+(a.size+b.size):=by rw[T.size,hks]; simp[sizes]
  have hlen:ks.length=2:=by rw[hks]; rfl
  have l1:decide ((1:Int)<(ks.length:Int))=true:=decide_eq_true (by omega)
  have l2:1<ks.length:=by omega
  have l2':decide (1<ks.length)=true:=decide_eq_true l2
  have l3:0<ks.length:=by omega
  have l4:ks≠[]:=by rw[hks]; simp
  have HL:=hid' (And.intro l1 (And.intro l2 (And.intro l2' (And.intro l3 l4))))
  have HLN:=hid' hlen
  have HZ:=hid' hz
  have hsz:=HSZ.out
  obtain⟨cb,off,kop,kn,kst,pk,kl,ck,hq,hlb,hvk,r0,r1,r2,r3⟩:=zbq (t:=.mk op n s ks) (zaw HKR.out (HB.out.mono (Nat.le_of_lt HMB.out))) hk0
  subst hq
  have HCL:=hid' (HO a m u k mb kb ub vw vi vj _ w1.drew ha (HDA.out a hma) (hvk.kept ((Below.refl mb w1).drew) (Nat.le_refl _)) HM.out.drew (HU.out.below (Below.refl _ w1).drew) (HFA.out a hma) HF.out (by omega) (by omega))
  rw[hup.out] at HCL
  simp only[Nat.zero_mul,Nat.add_zero] at r0 r1 r2 r3
  have HFO:=hid' (zat sh d a m u k ha HF.out)
  obtain⟨O,hO⟩:∃ O,Hid (obs sh d a m u=O):=⟨_,hid' rfl⟩
  rw[hO.out] at HCL HFO
  clear hks ha hb hk0 hma hk1 hmb' hz hlen hsz hvk hlb hop hop2 h1
  go_upto_region 16 with(fail)
  clear g1 g2 g3 g4 g5 g15 g16 g22
  go_still_tail 6,(by kernel_rfl)
  change wpList _ _ _ _ _ w1.drew
  go_wp2_with fail
  refine HCL.out.mono ?_
  rintro e w2 ⟨rfl,hl2,hu2⟩
  have HBX2:=hid' ((HBX.out.below (Below.refl _ w1).drew).kp hl2.kp (HU.out.below (Below.refl _ w1).drew))
  have HU2:=hid' hu2
  obtain⟨vw2,vi2,vj2,kb2,m2,hk2⟩:=KpG.next ⟨.inl rfl,HKP.out.trans HM.out.kd (.inl rfl)⟩ hl2
  have HM2:=hid' m2
  have HK2:=hid' hk2
  clear hl2 hu2 m2 hk2 HCL e0 c0 c1 c2 c3 r0 r1 r2 r3 HBX HU HM HKP
  have e0:=zaa (HBX2.out.at' _ (.head _)) 0 _ rfl
  have c0:=zaa (HBX2.out.at' _ (.tail _ (.tail _ (.head _)))) 0 _ rfl
  have c3:=zaa (HBX2.out.at' _ (.tail _ (.tail _ (.head _)))) 3 _ rfl
  simp only at e0 c0 c3
  have hsz:=HSZ.out
  have hzz:=HZ.out
  have hou:=HFO.out.u
  obtain⟨cb2,off2,kop2,kn2,kst2,pk2,kl2,ck2,hq2,hlb2,hvk2,r0,r1,r2,r3⟩:=zbq (t:=.mk op n s ks) (zaw HKR.out HK2.out.2.bel) HK1.out
  simp only[Option.some.injEq,Addr.mk.injEq,and_true] at hq2
  obtain⟨hqa,hqb⟩:=hq2
  rw[←hqa,←hqb] at r0 r1 r2 r3
  have HCL:=hid' (HO b O.2.1 O.2.2 (k+8 * a.size) mb kb2 ub vw2 vi2 vj2 _ w2.drew HHB.out (HDA.out b HMB2.out) (hvk2.kept ((Below.refl mb w2).drew) (Nat.le_refl _)) HM2.out.drew (HU2.out.below (Below.refl _ w2).drew) (HFA.out b HMB2.out) HFO.out.m (by omega) (by omega))
  rw[hup.out] at HCL
  simp only[Nat.one_mul] at r0 r1 r2 r3
  have HFP:=hid' (zat sh d b O.2.1 O.2.2 (k+8 * a.size) HHB.out HFO.out.m)
  obtain⟨P,hP⟩:∃ P,Hid (obs sh d b O.2.1 O.2.2=P):=⟨_,hid' rfl⟩
  rw[hP.out] at HCL HFP
  clear hsz hzz hou hvk2 hlb2 hqa hqb
  have j2:(1:Int)<(ks.length:Int):=by have:=HLN.out; omega
  have j3:(0:Int)≤1:=by omega
  go_upto_region 19 with(fail)
  clear l1 l2 l2' l3 l4
  go_still_tail 6,(by kernel_rfl)
  change wpList _ _ _ _ _ w2.drew
  go_wp2_with fail
  refine HCL.out.mono ?_
  rintro e w3 ⟨rfl,hl3,hu3⟩
  have HBX3:=hid' ((HBX2.out.below (Below.refl _ w2).drew).kp hl3.kp (HU2.out.below (Below.refl _ w2).drew))
  have HU3:=hid' hu3
  obtain⟨vw3,vi3,vj3,kb3,m3,hk3⟩:=KpG.next ⟨HK2.out.1,HK2.out.2.trans HM2.out.kd HK2.out.1⟩ hl3
  have HM3:=hid' m3
  have HK3:=hid' hk3
  clear hl3 hu3 m3 hk3 HCL e0 c0 c3 r0 r1 r2 r3 HBX2 HU2 HM2 HK2
  have e0:=zaa (HBX3.out.at' _ (.head _)) 0 _ rfl
  have c0:=zaa (HBX3.out.at' _ (.tail _ (.tail _ (.head _)))) 0 _ rfl
  have c3:=zaa (HBX3.out.at' _ (.tail _ (.tail _ (.head _)))) 3 _ rfl
  simp only at e0 c0 c3
  have HPL:=hid' (fun W=>zqv op W HOP.out.1)
  obtain⟨po,hpo⟩:∃ po,Hid (zah op=po∧4≤po∧po≤30):=⟨_,hid' ⟨rfl,by unfold zah; have:=HOP.out.1; split<;>omega,by unfold zah; have:=HOP.out.1; split<;>omega⟩⟩
  rw[hpo.out.1] at HPL
  have hsz:=HSZ.out
  have hzz:=HZ.out
  have hr1:=HFO.out.r
  have hr2:0≤(P.1:Int)∧(P.1:Int)≤700000:=by have:=HFP.out.r; omega
  have hml:=HFP.out.m.len
  have hmp:=HFP.out.m.pt
  have hmn:=HFP.out.m.nx
  have hou:=HFO.out.u
  have hpu:=HFP.out.u
  have HVO:=hid' (show ValOk ⟨po,0,txt0,O.1,P.1⟩ from⟨(by have:=hpo.out; show I64 po; unfold I64; omega),(by show I64 0; unfold I64; omega),(by show(0:Nat)≤maxLen; unfold maxLen; omega),(by show I64 O.1; unfold I64; omega),(by show I64 P.1; unfold I64; omega)⟩)
  have HBND:=hid' (show P.2.1.ins.length≤800000∧(0≤P.2.1.next∧P.2.1.next≤800000)∧(P.2.2.length≤800000∧P.2.1.puts≤800000) by omega)
  clear hsz hzz hr1 hr2 hml hmp hmn hou hpu
  go_wp2_with fail
  refine(HPL.out _).mono ?_
  rintro e w4 ⟨rfl,b4⟩
  have bn:=(Below.refl w4.heap.size w4).alloc (Nat.le_refl _) (.cells #[.int .i64 po,.int .i64 0,.string ⟨#[]⟩,.int .i64 O.1,.int .i64 P.1] 171)
  have HN:=hid' (heap_alloc_new w4 (.cells #[.int .i64 po,.int .i64 0,.string ⟨#[]⟩,.int .i64 O.1,.int .i64 P.1] 171))
  have B5:=Below.more b4 bn
  have HBX5:=hid' (HBX3.out.below B5)
  have HU5:=hid' (HU3.out.below B5)
  have HM5:=hid' (HM3.out.below B5)
  have HK5:=hid' (show(kb3=kb∨w.heap.size≤kb3)∧KpG mb kb ub w _ from⟨HK3.out.1,HK3.out.2.trans (kb':=kb3) (KpG.of B5 (Nat.le_of_lt HM3.out.lt)) HK3.out.1⟩)
  clear b4 bn B5 e0 c0 c3
  go_upto_region 21 with(fail)
  obtain⟨vb,hvb⟩:∃ vb,Hid (w4.heap.size=vb):=⟨_,hid' rfl⟩
  simp only[hvb.out] at HN ⊢
  generalize World.alloc _ _=w5 at *
  have e0:=zaa (HBX5.out.at' _ (.head _)) 0 _ rfl
  have m3:=zaa HM5.out.box 3 _ rfl
  have v0:=zaa HN.out 0 _ rfl
  have v1:=zaa HN.out 1 _ rfl
  have v2:=zaa HN.out 2 _ rfl
  have v3:=zaa HN.out 3 _ rfl
  have v4:=zaa HN.out 4 _ rfl
  simp only at e0
  have HE:=hid' (show obs sh (d+1) (T.mk op n s ks) m u=if sh=true then zak sh ⟨po,0,txt0,O.1,P.1⟩ P.2.1 P.2.2 else(O.1,(P.2.1.lay ⟨po,O.1,O.1,P.1,0,txt0,0⟩).free sh (m.next+1),P.2.2) by
   rw[zfs (t:=.mk op n s ks) HOP.out.2]
   rw[zdp (t:=.mk op n s ks) (show 1<ks.length by rw[HLN.out]; decide) (show(T.mk op n s ks).kid 0=a by rw[HKS.out]; rfl) hO.out (show(T.mk op n s ks).kid 1=b by rw[HKS.out]; rfl) hP.out]
   show(if sh=true then zak sh ⟨zah op,_,_,_,_⟩ _ _ else(_,(Mk.lay _ ⟨zah op,_,_,_,_,_,_⟩).free sh _,_))=_
   rw[hpo.out.1])
  cases sh with
  |true=>
   have HRK:=hid' (zgl mb kb3 ub true P.2.1 P.2.2 vw3 vi3 vj3 ⟨po,0,txt0,O.1,P.1⟩ w5 HM5.out HU5.out HVO.out (fun e=>by have:=hpo.out; have e':po=2:=e; omega) HBND.out.1 HBND.out.2.1 HBND.out.2.2)
   rw[hup.out] at HRK
   unfold txt0 at HRK
   go_wp2_with fail
   refine HRK.out.mono ?_
   rintro e w6 ⟨rfl,hl6,hu6⟩
   have HF6:=hid' (And.intro (KpG.then HK5.out.2 HK5.out.1 hl6) hu6)
   clear hl6 hu6
   go_wp2_with fail
   go_ret
   rw[HE.out]
   exact⟨rfl,HF6.out.1,HF6.out.2⟩
  |false=>
   have HLY:=hid' (zdc mb kb3 false P.2.1 vw3 vi3 vj3 ⟨po,O.1,O.1,P.1,0,txt0,0⟩ w5 HM5.out (by have:=HBND.out.1; omega))
   unfold txt0 at HLY
   go_wp2_with fail
   refine HLY.out.mono ?_
   rintro e w6 ⟨rfl,hl6⟩
   have HBX6:=hid' (HBX5.out.kp hl6.kp (u:=[]) zag)
   have HU6:=hid' (HU5.out.kp hl6.kp)
   obtain⟨vw6,vi6,vj6,kb6,M6,K6⟩:=KpG.next HK5.out hl6.wk
   have HK6:=hid' K6
   have q0:=HBX6.out.at' _ (.head _)
   have q1:=HBX6.out.at' _ (.tail _ (.head _))
   simp only at q0 q1
   have HKE:=hid' (zit mb kb6 false _ vw6 vi6 vj6 w6 B (B+1+1) O.1 m.next M6 (by have:=HSZ.out; omega) q0 q1)
   clear hl6 M6 K6 q0 q1 e0 m3 v0 v1 v2 v3 v4
   go_wp2_with fail
   refine HKE.out.mono ?_
   rintro e w7 ⟨rfl,hl7⟩
   have HF7:=hid' (And.intro (KpG.then HK6.out.2 HK6.out.1 hl7.wk) (HU6.out.kp hl7.kp))
   clear hl7
   go_wp2_with fail
   go_ret
   rw[HE.out]
   exact⟨rfl,HF7.out.1,HF7.out.2⟩
theorem zju (sh:Bool):∀ d:Nat,zif sh d
 |0=>fun t m u k mb kb ub vw vi vj v w ht hd=>(by have:=zfc t; omega)
 |d+1=>qcq (zju sh d)
end Gf
end
section
open Go.RowKit
open Rw
set_option maxRecDepth 100000
attribute [local go_sem] zbj
namespace Gf
open Co Dn
def znd (sh:Bool)(d:Nat):Prop:=∀(t:T) (m:Mk) (k mb kb:Nat) (vw vi vj v:Value) (w:World),t.letter=99→t.depth≤d→CoreAt mb w t v→MkAt mb sh m vw vi vj kb w→Fit k m→k+8 * t.size≤700000 →
 Calls Tryz.prog 50 #[.pointer (some ⟨mb,0,none⟩),v] w (fun e w'=>(∃ r,e=.returned r)∧Lays mb kb none sh (con sh d t m) w w')
set_option maxHeartbeats 4000000 in
theorem zvg {sh:Bool}{d:Nat}(HO:znd sh d)(t a:T)(m:Mk)(k mb kb:Nat)(vw vi vj:Value)(w:World)(b0 b1:Nat)(cs:Array Value)(hat:t.ks[1]? = some a)(ha:a.letter=99)(hd:a.depth≤d)(hv:CoreAt mb w t (.agg cs))(hm:MkAt mb sh m vw vi vj kb w)
  (hf:Fit k m) (hk:k+8 * a.size≤700000) (hbx:Bx mb [(b0,#[.pointer (some ⟨mb,0,none⟩)],62),(b1,cs,24)] w):
  Calls Tryz.prog 148 #[.pointer (some ⟨b0,0,none⟩),.pointer (some ⟨b1,0,none⟩)] w (Does mb kb none sh (con sh d a m) [] w):=by
 obtain⟨q,c,hve,hcc, -, -, -,hkr⟩:=hv.open
 simp only[Value.agg.injEq] at hve
 subst hve
 obtain⟨b,off,kop,kn,kst,pk,kl,ck,rfl,hlb,hvk,r0,r1,r2,r3⟩:=zbq hkr hat
 have HI:=hid' (HO a m k mb kb vw vi vj _ w.drew ha hd (hvk.kept ((Below.refl mb w).drew) (Nat.le_refl _)) hm.drew hf hk)
 have HKD:=hid' (hm.kd (ub:=none))
 have e0:=zaa (hbx.at' _ (.head _)) 0 _ rfl
 have e1:=zaa (hbx.at' _ (.tail _ (.head _))) 3 _ rfl
 simp only at e0 e1
 have j2:(1:Int)<(t.ks.length:Int):=by
  have:=(List.getElem?_eq_some_iff.1 hat).1
  omega
 obtain⟨ln,hln⟩:∃ x,Hid (t.ks.length=x):=⟨_,hid' rfl⟩
 rw[hln.out] at e1 j2
 simp only[Nat.one_mul,Nat.reduceMul] at r0 r1 r2 r3
 obtain⟨O,hO⟩:∃ O,Hid (con sh d a m=O):=⟨_,hid' rfl⟩
 rw[hO.out] at HI ⊢
 clear hbx hv hm hk hf ha hd HO hkr hat hvk hcc
 go_enter Tryz.func148,Tryz.ntmps148
 go_still_tail 5,(by kernel_rfl)
 change wpList _ _ _ _ _ w.drew
 go_wp2_with fail
 refine HI.out.mono ?_
 rintro e w2 ⟨⟨r,rfl⟩,hl2⟩
 have HF:=hid' hl2
 clear hl2
 go_wp2_with fail
 refine bodyPost_end (results_none rfl _ _ _) rfl ?_
 exact⟨⟨_,rfl⟩,KpG.then HKD.out (.inl rfl) HF.out,zag⟩
set_option maxHeartbeats 4000000 in
theorem zvf {sh:Bool}{d:Nat}(HO:znd sh d)(t a:T)(m:Mk)(k mb kb:Nat)(vw vi vj:Value)(w:World)(b0 b1:Nat)(cs:Array Value)(hat:t.ks[2]? = some a)(ha:a.letter=99)(hd:a.depth≤d)(hv:CoreAt mb w t (.agg cs))(hm:MkAt mb sh m vw vi vj kb w)
  (hf:Fit k m) (hk:k+8 * a.size≤700000) (hbx:Bx mb [(b0,#[.pointer (some ⟨mb,0,none⟩)],62),(b1,cs,24)] w):
  Calls Tryz.prog 149 #[.pointer (some ⟨b0,0,none⟩),.pointer (some ⟨b1,0,none⟩)] w (Does mb kb none sh (con sh d a m) [] w):=by
 obtain⟨q,c,hve,hcc, -, -, -,hkr⟩:=hv.open
 simp only[Value.agg.injEq] at hve
 subst hve
 obtain⟨b,off,kop,kn,kst,pk,kl,ck,rfl,hlb,hvk,r0,r1,r2,r3⟩:=zbq hkr hat
 have HI:=hid' (HO a m k mb kb vw vi vj _ w.drew ha hd (hvk.kept ((Below.refl mb w).drew) (Nat.le_refl _)) hm.drew hf hk)
 have HKD:=hid' (hm.kd (ub:=none))
 have e0:=zaa (hbx.at' _ (.head _)) 0 _ rfl
 have e1:=zaa (hbx.at' _ (.tail _ (.head _))) 3 _ rfl
 simp only at e0 e1
 have j2:(2:Int)<(t.ks.length:Int):=by
  have:=(List.getElem?_eq_some_iff.1 hat).1
  omega
 obtain⟨ln,hln⟩:∃ x,Hid (t.ks.length=x):=⟨_,hid' rfl⟩
 rw[hln.out] at e1 j2
 simp only[Nat.one_mul,Nat.reduceMul] at r0 r1 r2 r3
 obtain⟨O,hO⟩:∃ O,Hid (con sh d a m=O):=⟨_,hid' rfl⟩
 rw[hO.out] at HI ⊢
 clear hbx hv hm hk hf ha hd HO hkr hat hvk hcc
 go_enter Tryz.func149,Tryz.ntmps149
 go_still_tail 5,(by kernel_rfl)
 change wpList _ _ _ _ _ w.drew
 go_wp2_with fail
 refine HI.out.mono ?_
 rintro e w2 ⟨⟨r,rfl⟩,hl2⟩
 have HF:=hid' hl2
 clear hl2
 go_wp2_with fail
 refine bodyPost_end (results_none rfl _ _ _) rfl ?_
 exact⟨⟨_,rfl⟩,KpG.then HKD.out (.inl rfl) HF.out,zag⟩
set_option maxHeartbeats 8000000 in
theorem zpe {sh:Bool}{d:Nat}(HO:znd sh d)(t o a b:T)(r:Int)(m:Mk)(k mb kb:Nat)(vw vi vj v:Value)(w:World)(hks:t.ks=[o,a,b])(ha:a.letter=99)(hb:b.letter=99)(hda:a.depth≤d)(hdb:b.depth≤d)(hv:CoreAt mb w t v)(hm:MkAt mb sh m vw vi vj kb w)
  (hf:Fit k m) (hk:k+2+8 * a.size+8 * b.size≤700000):
  Calls Tryz.prog 105 #[.pointer (some ⟨mb,0,none⟩),.int .i64 r,v] w (fun e w'=>(∃ r,e=.returned r)∧Lays mb kb none sh (either (con sh d) r t m) w w'):=by
 have hv0:=hv
 obtain⟨q,c,rfl, -, -, -, -, -⟩:=hv.open
 obtain⟨op,n,s,ks⟩:=t
 have hk1:(T.mk op n s ks).ks[1]? = some a:=by rw[hks]; rfl
 have hk2:(T.mk op n s ks).ks[2]? = some b:=by rw[hks]; rfl
 have he1:(T.mk op n s ks).kid 1=a:=ztd hk1
 have he2:(T.mk op n s ks).kid 2=b:=ztd hk2
 simp only[T.op,T.n,T.s,T.ks]
 have B1:=(Below.refl w.heap.size w).alloc (Nat.le_refl _) (.cells #[.pointer (some ⟨mb,0,none⟩)] 62)
 have y1:=heap_alloc_new w (.cells #[.pointer (some ⟨mb,0,none⟩)] 62)
 have B2:=(Below.refl (w.heap.size+1) (w.alloc (.cells #[.pointer (some ⟨mb,0,none⟩)] 62))).alloc (by simp) (.cells #[.int .i64 op,.int .i64 n,.string s,.slice q ks.length c] 24)
 have y2:=heap_alloc_new (w.alloc (.cells #[.pointer (some ⟨mb,0,none⟩)] 62)) (.cells #[.int .i64 op,.int .i64 n,.string s,.slice q ks.length c] 24)
 simp only[World.size_alloc] at y2
 have z1:=(B2.block _ (by omega)).trans y1
 have BA:=B1.trans (B2.mono (by omega))
 have HBX5:=hid' (((Bx.nil mb _).cons y2 (by have:=hm.lt; omega) rfl).cons z1 hm.lt rfl)
 have HM5:=hid' (hm.below BA)
 have HK5:=hid' (show(kb=kb∨w.heap.size≤kb)∧KpG mb kb none w _ from⟨.inl rfl,KpG.of (mb:=mb) (kb:=kb) (ub:=none) BA (Nat.le_of_lt hm.lt)⟩)
 have HCA:=hid' (fun (W:World) (b:Below mb w W)=>(hv0.kept b (Nat.le_refl _)))
 have HSZ:=hid' hk
 have HLT:=hid' (And.intro ha (And.intro hb (And.intro hda hdb)))
 have HKK:=hid' (And.intro hk1 hk2)
 have hfl:=hf.len
 have f1:=hf.lay (ix 19 0 r 0)
 have fc:=zav sh d a (m.lay (ix 19 0 r 0)) _ ha f1
 have hpc:=(zoe sh d a (m.lay (ix 19 0 r 0)))
 rw[zae] at hpc
 obtain⟨C,hC⟩:∃ C,Hid (con sh d a (m.lay (ix 19 0 r 0))=C):=⟨_,hid' rfl⟩
 rw[hC.out] at fc hpc
 have f2:=((fc.back f1 (by omega)).lay (ix 20 0 0 0)).here m.ins.length
 have fd:=zav sh d b (((C.back (m.lay (ix 19 0 r 0)).known).lay (ix 20 0 0 0)).here m.ins.length) _ hb f2
 have hpd:=(zoe sh d b (((C.back (m.lay (ix 19 0 r 0)).known).lay (ix 20 0 0 0)).here m.ins.length))
 rw[zaf,zae,zai] at hpd
 obtain⟨F,hF⟩:∃ F,Hid (con sh d b (((C.back (m.lay (ix 19 0 r 0)).known).lay (ix 20 0 0 0)).here m.ins.length)=F):=⟨_,hid' rfl⟩
 rw[hF.out] at fd hpd
 have HE:=hid' (show either (con sh d) r (T.mk op n s ks) m=(F.back (((C.back (m.lay (ix 19 0 r 0)).known).lay (ix 20 0 0 0)).here m.ins.length).known).here (C.back (m.lay (ix 19 0 r 0)).known).ins.length by
  unfold either
  simp only[he1,he2,hC.out,hF.out])
 have hcl:=fc.len
 have hdl:=fd.len
 have HLN:=hid' (show m.ins.length≤700000∧m.ins.length<(C.back (m.lay (ix 19 0 r 0)).known).ins.length∧(C.back (m.lay (ix 19 0 r 0)).known).ins.length≤800000∧(C.back (m.lay (ix 19 0 r 0)).known).ins.length<(F.back (((C.back (m.lay (ix 19 0 r 0)).known).lay (ix 20 0 0 0)).here m.ins.length).known).ins.length∧(F.back (((C.back (m.lay (ix 19 0 r 0)).known).lay (ix 20 0 0 0)).here m.ins.length).known).ins.length≤800000 by rw[zai,zai]; omega)
 have HF1:=hid' f1
 have HF2:=hid' f2
 have HP:=hid' (And.intro hpc.1 hpd.1)
 obtain⟨kb5,hkb⟩:∃ kb5,Hid (kb=kb5):=⟨_,hid' rfl⟩
 have vw5:=vw
 clear B1 y1 B2 y2 z1 BA hm hv hv0 hks ha hb hda hdb hf hk hk1 hk2 he1 he2 hfl f1 fc hpc f2 fd hpd hcl hdl
 clear vw5 hkb kb5
 go_enter Tryz.func105,Tryz.ntmps105
 go_upto_region 1 with(fail)
 obtain⟨B,hB⟩:∃ B,Hid (w.heap.size=B):=⟨_,hid' rfl⟩
 simp only[hB.out] at HBX5 ⊢
 generalize World.alloc _ _=w5 at *
 have e0:=zaa (HBX5.out.at' _ (.head _)) 0 _ rfl
 simp only at e0
 have HJP:=hid' (zcp mb kb sh (m) vw vi vj (ix 19 0 r 0) w5 HM5.out (by have:=HLN.out; omega))
 unfold ix txt0 at HJP
 go_wp2_with fail
 refine HJP.out.mono ?_
 rintro e w6 ⟨f6,rfl,⟨ja1,ja2,rfl,ja3⟩,hl6⟩
 have HBja:=hid' (show JumpFn mb w6 _ _ from⟨ja1,ja2,rfl,ja3⟩)
 have HBX6:=hid' (HBX5.out.kp hl6.kp (u:=[]) zag)
 obtain⟨vw6,vi6,vj6,kb6,m6,hk6⟩:=KpG.next ⟨.inl rfl,HK5.out.2⟩ hl6
 have HM6:=hid' m6
 have HK6:=hid' hk6
 clear hl6 m6 hk6 HM5 HK5 HBX5 HJP e0
 have e0:=zaa (HBX6.out.at' _ (.head _)) 0 _ rfl
 simp only at e0
 have HBR:=hid' (zfp mb kb6 none sh (m.lay (ix 19 0 r 0)) (C) [] vw6 vi6 vj6 148 #[.pointer (some ⟨B,0,none⟩),.pointer (some ⟨B+1,0,none⟩)] w6 HM6.out (fun w=>by kernel_rfl) (HP.out.1)
  (fun W bw=>by rw[←hC.out]; exact zvg HO (T.mk op n s ks) a (m.lay (ix 19 0 r 0)) _ mb kb6 vw6 vi6 vj6 W B (B+1) #[.int .i64 op,.int .i64 n,.string s,.slice q ks.length c] HKK.out.1 HLT.out.1 HLT.out.2.2.1 (HCA.out W (HK6.out.2.bel.trans (bw.mono (Nat.le_of_lt HM6.out.lt)))) (HM6.out.below bw) HF1.out (by have:=HSZ.out; omega) (HBX6.out.below bw)))
 go_wp2_with fail
 refine HBR.out.mono ?_
 rintro e w7 ⟨⟨r7,rfl⟩,hl7,hu7⟩
 have HBX7:=hid' (HBX6.out.kp hl7.kp (u:=[]) zag)
 obtain⟨vw7,vi7,vj7,kb7,m7,hk7⟩:=KpG.next HK6.out hl7
 have HM7:=hid' m7
 have HK7:=hid' hk7
 have HBja:=hid' (HBja.out.kp hl7.kp (fun u e=>by cases e))
 clear hl7 m7 hk7 hu7 HM6 HK6 HBX6 HBR e0
 have e0:=zaa (HBX7.out.at' _ (.head _)) 0 _ rfl
 simp only at e0
 have HJP:=hid' (zcp mb kb7 sh (C.back (m.lay (ix 19 0 r 0)).known) vw7 vi7 vj7 (ix 20 0 0 0) w7 HM7.out (by have:=HLN.out; omega))
 unfold ix txt0 at HJP
 go_wp2_with fail
 refine HJP.out.mono ?_
 rintro e w8 ⟨f8,rfl,⟨jb1,jb2,rfl,jb3⟩,hl8⟩
 have HBjb:=hid' (show JumpFn mb w8 _ _ from⟨jb1,jb2,rfl,jb3⟩)
 have HBX8:=hid' (HBX7.out.kp hl8.kp (u:=[]) zag)
 obtain⟨vw8,vi8,vj8,kb8,m8,hk8⟩:=KpG.next HK7.out hl8
 have HM8:=hid' m8
 have HK8:=hid' hk8
 have HBja:=hid' (HBja.out.kp hl8.kp (fun u e=>by cases e))
 clear hl8 m8 hk8 HM7 HK7 HBX7 HJP e0
 have e0:=zaa (HBX8.out.at' _ (.head _)) 0 _ rfl
 simp only at e0
 obtain⟨x1,x2,hxe, -, -,hx1,hx2⟩:=HBja.out
 simp only[Value.func.injEq,Array.mk.injEq,List.cons.injEq,Value.pointer.injEq,Option.some.injEq,Addr.mk.injEq,and_true,true_and] at hxe
 obtain⟨rfl,rfl⟩:=hxe
 have HHR:=hid' (zdw mb kb8 sh ((C.back (m.lay (ix 19 0 r 0)).known).lay (ix 20 0 0 0)) vw8 vi8 vj8 (m.ins.length) ja1 ja2 w8 HM8.out (by rw[zae]; have:=HLN.out; omega) (by rw[zae]; have:=HLN.out; omega) hx1 hx2)
 clear hx1 hx2
 go_wp2_with fail
 refine HHR.out.mono ?_
 rintro e w9 ⟨⟨r9,rfl⟩,hl9⟩
 have HBX9:=hid' (HBX8.out.kp hl9.kp (u:=[]) zag)
 obtain⟨vw9,vi9,vj9,kb9,m9,hk9⟩:=KpG.next HK8.out hl9
 have HM9:=hid' m9
 have HK9:=hid' hk9
 have HBjb:=hid' (HBjb.out.kp hl9.kp (fun u e=>by cases e))
 clear hl9 m9 hk9 HM8 HK8 HBX8 HHR e0
 have e0:=zaa (HBX9.out.at' _ (.head _)) 0 _ rfl
 simp only at e0
 have HBR:=hid' (zfp mb kb9 none sh (((C.back (m.lay (ix 19 0 r 0)).known).lay (ix 20 0 0 0)).here m.ins.length) (F) [] vw9 vi9 vj9 149 #[.pointer (some ⟨B,0,none⟩),.pointer (some ⟨B+1,0,none⟩)] w9 HM9.out (fun w=>by kernel_rfl) (HP.out.2)
  (fun W bw=>by rw[←hF.out]; exact zvf HO (T.mk op n s ks) b (((C.back (m.lay (ix 19 0 r 0)).known).lay (ix 20 0 0 0)).here m.ins.length) _ mb kb9 vw9 vi9 vj9 W B (B+1) #[.int .i64 op,.int .i64 n,.string s,.slice q ks.length c] HKK.out.2 HLT.out.2.1 HLT.out.2.2.2 (HCA.out W (HK9.out.2.bel.trans (bw.mono (Nat.le_of_lt HM9.out.lt)))) (HM9.out.below bw) HF2.out (by have:=HSZ.out; omega) (HBX9.out.below bw)))
 go_wp2_with fail
 refine HBR.out.mono ?_
 rintro e w10 ⟨⟨r10,rfl⟩,hl10,hu10⟩
 have HBX10:=hid' (HBX9.out.kp hl10.kp (u:=[]) zag)
 obtain⟨vw10,vi10,vj10,kb10,m10,hk10⟩:=KpG.next HK9.out hl10
 have HM10:=hid' m10
 have HK10:=hid' hk10
 have HBjb:=hid' (HBjb.out.kp hl10.kp (fun u e=>by cases e))
 clear hl10 m10 hk10 hu10 HM9 HK9 HBX9 HBR e0
 have e0:=zaa (HBX10.out.at' _ (.head _)) 0 _ rfl
 simp only at e0
 obtain⟨x1,x2,hxe, -, -,hx1,hx2⟩:=HBjb.out
 simp only[Value.func.injEq,Array.mk.injEq,List.cons.injEq,Value.pointer.injEq,Option.some.injEq,Addr.mk.injEq,and_true,true_and] at hxe
 obtain⟨rfl,rfl⟩:=hxe
 have HHR:=hid' (zdw mb kb10 sh (F.back (((C.back (m.lay (ix 19 0 r 0)).known).lay (ix 20 0 0 0)).here m.ins.length).known) vw10 vi10 vj10 ((C.back (m.lay (ix 19 0 r 0)).known).ins.length) jb1 jb2 w10 HM10.out (by have:=HLN.out; omega) (by have:=HLN.out; omega) hx1 hx2)
 clear hx1 hx2
 go_wp2_with fail
 refine HHR.out.mono ?_
 rintro e w11 ⟨⟨r11,rfl⟩,hl11⟩
 have HBX11:=hid' (HBX10.out.kp hl11.kp (u:=[]) zag)
 obtain⟨vw11,vi11,vj11,kb11,m11,hk11⟩:=KpG.next HK10.out hl11
 have HM11:=hid' m11
 have HK11:=hid' hk11
 clear hl11 m11 hk11 HM10 HK10 HBX10 HHR e0
 have e0:=zaa (HBX11.out.at' _ (.head _)) 0 _ rfl
 simp only at e0
 go_wp2_with fail
 refine bodyPost_end (results_none rfl _ _ _) rfl ?_
 rw[HE.out]
 exact⟨⟨_,rfl⟩,⟨⟨_,_,_,_,HM11.out,HK11.out.1⟩,HK11.out.2⟩⟩
end Gf
end
section
open Go.RowKit
open Rw
set_option maxRecDepth 100000
attribute [local go_sem] zbj
namespace Gf
open Co Dn
theorem zcn {B:Nat}{W:World}{t:T}{cb off i:Nat}{k:T}(h:∀ i k,t.ks[i]? = some k→∃ vk,RowAt B W (some ⟨cb,off,none⟩) i vk∧CoreAt B W k vk)(hk:t.ks[i]? = some k):
  ∃ kop kn kst pk kl ck,CoreAt B W k (.agg #[.int .i64 kop,.int .i64 kn,.string kst,.slice pk kl ck]) ∧
   W.cell? ⟨cb,off+i * 4,none⟩=some (.int .i64 kop)∧W.cell? ⟨cb,off+i * 4+1,none⟩=some (.int .i64 kn)∧W.cell? ⟨cb,off+i * 4+2,none⟩=some (.string kst)∧W.cell? ⟨cb,off+i * 4+3,none⟩=some (.slice pk kl ck):=by
 obtain⟨b2,off2,kop,kn,kst,pk,kl,ck,e,hl,h0,h1,h2,h3,h4⟩:=zbq h hk
 simp only[Option.some.injEq,Addr.mk.injEq,and_true] at e
 obtain⟨rfl,rfl⟩:=e
 exact⟨kop,kn,kst,pk,kl,ck,h0,h1,h2,h3,h4⟩
theorem zls {W:World}{base:Nat}{e:TypeId}{s n:Nat}{v:Value}{xs:List Value}(h:zcr W base e s v n xs):∃ p c,v=.slice p n c:=by
 obtain⟨h0,⟨rfl,hz⟩|⟨g,o,cap,cur,rfl,_⟩⟩:=h
 ·exact⟨none,0,by rw[hz]⟩
 ·exact⟨_,_,rfl⟩
theorem zsc {P:Program}{ops:Array Oper}{Fact:World→Prop}{st:Nat}{Q:Act→World→Prop}{k:Nat}{bs:List Bool}{o:Oper}{rest:List Oper}{a:Act}{w:World}(s x:Operand)(t:TypeId)(hw:Region.wanted o (yielded ops a.tmps)=true)
  (ho:o.op=.call { callee:=.builtin .append,args:=#[s,x],argTypes:=#[t,t] })
  (base:Nat) (e:TypeId) (i:TypeInfo) (z:Value) (size bytes:Nat) (ht:P.underlying t=some (.slice e)) (hi:P.info? e=some i) (hz:i.zero=some z)
  (hsize:i.size=size) (hby:i.bytes=bytes) (hzs:z.cells.size=size) (hsz:0<size)
  (v:Value) (n:Nat) (xs:List Value) (hs:a.eval s=v) (hown:zcr w base e size v n xs)
  (ad:Addr) (m c:Nat) (news:List Value) (hx:a.eval x=.slice (some ad) m c) (hl:news.length=m * size) (hnews:∀ j u,news[j]? = some u→w.cell? (ad.add j)=some u) (h1:∀ u∈news,u.oneCell'=true)
  (h63:n+m≤maxLen) (hbytes:(n+m) * bytes≤140737488355328) (hbase:base≤w.heap.size)
  (h:∀ v' w',zcr w' base e size v' (n+m) (xs++news)→w.grownBy w' v.ownBlock→(∀ k,v'.ownBlock=some k→v.ownBlock=some k∨w.heap.size≤k)→(st≤k∨Fact w')∧zcq P ops Fact st Q (k+1) bs rest (a.put o.dst v') w'):zcq P ops Fact st Q k (true::bs) (o::rest) a w:=by
 obtain⟨v',w',hr,h2,h3,h4⟩:=zoq (P:=P) w base t o.type e i z size bytes ht hi hz hsize hby hzs hsz v n xs hown ad m c news hl hnews h1 h63 hbytes hbase
 obtain⟨h6,h7⟩:=h v' w' h2 h3 h4
 refine zbg hw ?_ h6 h7
 unfold execOp
 simp only[ho,resolve,invoke,builtin,Sem.run_bind,Sem.run_pure,Result.andThen_ok,List.map_toArray,List.map_cons,List.map_nil,hs,hx,hr]
theorem qas {w:World}{ops:Array Oper}{rest:List Oper}{o:Oper}{a:Act}{Q:Exit→Act→World→Prop}(hgd:o.guard=none)(s x:Operand)
  (ho:o.op=.call { callee:=.builtin .append,args:=#[s,x],argTypes:=#[26,26] })
  (base:Nat) (v:Value) (L:List Gen.Wt) (hs:a.eval s=v) (hown:zfv base w v L) (y:Gen.Wt) (hx:a.eval x=.slice (some ⟨w.heap.size,0,none⟩) 1 1)
  (hbound:L.length+1≤1000000) (hbase:base≤w.heap.size)
  (h:∀ g cap w',zfv base w' (.slice (some ⟨g,0,none⟩) (L.length+1) cap) (L++[y])→w.grownBy w' v.ownBlock→(v.ownBlock=some g∨w.heap.size≤g)→wpList Tryz.prog ops Q rest (a.put o.dst (.slice (some ⟨g,0,none⟩) (L.length+1) cap)) w'):
  wpList Tryz.prog ops Q (o::rest) a (w.alloc (.cells #[.int .i64 y.entry,.int .i64 y.day,.string y.label,.int .i64 y.first,.int .i64 y.second] 76)):=by
 obtain⟨i,hi,hz,hsz,hby⟩:=info_split zzi
 refine wpList_append_lies _ hgd s x 26 ho base 76 i _ 5 48 Tryz.underlying26 hi hz hsz hby rfl (by decide) v L.length _ hs (World.ownsRow.alloc hown _) ⟨w.heap.size,0,none⟩ 1 1 (wt5 y) hx rfl
  (fun j u hj=>?_) (fun u hu=>?_) (by decide) (by unfold maxLen; omega) (by omega) (by simp; omega) _ rfl (fun g cap w' h1 h2 h3 _=>h g cap w' ?_ (grown_trans (grown_of_below ((Below.refl _ _).alloc (Nat.le_refl _) _) _) h2) (h3.imp id fun e=>by rw[e]; simp))
 ·rw[add_gen,World.cell?_alloc_new,Nat.zero_add,←hj]
  simp[wt5]
 ·simp only[wt5,List.mem_cons,List.not_mem_nil,or_false] at hu
  rcases hu with rfl|rfl|rfl|rfl|rfl<;>rfl
 ·show World.ownsRow w' base _ 5 _ (L++[y]).length ((L++[y]).flatMap wt5)
  rw[List.length_append,List.flatMap_append]
  simpa using h1
set_option maxHeartbeats 8000000 in
theorem qdn {sh:Bool}{d:Nat}(HO:znd sh d):znd sh (d+1):=by
 intro t m k mb kb vw vi vj v w hx hd hv hm hf hk
 have hv0:=hv
 have hxk:t.op=26∨t.op=28→0<t.ks.length:=by
  obtain⟨op,n,s,ks⟩:=t
  rcases zbm hx with(⟨rfl,rfl⟩|⟨rfl,rfl⟩)|⟨h1,a,rfl,ha⟩|⟨rfl,o,a,rfl,ho,ha⟩|⟨h1,a,b,rfl,ha,hb⟩|⟨rfl,o,a,b,rfl,ho,ha,hb⟩|⟨rfl,o,a,rfl,ho,ha⟩
  all_goals simp only[T.op,T.ks,List.length_cons,List.length_nil]
  all_goals omega
 have HWT:=hid' (fun (W:World) (b:Below w.heap.size w W)=>zqo t mb v W (hv0.kept (b.mono (Nat.le_of_lt hm.lt)) (Nat.le_refl _)) (Nat.le_trans (Nat.le_of_lt hm.lt) b.size) hxk)
 obtain⟨q,c,rfl,hcc,hio,hin,hss,hkr⟩:=hv.open
 obtain⟨op,n,s,ks⟩:=t
 have hda:∀ x∈ks,x.depth≤d:=fun x hx=>by
  have:=zcy hx
  rw[T.depth] at hd
  omega
 have HKR:=hid' hkr
 simp only[T.op,T.n,T.s,T.ks]
 simp only[T.op,T.n,T.s,T.ks] at HWT
 have BA:=(Below.refl w.heap.size w).alloc (Nat.le_refl _) (.cells #[.int .i64 op,.int .i64 n,.string s,.slice q ks.length c] 24)
 have y1:=heap_alloc_new w (.cells #[.int .i64 op,.int .i64 n,.string s,.slice q ks.length c] 24)
 have HBX:=hid' ((Bx.nil mb _).cons y1 hm.lt rfl)
 have HM:=hid' (hm.below BA)
 have HB:=hid' BA
 have HKP:=hid' (KpG.of (mb:=mb) (kb:=kb) (ub:=none) BA (Nat.le_of_lt hm.lt))
 have HCA:=hid' (fun (W:World) (b:Below mb w W)=>(hv0.kept b (Nat.le_refl _)))
 have HDA:=hid' hda
 have HSZ:=hid' (And.intro hk (And.intro hf.len (And.intro hf.nx hf.pt)))
 have HF:=hid' hf
 have HX:=hid' hx
 have HMB:=hid' hm.lt
 obtain⟨wt,hwt⟩:∃ b,Hid (zax (T.mk op n s ks)=b):=⟨_,hid' rfl⟩
 rw[hwt.out] at HWT
 clear BA y1 hm hv hv0 hkr hda hk hf hcc hd hxk hio hin hss hx
 go_enter Tryz.func50,Tryz.ntmps50
 go_upto_region 1 with(fail)
 obtain⟨B,hB⟩:∃ B,Hid (w.heap.size=B):=⟨_,hid' rfl⟩
 simp only[hB.out] at HBX ⊢
 generalize World.alloc _ _=w1 at *
 have c0:=zaa (HBX.out.at' _ (.head _)) 0 _ rfl
 have c1:=zaa (HBX.out.at' _ (.head _)) 1 _ rfl
 have c2:=zaa (HBX.out.at' _ (.head _)) 2 _ rfl
 have c3:=zaa (HBX.out.at' _ (.head _)) 3 _ rfl
 simp only at c0 c1 c2 c3
 have HW1:=hid' (HWT.out w1 HB.out)
 go_wp2_with fail
 refine HW1.out.mono ?_
 rintro e w2 ⟨rfl,b2⟩
 have HBX2:=hid' (HBX.out.below b2)
 have HM2:=hid' (HM.out.below b2)
 have HK2:=hid' (show(kb=kb∨w.heap.size≤kb)∧KpG mb kb none w w2 from⟨.inl rfl,HKP.out.trans (kb':=kb) (KpG.of b2 (Nat.le_of_lt HM.out.lt)) (.inl rfl)⟩)
 clear b2 HBX HM HKP HW1 HWT HB c0 c1 c2 c3
 have c0:=zaa (HBX2.out.at' _ (.head _)) 0 _ rfl
 have c1:=zaa (HBX2.out.at' _ (.head _)) 1 _ rfl
 have c2:=zaa (HBX2.out.at' _ (.head _)) 2 _ rfl
 have c3:=zaa (HBX2.out.at' _ (.head _)) 3 _ rfl
 simp only at c0 c1 c2 c3
 cases wt with
 |true=>
  obtain⟨pw,cw,hvw⟩:=zay HM2.out.rw
  subst hvw
  have m1:=zaa HM2.out.box 1 _ rfl
  have hsz:=HSZ.out
  have HLY:=hid' (zdc mb kb sh m _ vi vj (ix 29 0 0 m.ws.length) w2 HM2.out (by omega))
  unfold ix txt0 at HLY
  go_wp2_with fail
  refine HLY.out.mono ?_
  rintro e w3 ⟨rfl,hl3⟩
  have HBX3:=hid' (HBX2.out.kp hl3.kp (u:=[]) zag)
  obtain⟨vw3,vi3,vj3,kb3,m3,hk3⟩:=KpG.next ⟨.inl rfl,HK2.out.2⟩ hl3
  have HM3:=hid' m3
  have HK3:=hid' hk3
  clear hl3 m3 hk3 HLY m1 hsz c0 c1 c2 c3
  obtain⟨pw,cw,hvw⟩:=zay HM3.out.rw
  subst hvw
  obtain⟨J,hj1,hj2,hj3⟩:=HM3.out.rj
  have hjl:J.length≤800000:=by
   have h1:=HSZ.out
   have h2:m.jobs.length=J.length:=by
    have h3:m.jobs=J.map (fun x=>(x.j,x.t)):=hj1
    rw[h3,List.length_map]
   have h4:∀ l:List (Nat × T),l.length≤pend l:=by
    intro l
    induction l with
    |nil=>exact Nat.le_refl _
    |cons x r ih=>have:=size_pos x.2; rw[pend,List.length_cons]; omega
   have:=h4 m.jobs
   omega
  go_upto_region 3 with(fail)
  have HB3:=hid' (HBX3.out.at' _ (.head _))
  have hF0:w3.drew.heap[mb]? = some (.cells #[.int .i64 (m.lay (ix 29 0 0 m.ws.length)).regs,.slice pw (m.lay (ix 29 0 0 m.ws.length)).ws.length cw,vi3,.bool sh,vj3,.int .i64 (m.lay (ix 29 0 0 m.ws.length)).next,.map (some kb3),.bool (m.lay (ix 29 0 0 m.ws.length)).over] 66 (0,0))∧w3.drew.heap[B]? = some (.cells #[.int .i64 op,.int .i64 n,.string s,.slice q ks.length c] 24 (0,0)):=⟨HM3.out.box,HB3.out⟩
  refine zbu (fun W=>W.heap[mb]? = some (.cells #[.int .i64 (m.lay (ix 29 0 0 m.ws.length)).regs,.slice pw (m.lay (ix 29 0 0 m.ws.length)).ws.length cw,vi3,.bool sh,vj3,.int .i64 (m.lay (ix 29 0 0 m.ws.length)).next,.map (some kb3),.bool (m.lay (ix 29 0 0 m.ws.length)).over] 66 (0,0))∧W.heap[B]? = some (.cells #[.int .i64 op,.int .i64 n,.string s,.slice q ks.length c] 24 (0,0))) 17 [false,false,false,false,false,false,false,false,false,false,false,false,false,true,true,true,true,true] (by kernel_rfl) (by kernel_rfl) (by kernel_rfl) hF0 ?_
  clear hF0
  iterate 13
   apply zbi
   ·rfl
   ·intro W hW
    have q0:=zaa hW.1 4 _ rfl
    have q1:=zaa hW.1 1 _ rfl
    have p0:=zaa hW.2 0 _ rfl
    have p1:=zaa hW.2 1 _ rfl
    have p2:=zaa hW.2 2 _ rfl
    have p3:=zaa hW.2 3 _ rfl
    first|(go_simp; done)|(go_simp; with_reducible rfl)
   simp only[Act.put,List.setIfInBounds_toArray,List.set_cons_zero,List.set_cons_succ]
  refine zbg (v:=.slice (some ⟨w3.drew.heap.size,0,none⟩) 1 1) (w':=w3.drew.alloc (.cells #[.int .i64 m.ws.length,.int .i64 op,.int .i64 n,.string s,.slice q ks.length c] 104)) ?_ ?_ ?_ ?_
  ·rfl
  ·first|(go_simp; done)|(go_simp; rfl)
  ·exact .inr ⟨zad ((Below.refl _ _).alloc (Nat.le_refl _) _) (show w3.drew.heap[mb]? = _ from HM3.out.box),zad ((Below.refl _ _).alloc (Nat.le_refl _) _) (show w3.drew.heap[B]? = _ from HB3.out)⟩
  simp only[Act.put,List.setIfInBounds_toArray,List.set_cons_zero,List.set_cons_succ]
  have hba:=(Below.refl w3.drew.heap.size w3.drew).alloc (Nat.le_refl _) (.cells #[.int .i64 m.ws.length,.int .i64 op,.int .i64 n,.string s,.slice q ks.length c] 104)
  have hnn:=heap_alloc_new w3.drew (.cells #[.int .i64 m.ws.length,.int .i64 op,.int .i64 n,.string s,.slice q ks.length c] 104)
  have HM4:=hid' (HM3.out.drew.below hba)
  have HB4:=hid' (zad hba (show w3.drew.heap[B]? = _ from HB3.out))
  have HK4:=hid' (show KpG mb kb none w _ from(HK3.out.2.trans HM3.out.kd HK3.out.1).trans (kb':=kb3) (KpG.of hba (Nat.le_of_lt HM3.out.lt)) HK3.out.1)
  have hj4:=zlr hj2 (grown_of_below ((Below.refl _ w3).drew.trans hba) none) (by cases vj3.ownBlock<;>simp)
  have hj5:∀ x∈J,CoreAt mb (w3.drew.alloc (.cells #[.int .i64 m.ws.length,.int .i64 op,.int .i64 n,.string s,.slice q ks.length c] 104)) x.t x.v:=fun x hx=>(hj3 x hx).kept (((Below.refl mb w3).drew).trans (hba.mono (Nat.le_of_lt HM3.out.lt))) (Nat.le_refl _)
  obtain⟨nb,hnb⟩:∃ b,w3.drew.heap.size=b:=⟨_,rfl⟩
  rw[hnb] at hnn ⊢
  clear hba hnb hj2 hj3
  generalize World.alloc w3.drew _=w4 at *
  obtain⟨ti,ti1,ti2,ti3,ti4⟩:=info_split zti
  refine zsc _ _ 63 rfl rfl (mb+1) 104 ti _ 5 64 Tryz.underlying63 ti1 ti2 ti3 ti4 rfl (by decide) vj3 _ _ rfl hj4 ⟨nb,0,none⟩ 1 1 [.int .i64 m.ws.length,.int .i64 op,.int .i64 n,.string s,.slice q ks.length c] rfl rfl
   (fun j u hj=>?_) (fun u hu=>?_) (by unfold maxLen; omega) (by omega) (by have:=HM4.out.lt; omega) (fun v' w5 hown hgr hnew=>?_)
  ·rw[add_gen,Nat.zero_add]
   unfold World.cell?
   simp only[hnn]
   simpa using hj
  ·simp only[List.mem_cons,List.not_mem_nil,or_false] at hu
   rcases hu with rfl|rfl|rfl|rfl|rfl<;>rfl
  obtain⟨pj,cj,hvj⟩:=zls hown
  subst hvj
  obtain⟨g1,g2,g3,g4,g5⟩:=MkAt.jbs HM4.out hgr
  have hb5:w5.heap[B]? = some (.cells #[.int .i64 op,.int .i64 n,.string s,.slice q ks.length c] 24 (0,0)):=g5.box (k:=B) (by have:=HMB.out; rw[hB.out] at this; omega) (fun u e=>by cases e) (by decide) (by decide) (by decide) HB4.out
  refine⟨.inr ⟨g1,hb5⟩,?_⟩
  simp only[Act.put,List.setIfInBounds_toArray,List.set_cons_zero,List.set_cons_succ]
  have hrow5:JbRow (mb+1) mb w5 (.slice pj (J.length+1) cj) (m.jobs++[(m.ws.length,T.mk op n s ks)]):=by
   refine⟨J++[⟨m.ws.length,T.mk op n s ks,q,c⟩],?_,?_,?_⟩
   ·rw[List.map_append,←hj1]; rfl
   ·rw[List.length_append,List.flatMap_append]
    simpa [jb5,T.op,T.n,T.s,T.ks] using hown
   ·intro x hx
    rcases List.mem_append.1 hx with hx|hx
    ·exact(hj5 x hx).kept g5.bel (Nat.le_refl _)
    ·rw[List.mem_singleton] at hx
     subst hx
     exact HCA.out w5 (HK4.out.bel.trans g5.bel)
  have HF6:=hid' (show MkAt mb sh { m.lay (ix 29 0 0 m.ws.length) with jobs:=m.jobs++[(m.ws.length,T.mk op n s ks)] } (.slice pw (m.lay (ix 29 0 0 m.ws.length)).ws.length cw) vi3 (.slice pj (J.length+1) cj) kb3 (w5.setCell ⟨mb,4,none⟩ (.slice pj (J.length+1) cj))∧KpG mb kb none w (w5.setCell ⟨mb,4,none⟩ (.slice pj (J.length+1) cj)) from
   ⟨MkAt.reset 4 (.slice pj (J.length+1) cj) g1 rfl g3 g2 hrow5 g4 HM3.out.kb,HK4.out.trans (MkAt.push HM4.out hgr hnew) HK3.out.1⟩)
  have f4:=frozen_of (o:=4) g1
  have k4:=zaa g1 4 _ rfl
  have G1:=hid' g1
  have HB5:=hid' hb5
  clear hown hgr hnew hj1 hj4 hj5 hnn g1 g2 g3 g4 g5 hrow5 ti1 ti2 ti3 ti4 hb5
  refine zbg (v:=.pointer (some ⟨mb,0,none⟩)) (w':=w5) ?_ ?_ ?_ ?_
  ·rfl
  ·go_simp
  ·exact .inr ⟨G1.out,HB5.out⟩
  simp only[Act.put,List.setIfInBounds_toArray,List.set_cons_zero,List.set_cons_succ]
  refine zbg (v:=.pointer (some ⟨mb,4,none⟩)) (w':=w5) ?_ ?_ ?_ ?_
  ·rfl
  ·go_simp
  ·exact .inr ⟨G1.out,HB5.out⟩
  simp only[Act.put,List.setIfInBounds_toArray,List.set_cons_zero,List.set_cons_succ]
  refine zdm (w':=w5.setCell ⟨mb,4,none⟩ (.slice pj (J.length+1) cj)) ?_ ?_ ?_ ?_
  ·rfl
  ·go_simp
  ·exact .inl (Nat.le_refl _)
  refine zcu ?_
  clear f4 k4 G1
  generalize World.setCell _ _ _=w6 at *
  have m1:=zaa HF6.out.1.box 1 _ rfl
  have hrw:=HF6.out.1.rw
  have hwl:m.ws.length+1≤1000000:=by have:=HSZ.out; omega
  have hbs:mb+1≤w6.heap.size:=HF6.out.1.lt
  go_wp2_with (first|(refine qas rfl _ _ (by rfl) (mb+1) (.slice pw m.ws.length cw) m.ws (by rfl) hrw ⟨0,0,⟨#[]⟩,0,0⟩ (by rfl) hwl hbs ?_; intro q7 c7 w7 h7 g7 hn7; refine zlc ?_)|fail)
  refine hid' ?_
  obtain⟨p1,p2,p3,p4,p5⟩:=HF6.out.1.wts h7 g7
  have HF8:=hid' (show MkAt mb sh (m.call (T.mk op n s ks)) (.slice (some ⟨q7,0,none⟩) (m.ws.length+1) c7) vi3 (.slice pj (J.length+1) cj) kb3 (w7.setCell ⟨mb,1,none⟩ (.slice (some ⟨q7,0,none⟩) (m.ws.length+1) c7))∧KpG mb kb none w (w7.setCell ⟨mb,1,none⟩ (.slice (some ⟨q7,0,none⟩) (m.ws.length+1) c7)) from
   ⟨MkAt.reset 1 _ p1 rfl h7 p2 p3 p4 HF6.out.1.kb,HF6.out.2.trans (MkAt.pushW HF6.out.1 h7 g7 (fun k hk=>hn7.imp (fun e=>e.trans hk) (fun e=>by cases hk; exact e))) HK3.out.1⟩)
  have k1:=zaa p1 1 _ rfl
  have f1:=frozen_of (o:=1) p1
  clear h7 g7 hn7 p1 p2 p3 p4 p5 m1
  go_wp2_with fail
  refine bodyPost_ret (results_none rfl _ _ _) rfl ?_
  rw[zhc hwt.out]
  exact⟨⟨_,rfl⟩,⟨⟨_,_,_,_,HF8.out.1,HK3.out.1⟩,HF8.out.2⟩⟩
 |false=>
 have m5:=zaa HM2.out.box 5 _ rfl
 obtain⟨nw1,nw2,nw3,nw4⟩:=zgr hwt.out
 have HNW:=hid' nw4
 clear nw4
 rcases zbm HX.out with(⟨rfl,hks⟩|⟨rfl,hks⟩)|⟨h1,a,hks,ha⟩|⟨rfl,o,a,hks,ho,ha⟩|⟨h1,a,b,hks,ha,hb⟩|⟨rfl,o,a,b,hks,ho,ha,hb⟩|⟨rfl,o,a,hks,ho,ha⟩
 ·have HKS:=hid' hks
  clear hks
  have HE:=hid' (zgz (sh:=sh) (d:=d) (m:=m) hwt.out rfl)
  go_upto_region 23 with(fail)
  clear m5 nw1 nw2 nw3
  have m3:=zaa HM2.out.box 3 _ rfl
  have HM:=hid' HM2.out
  have HKN:=hid' HK2.out
  cases sh with
  |true=>
   go_wp2_with fail
   refine bodyPost_end (results_none rfl _ _ _) rfl ?_
   rw[HE.out]
   exact⟨⟨_,rfl⟩,⟨⟨_,_,_,_,HM.out,.inl rfl⟩,HKN.out.2⟩⟩
  |false=>
   have m5:=zaa HM.out.box 5 _ rfl
   have f5:=frozen_of (o:=5) HM.out.box
   have HFI:=hid' (HM.out.parts (m':={ m with next:=m.next }) 5 (.int .i64 m.next) rfl rfl rfl rfl rfl rfl)
   go_wp2_with fail
   refine bodyPost_end (results_none rfl _ _ _) rfl ?_
   rw[HE.out]
   exact⟨⟨_,rfl⟩,⟨⟨_,_,_,_,HFI.out.1,.inl rfl⟩,HKN.out.2.trans HFI.out.2 (.inl rfl)⟩⟩
 ·have HKS:=hid' hks
  clear hks
  have HE:=hid' (zik (sh:=sh) (d:=d) (m:=m) hwt.out rfl)
  clear nw1 nw2 nw3
  have HLY:=hid' (zdc mb kb sh (m) vw vi vj ⟨27,0,0,0,0,s,0⟩ w2 HM2.out (by have:=HSZ.out; omega))
  try unfold ix at HLY
  try unfold txt0 at HLY
  go_wp2_with fail
  clear m5
  refine HLY.out.mono ?_
  rintro e w3 ⟨rfl,hl3⟩
  clear HLY
  have HBX3:=hid' (HBX2.out.kp hl3.kp (u:=[]) zag)
  obtain⟨vw3,vi3,vj3,kb3,m3,hk3⟩:=KpG.next ⟨.inl rfl,HK2.out.2⟩ hl3
  have HM3:=hid' m3
  have HK3:=hid' hk3
  clear hl3 m3 hk3 c0 c1 c2 c3
  have c0:=zaa (HBX3.out.at' _ (.head _)) 0 _ rfl
  have c1:=zaa (HBX3.out.at' _ (.head _)) 1 _ rfl
  have c2:=zaa (HBX3.out.at' _ (.head _)) 2 _ rfl
  have c3:=zaa (HBX3.out.at' _ (.head _)) 3 _ rfl
  simp only at c0 c1 c2 c3
  have m3:=zaa HM3.out.box 3 _ rfl
  have HM:=hid' HM3.out
  have HKN:=hid' HK3.out
  cases sh with
  |true=>
   go_wp2_with fail
   refine bodyPost_end (results_none rfl _ _ _) rfl ?_
   rw[HE.out]
   exact⟨⟨_,rfl⟩,⟨⟨_,_,_,_,HM.out,HKN.out.1⟩,HKN.out.2⟩⟩
  |false=>
   have m5:=zaa HM.out.box 5 _ rfl
   have f5:=frozen_of (o:=5) HM.out.box
   have HFI:=hid' (HM.out.parts (m':={ m.lay ⟨27,0,0,0,0,s,0⟩ with next:=m.next }) 5 (.int .i64 m.next) rfl rfl rfl rfl rfl rfl)
   go_wp2_with fail
   refine bodyPost_end (results_none rfl _ _ _) rfl ?_
   rw[HE.out]
   exact⟨⟨_,rfl⟩,⟨⟨_,_,_,_,HFI.out.1,HKN.out.1⟩,HKN.out.2.trans HFI.out.2 (HKN.out.1)⟩⟩
 ·rcases h1 with rfl|rfl
  rotate_left 1
  ·exact absurd rfl nw1
  have HKS:=hid' hks
  have HZZ:=hid' (show(T.mk 25 n s ks).size=1+(a.size) by rw[T.size,hks]; simp[sizes])
  have HKI0:=hid' (show(T.mk 25 n s ks).ks[0]? = some a by show ks[0]? = some a; rw[hks]; rfl)
  obtain⟨cb,off,_,_,_,_,_,_,hq,hcb, -⟩:=zbq (t:=.mk 25 n s ks) HKR.out HKI0.out
  subst hq
  have HCB:=hid' hcb
  clear hcb
  clear hks
  clear nw1 nw2 nw3
  have HXa:=hid' ha
  have HF1:=hid' (HF.out.lay (ix 24 0 0 0))
  obtain⟨C,hC⟩:∃ C,Hid (con sh d a (m.lay (ix 24 0 0 0))=C):=⟨_,hid' rfl⟩
  have HE:=hid' (show con sh (d+1) (T.mk 25 n s ks) m=C.free sh m.next by rw[zhb hwt.out rfl,show(T.mk 25 n s ks).kid 0=a by rw[HKS.out]; rfl,hC.out])
  clear ha
  have HLY:=hid' (zdc mb kb sh (m) vw vi vj (ix 24 0 0 0) w2 HM2.out (by have:=HSZ.out; omega))
  try unfold ix at HLY
  try unfold txt0 at HLY
  go_wp2_with fail
  clear m5
  refine HLY.out.mono ?_
  rintro e w3 ⟨rfl,hl3⟩
  clear HLY
  have HBX3:=hid' (HBX2.out.kp hl3.kp (u:=[]) zag)
  obtain⟨vw3,vi3,vj3,kb3,m3,hk3⟩:=KpG.next ⟨.inl rfl,HK2.out.2⟩ hl3
  have HM3:=hid' m3
  have HK3:=hid' hk3
  clear hl3 m3 hk3 c0 c1 c2 c3
  have c0:=zaa (HBX3.out.at' _ (.head _)) 0 _ rfl
  have c1:=zaa (HBX3.out.at' _ (.head _)) 1 _ rfl
  have c2:=zaa (HBX3.out.at' _ (.head _)) 2 _ rfl
  have c3:=zaa (HBX3.out.at' _ (.head _)) 3 _ rfl
  simp only at c0 c1 c2 c3
  obtain⟨kop,kn,kst,pk,kl,ck,hvk,r0,r1,r2,r3⟩:=zcn (t:=.mk 25 n s ks) (zaw HKR.out HK3.out.2.bel) (i:=0) HKI0.out
  simp only[Nat.zero_mul,Nat.add_zero,Nat.one_mul,Nat.reduceMul] at r0 r1 r2 r3
  have j2:(0:Int)<(ks.length:Int):=by have:=congrArg List.length HKS.out; simp at this; omega
  have j5:ks≠[]:=by rw[HKS.out]; simp
  have j3:0<ks.length:=List.length_pos_iff.2 j5
  have HC:=hid' (HO a (m.lay (ix 24 0 0 0)) _ mb kb3 vw3 vi3 vj3 _ w3 HXa.out (HDA.out a (by rw[HKS.out]; simp)) hvk HM3.out HF1.out (by have:=HSZ.out; have:=HZZ.out; omega))
  rw[hC.out] at HC
  clear hvk
  go_wp2_with fail
  refine HC.out.mono ?_
  rintro e w4 ⟨⟨r4,rfl⟩,hl4⟩
  clear HC
  have HBX4:=hid' (HBX3.out.kp hl4.kp (u:=[]) zag)
  obtain⟨vw4,vi4,vj4,kb4,m4,hk4⟩:=KpG.next HK3.out hl4
  have HM4:=hid' m4
  have HK4:=hid' hk4
  clear hl4 m4 hk4 c0 c1 c2 c3 r0 r1 r2 r3 j2 j3 j5
  have c0:=zaa (HBX4.out.at' _ (.head _)) 0 _ rfl
  have c1:=zaa (HBX4.out.at' _ (.head _)) 1 _ rfl
  have c2:=zaa (HBX4.out.at' _ (.head _)) 2 _ rfl
  have c3:=zaa (HBX4.out.at' _ (.head _)) 3 _ rfl
  simp only at c0 c1 c2 c3
  have m3:=zaa HM4.out.box 3 _ rfl
  have HM:=hid' HM4.out
  have HKN:=hid' HK4.out
  cases sh with
  |true=>
   go_wp2_with fail
   refine bodyPost_end (results_none rfl _ _ _) rfl ?_
   rw[HE.out]
   exact⟨⟨_,rfl⟩,⟨⟨_,_,_,_,HM.out,HKN.out.1⟩,HKN.out.2⟩⟩
  |false=>
   have m5:=zaa HM.out.box 5 _ rfl
   have f5:=frozen_of (o:=5) HM.out.box
   have HFI:=hid' (HM.out.parts (m':={ C with next:=m.next }) 5 (.int .i64 m.next) rfl rfl rfl rfl rfl rfl)
   go_wp2_with fail
   refine bodyPost_end (results_none rfl _ _ _) rfl ?_
   rw[HE.out]
   exact⟨⟨_,rfl⟩,⟨⟨_,_,_,_,HFI.out.1,HKN.out.1⟩,HKN.out.2.trans HFI.out.2 (HKN.out.1)⟩⟩
 ·have HKS:=hid' hks
  have HZZ:=hid' (show(T.mk 26 n s ks).size=1+(o.size+(a.size)) by rw[T.size,hks]; simp[sizes])
  have HKI0:=hid' (show(T.mk 26 n s ks).ks[0]? = some o by show ks[0]? = some o; rw[hks]; rfl)
  have HKI1:=hid' (show(T.mk 26 n s ks).ks[1]? = some a by show ks[1]? = some a; rw[hks]; rfl)
  obtain⟨cb,off,_,_,_,_,_,_,hq,hcb, -⟩:=zbq (t:=.mk 26 n s ks) HKR.out HKI0.out
  subst hq
  have HCB:=hid' hcb
  clear hcb
  clear hks
  clear nw1 nw2 nw3
  have HXa:=hid' ha
  have HOb:=hid' (zaz ho)
  have HNF:=hid' (show zbs o=false by have:=HNW.out (.inl rfl); rwa [show(T.mk 26 n s ks).kid 0=o by rw[HKS.out]; rfl] at this)
  have HFO:=hid' (zat sh d o m [] k (zaz ho) HF.out)
  obtain⟨O,hO⟩:∃ O,Hid (obs sh d o m []=O):=⟨_,hid' rfl⟩
  rw[hO.out] at HFO
  have HF1:=hid' (HFO.out.m.lay (ix 23 0 O.1 0))
  obtain⟨C,hC⟩:∃ C,Hid (con sh d a (O.2.1.lay (ix 23 0 O.1 0))=C):=⟨_,hid' rfl⟩
  have HE:=hid' (show con sh (d+1) (T.mk 26 n s ks) m=C.free sh m.next by rw[zgf hwt.out rfl,show(T.mk 26 n s ks).kid 0=o by rw[HKS.out]; rfl,show(T.mk 26 n s ks).kid 1=a by rw[HKS.out]; rfl,hO.out,hC.out])
  clear ha ho
  obtain⟨kop,kn,kst,pk,kl,ck,hvk,r0,r1,r2,r3⟩:=zcn (t:=.mk 26 n s ks) (zaw HKR.out HK2.out.2.bel) (i:=0) HKI0.out
  simp only[Nat.zero_mul,Nat.add_zero,Nat.one_mul,Nat.reduceMul] at r0 r1 r2 r3
  have j2:(0:Int)<(ks.length:Int):=by have:=congrArg List.length HKS.out; simp at this; omega
  have j5:ks≠[]:=by rw[HKS.out]; simp
  have j3:0<ks.length:=List.length_pos_iff.2 j5
  have HC:=hid' (zju sh d o (m) [] k mb kb none vw vi vj _ w2 HOb.out (HDA.out o (by rw[HKS.out]; simp)) hvk HM2.out zag (fun _=>HNF.out) HF.out (by have:=HSZ.out; have:=HZZ.out; omega) (by have:=HSZ.out; have:=HZZ.out; show 0+8 * _≤_; omega))
  rw[show uptr none=Value.pointer none from rfl,hO.out] at HC
  clear hvk
  go_wp2_with fail
  clear m5
  refine HC.out.mono ?_
  rintro e w3 ⟨rfl,hl3, -⟩
  clear HC
  have HBX3:=hid' (HBX2.out.kp hl3.kp (u:=[]) zag)
  obtain⟨vw3,vi3,vj3,kb3,m3,hk3⟩:=KpG.next ⟨.inl rfl,HK2.out.2⟩ hl3
  have HM3:=hid' m3
  have HK3:=hid' hk3
  clear hl3 m3 hk3 c0 c1 c2 c3 r0 r1 r2 r3 j2 j3 j5
  have c0:=zaa (HBX3.out.at' _ (.head _)) 0 _ rfl
  have c1:=zaa (HBX3.out.at' _ (.head _)) 1 _ rfl
  have c2:=zaa (HBX3.out.at' _ (.head _)) 2 _ rfl
  have c3:=zaa (HBX3.out.at' _ (.head _)) 3 _ rfl
  simp only at c0 c1 c2 c3
  have HLY:=hid' (zdc mb kb3 sh (O.2.1) vw3 vi3 vj3 (ix 23 0 O.1 0) w3 HM3.out (by have:=HFO.out.m.len; have:=HSZ.out; have:=HZZ.out; omega))
  try unfold ix at HLY
  try unfold txt0 at HLY
  go_wp2_with fail
  refine HLY.out.mono ?_
  rintro e w4 ⟨rfl,hl4⟩
  clear HLY
  have HBX4:=hid' (HBX3.out.kp hl4.kp (u:=[]) zag)
  obtain⟨vw4,vi4,vj4,kb4,m4,hk4⟩:=KpG.next HK3.out hl4
  have HM4:=hid' m4
  have HK4:=hid' hk4
  clear hl4 m4 hk4 c0 c1 c2 c3
  have c0:=zaa (HBX4.out.at' _ (.head _)) 0 _ rfl
  have c1:=zaa (HBX4.out.at' _ (.head _)) 1 _ rfl
  have c2:=zaa (HBX4.out.at' _ (.head _)) 2 _ rfl
  have c3:=zaa (HBX4.out.at' _ (.head _)) 3 _ rfl
  simp only at c0 c1 c2 c3
  obtain⟨kop,kn,kst,pk,kl,ck,hvk,r0,r1,r2,r3⟩:=zcn (t:=.mk 26 n s ks) (zaw HKR.out HK4.out.2.bel) (i:=1) HKI1.out
  simp only[Nat.zero_mul,Nat.add_zero,Nat.one_mul,Nat.reduceMul] at r0 r1 r2 r3
  have j2:(1:Int)<(ks.length:Int):=by have:=congrArg List.length HKS.out; simp at this; omega
  have HC:=hid' (HO a (O.2.1.lay (ix 23 0 O.1 0)) _ mb kb4 vw4 vi4 vj4 _ w4 HXa.out (HDA.out a (by rw[HKS.out]; simp)) hvk HM4.out HF1.out (by have:=HSZ.out; have:=HZZ.out; omega))
  rw[hC.out] at HC
  clear hvk
  go_wp2_with fail
  refine HC.out.mono ?_
  rintro e w5 ⟨⟨r5,rfl⟩,hl5⟩
  clear HC
  have HBX5:=hid' (HBX4.out.kp hl5.kp (u:=[]) zag)
  obtain⟨vw5,vi5,vj5,kb5,m5,hk5⟩:=KpG.next HK4.out hl5
  have HM5:=hid' m5
  have HK5:=hid' hk5
  clear hl5 m5 hk5 c0 c1 c2 c3 r0 r1 r2 r3 j2
  have c0:=zaa (HBX5.out.at' _ (.head _)) 0 _ rfl
  have c1:=zaa (HBX5.out.at' _ (.head _)) 1 _ rfl
  have c2:=zaa (HBX5.out.at' _ (.head _)) 2 _ rfl
  have c3:=zaa (HBX5.out.at' _ (.head _)) 3 _ rfl
  simp only at c0 c1 c2 c3
  have m3:=zaa HM5.out.box 3 _ rfl
  have HM:=hid' HM5.out
  have HKN:=hid' HK5.out
  cases sh with
  |true=>
   go_wp2_with fail
   refine bodyPost_end (results_none rfl _ _ _) rfl ?_
   rw[HE.out]
   exact⟨⟨_,rfl⟩,⟨⟨_,_,_,_,HM.out,HKN.out.1⟩,HKN.out.2⟩⟩
  |false=>
   have m5:=zaa HM.out.box 5 _ rfl
   have f5:=frozen_of (o:=5) HM.out.box
   have HFI:=hid' (HM.out.parts (m':={ C with next:=m.next }) 5 (.int .i64 m.next) rfl rfl rfl rfl rfl rfl)
   go_wp2_with fail
   refine bodyPost_end (results_none rfl _ _ _) rfl ?_
   rw[HE.out]
   exact⟨⟨_,rfl⟩,⟨⟨_,_,_,_,HFI.out.1,HKN.out.1⟩,HKN.out.2.trans HFI.out.2 (HKN.out.1)⟩⟩
 ·rcases h1 with rfl|rfl
  rotate_left 1
  ·exact absurd rfl nw3
  have HKS:=hid' hks
  have HZZ:=hid' (show(T.mk 27 n s ks).size=1+(a.size+(b.size)) by rw[T.size,hks]; simp[sizes])
  have HKI0:=hid' (show(T.mk 27 n s ks).ks[0]? = some a by show ks[0]? = some a; rw[hks]; rfl)
  have HKI1:=hid' (show(T.mk 27 n s ks).ks[1]? = some b by show ks[1]? = some b; rw[hks]; rfl)
  obtain⟨cb,off,_,_,_,_,_,_,hq,hcb, -⟩:=zbq (t:=.mk 27 n s ks) HKR.out HKI0.out
  subst hq
  have HCB:=hid' hcb
  clear hcb
  clear hks
  clear nw1 nw2 nw3
  have HXa:=hid' ha
  have HXb:=hid' hb
  have HF1:=hid' (HF.out.reg.lay (ix 25 m.next 0 0))
  have HF2a:=zav sh d a _ _ ha HF1.out
  obtain⟨C,hC⟩:∃ C,Hid (con sh d a (m.reg.lay (ix 25 m.next 0 0))=C):=⟨_,hid' rfl⟩
  rw[hC.out] at HF2a
  have HCL:=hid' HF2a.len
  have HF2:=hid' (HF2a.lay (ix 26 0 m.next 0))
  obtain⟨D,hD⟩:∃ D,Hid (con sh d b (C.lay (ix 26 0 m.next 0))=D):=⟨_,hid' rfl⟩
  have HE:=hid' (show con sh (d+1) (T.mk 27 n s ks) m=D.free sh m.next by rw[zhd hwt.out rfl,show(T.mk 27 n s ks).kid 0=a by rw[HKS.out]; rfl,show(T.mk 27 n s ks).kid 1=b by rw[HKS.out]; rfl,hC.out,hD.out])
  clear ha hb HF2a
  have HRG:=hid' (zin mb kb sh (m) vw vi vj w2 HM2.out (by have:=HSZ.out; omega))
  go_wp2_with fail
  clear m5
  refine HRG.out.mono ?_
  rintro e w3 ⟨rfl,hl3⟩
  clear HRG
  have HBX3:=hid' (HBX2.out.kp hl3.kp (u:=[]) zag)
  obtain⟨vw3,vi3,vj3,kb3,m3,hk3⟩:=KpG.next ⟨.inl rfl,HK2.out.2⟩ hl3
  have HM3:=hid' m3
  have HK3:=hid' hk3
  clear hl3 m3 hk3 c0 c1 c2 c3
  have c0:=zaa (HBX3.out.at' _ (.head _)) 0 _ rfl
  have c1:=zaa (HBX3.out.at' _ (.head _)) 1 _ rfl
  have c2:=zaa (HBX3.out.at' _ (.head _)) 2 _ rfl
  have c3:=zaa (HBX3.out.at' _ (.head _)) 3 _ rfl
  simp only at c0 c1 c2 c3
  have HLY:=hid' (zdc mb kb3 sh (m.reg) vw3 vi3 vj3 (ix 25 m.next 0 0) w3 HM3.out (by show m.ins.length≤_; have:=HSZ.out; omega))
  try unfold ix at HLY
  try unfold txt0 at HLY
  go_wp2_with fail
  refine HLY.out.mono ?_
  rintro e w4 ⟨rfl,hl4⟩
  clear HLY
  have HBX4:=hid' (HBX3.out.kp hl4.kp (u:=[]) zag)
  obtain⟨vw4,vi4,vj4,kb4,m4,hk4⟩:=KpG.next HK3.out hl4
  have HM4:=hid' m4
  have HK4:=hid' hk4
  clear hl4 m4 hk4 c0 c1 c2 c3
  have c0:=zaa (HBX4.out.at' _ (.head _)) 0 _ rfl
  have c1:=zaa (HBX4.out.at' _ (.head _)) 1 _ rfl
  have c2:=zaa (HBX4.out.at' _ (.head _)) 2 _ rfl
  have c3:=zaa (HBX4.out.at' _ (.head _)) 3 _ rfl
  simp only at c0 c1 c2 c3
  obtain⟨kop,kn,kst,pk,kl,ck,hvk,r0,r1,r2,r3⟩:=zcn (t:=.mk 27 n s ks) (zaw HKR.out HK4.out.2.bel) (i:=0) HKI0.out
  simp only[Nat.zero_mul,Nat.add_zero,Nat.one_mul,Nat.reduceMul] at r0 r1 r2 r3
  have j2:(0:Int)<(ks.length:Int):=by have:=congrArg List.length HKS.out; simp at this; omega
  have j5:ks≠[]:=by rw[HKS.out]; simp
  have j3:0<ks.length:=List.length_pos_iff.2 j5
  have HC:=hid' (HO a (m.reg.lay (ix 25 m.next 0 0)) _ mb kb4 vw4 vi4 vj4 _ w4 HXa.out (HDA.out a (by rw[HKS.out]; simp)) hvk HM4.out HF1.out (by have:=HSZ.out; have:=HZZ.out; omega))
  rw[hC.out] at HC
  clear hvk
  go_wp2_with fail
  refine HC.out.mono ?_
  rintro e w5 ⟨⟨r5,rfl⟩,hl5⟩
  clear HC
  have HBX5:=hid' (HBX4.out.kp hl5.kp (u:=[]) zag)
  obtain⟨vw5,vi5,vj5,kb5,m5,hk5⟩:=KpG.next HK4.out hl5
  have HM5:=hid' m5
  have HK5:=hid' hk5
  clear hl5 m5 hk5 c0 c1 c2 c3 r0 r1 r2 r3 j2 j3 j5
  have c0:=zaa (HBX5.out.at' _ (.head _)) 0 _ rfl
  have c1:=zaa (HBX5.out.at' _ (.head _)) 1 _ rfl
  have c2:=zaa (HBX5.out.at' _ (.head _)) 2 _ rfl
  have c3:=zaa (HBX5.out.at' _ (.head _)) 3 _ rfl
  simp only at c0 c1 c2 c3
  have HLY:=hid' (zdc mb kb5 sh (C) vw5 vi5 vj5 (ix 26 0 m.next 0) w5 HM5.out (by have:=HCL.out; have:=HSZ.out; have:=HZZ.out; omega))
  try unfold ix at HLY
  try unfold txt0 at HLY
  go_wp2_with fail
  refine HLY.out.mono ?_
  rintro e w6 ⟨rfl,hl6⟩
  clear HLY
  have HBX6:=hid' (HBX5.out.kp hl6.kp (u:=[]) zag)
  obtain⟨vw6,vi6,vj6,kb6,m6,hk6⟩:=KpG.next HK5.out hl6
  have HM6:=hid' m6
  have HK6:=hid' hk6
  clear hl6 m6 hk6 c0 c1 c2 c3
  have c0:=zaa (HBX6.out.at' _ (.head _)) 0 _ rfl
  have c1:=zaa (HBX6.out.at' _ (.head _)) 1 _ rfl
  have c2:=zaa (HBX6.out.at' _ (.head _)) 2 _ rfl
  have c3:=zaa (HBX6.out.at' _ (.head _)) 3 _ rfl
  simp only at c0 c1 c2 c3
  obtain⟨kop,kn,kst,pk,kl,ck,hvk,r0,r1,r2,r3⟩:=zcn (t:=.mk 27 n s ks) (zaw HKR.out HK6.out.2.bel) (i:=1) HKI1.out
  simp only[Nat.zero_mul,Nat.add_zero,Nat.one_mul,Nat.reduceMul] at r0 r1 r2 r3
  have j2:(1:Int)<(ks.length:Int):=by have:=congrArg List.length HKS.out; simp at this; omega
  have HC:=hid' (HO b (C.lay (ix 26 0 m.next 0)) _ mb kb6 vw6 vi6 vj6 _ w6 HXb.out (HDA.out b (by rw[HKS.out]; simp)) hvk HM6.out HF2.out (by have:=HSZ.out; have:=HZZ.out; omega))
  rw[hD.out] at HC
  clear hvk
  go_wp2_with fail
  refine HC.out.mono ?_
  rintro e w7 ⟨⟨r7,rfl⟩,hl7⟩
  clear HC
  have HBX7:=hid' (HBX6.out.kp hl7.kp (u:=[]) zag)
  obtain⟨vw7,vi7,vj7,kb7,m7,hk7⟩:=KpG.next HK6.out hl7
  have HM7:=hid' m7
  have HK7:=hid' hk7
  clear hl7 m7 hk7 c0 c1 c2 c3 r0 r1 r2 r3 j2
  have c0:=zaa (HBX7.out.at' _ (.head _)) 0 _ rfl
  have c1:=zaa (HBX7.out.at' _ (.head _)) 1 _ rfl
  have c2:=zaa (HBX7.out.at' _ (.head _)) 2 _ rfl
  have c3:=zaa (HBX7.out.at' _ (.head _)) 3 _ rfl
  simp only at c0 c1 c2 c3
  have m3:=zaa HM7.out.box 3 _ rfl
  have HM:=hid' HM7.out
  have HKN:=hid' HK7.out
  cases sh with
  |true=>
   go_wp2_with fail
   refine bodyPost_end (results_none rfl _ _ _) rfl ?_
   rw[HE.out]
   exact⟨⟨_,rfl⟩,⟨⟨_,_,_,_,HM.out,HKN.out.1⟩,HKN.out.2⟩⟩
  |false=>
   have m5:=zaa HM.out.box 5 _ rfl
   have f5:=frozen_of (o:=5) HM.out.box
   have HFI:=hid' (HM.out.parts (m':={ D with next:=m.next }) 5 (.int .i64 m.next) rfl rfl rfl rfl rfl rfl)
   go_wp2_with fail
   refine bodyPost_end (results_none rfl _ _ _) rfl ?_
   rw[HE.out]
   exact⟨⟨_,rfl⟩,⟨⟨_,_,_,_,HFI.out.1,HKN.out.1⟩,HKN.out.2.trans HFI.out.2 (HKN.out.1)⟩⟩
 ·have HKS:=hid' hks
  have HZZ:=hid' (show(T.mk 28 n s ks).size=1+(o.size+(a.size+(b.size))) by rw[T.size,hks]; simp[sizes])
  have HKI0:=hid' (show(T.mk 28 n s ks).ks[0]? = some o by show ks[0]? = some o; rw[hks]; rfl)
  have HKI1:=hid' (show(T.mk 28 n s ks).ks[1]? = some a by show ks[1]? = some a; rw[hks]; rfl)
  have HKI2:=hid' (show(T.mk 28 n s ks).ks[2]? = some b by show ks[2]? = some b; rw[hks]; rfl)
  obtain⟨cb,off,_,_,_,_,_,_,hq,hcb, -⟩:=zbq (t:=.mk 28 n s ks) HKR.out HKI0.out
  subst hq
  have HCB:=hid' hcb
  clear hcb
  clear hks
  clear nw1 nw2 nw3
  have HXa:=hid' ha
  have HXb:=hid' hb
  have HOb:=hid' (zbd ho)
  have HNF:=hid' (show zbs o=false by have:=HNW.out (.inr rfl); rwa [show(T.mk 28 n s ks).kid 0=o by rw[HKS.out]; rfl] at this)
  have HFO:=hid' (zat sh d o m [] k (zbd ho) HF.out)
  obtain⟨O,hO⟩:∃ O,Hid (obs sh d o m []=O):=⟨_,hid' rfl⟩
  rw[hO.out] at HFO
  have HE:=hid' (show con sh (d+1) (T.mk 28 n s ks) m=(either (con sh d) O.1 (T.mk 28 n s ks) O.2.1).free sh m.next by rw[zkd hwt.out rfl,show(T.mk 28 n s ks).kid 0=o by rw[HKS.out]; rfl,hO.out])
  have HB2:=hid' (HBX2.out.at' _ (.head _))
  have hm5:=m5
  clear ha hb ho
  obtain⟨kop,kn,kst,pk,kl,ck,hvk,r0,r1,r2,r3⟩:=zcn (t:=.mk 28 n s ks) (zaw HKR.out HK2.out.2.bel) (i:=0) HKI0.out
  simp only[Nat.zero_mul,Nat.add_zero,Nat.one_mul,Nat.reduceMul] at r0 r1 r2 r3
  have j2:(0:Int)<(ks.length:Int):=by have:=congrArg List.length HKS.out; simp at this; omega
  have j5:ks≠[]:=by rw[HKS.out]; simp
  have j3:0<ks.length:=List.length_pos_iff.2 j5
  have HC:=hid' (zju sh d o (m) [] k mb kb none vw vi vj _ w2.drew HOb.out (HDA.out o (by rw[HKS.out]; simp)) (hvk.kept ((Below.refl mb _).drew) (Nat.le_refl _)) HM2.out.drew zag (fun _=>HNF.out) HF.out (by have:=HSZ.out; have:=HZZ.out; omega) (by have:=HSZ.out; have:=HZZ.out; show 0+8 * _≤_; omega))
  rw[show uptr none=Value.pointer none from rfl,hO.out] at HC
  clear hvk
  go_upto_region 22 with(fail)
  clear m5 hm5 c0 c1 c2 c3
  refine zlj (fun W=>W.heap[B]? = some (.cells #[.int .i64 28,.int .i64 n,.string s,.slice (some ⟨cb,off,none⟩) ks.length c] 24 (0,0))∧W.heap[cb]? = w2.heap[cb]?) [(0,false),(1,false),(2,false),(3,false),(4,false),(5,false),(7,false),(6,true),(8,true)] (by kernel_rfl) (by kernel_rfl) (by kernel_rfl) ⟨HB2.out,rfl⟩ ?_
  iterate 7
   apply znf (ho:=rfl)
   ·rfl
   ·intro W hW
    have p0:=zaa hW.1 0 _ rfl
    have p1:=zaa hW.1 1 _ rfl
    have p2:=zaa hW.1 2 _ rfl
    have p3:=zaa hW.1 3 _ rfl
    have s0:=zdb r0 hW.2
    have s1:=zdb r1 hW.2
    have s2:=zdb r2 hW.2
    have s3:=zdb r3 hW.2
    first|(go_simp; done)|(go_simp; with_reducible rfl)
   simp only[Act.put,List.setIfInBounds_toArray,List.set_cons_zero,List.set_cons_succ]
  refine zhv (i:=6) 104 #[.pointer (some ⟨mb,0,none⟩),.agg #[.int .i64 kop,.int .i64 kn,.string kst,.slice pk kl ck],.pointer none] (fun v w'=>v=.int .i64 O.1∧Lays mb kb none sh O.2.1 w2.drew w') rfl ?_ ?_ ?_ ?_
  ·rfl
  ·go_simp
  ·refine HC.out.mono ?_
   rintro e w3 ⟨rfl,hl3, -⟩
   exact⟨_,rfl,rfl,hl3⟩
  rintro v w3 ⟨rfl,hl3⟩
  have hk2d:(kb=kb∨w.heap.size≤kb)∧KpG mb kb none w w2.drew:=⟨.inl rfl,HK2.out.2.trans HM2.out.kd (.inl rfl)⟩
  have HBX3:=hid' ((HBX2.out.below (Below.refl _ w2).drew).kp hl3.kp (u:=[]) zag)
  obtain⟨vw3,vi3,vj3,kb3,m3,hk3⟩:=KpG.next hk2d hl3
  have HM3:=hid' m3
  have HK3:=hid' hk3
  have hf3:w3.heap[cb]? = w2.heap[cb]?:=hl3.kp.bel.block cb HCB.out
  refine⟨⟨HBX3.out.at' _ (.head _),hf3⟩,?_⟩
  have HFC:=hid' hf3
  clear hl3 m3 hk3 hk2d hf3 HC
  simp only[Act.put,List.setIfInBounds_toArray,List.set_cons_zero,List.set_cons_succ]
  refine zhv (i:=8) 105 #[.pointer (some ⟨mb,0,none⟩),.int .i64 O.1,.agg #[.int .i64 28,.int .i64 n,.string s,.slice (some ⟨cb,off,none⟩) ks.length c]] (fun v w'=>Lays mb kb3 none sh (either (con sh d) O.1 (T.mk 28 n s ks) O.2.1) w3 w') rfl ?_ ?_ ?_ ?_
  ·rfl
  ·go_simp
  ·refine(zpe HO (T.mk 28 n s ks) o a b O.1 O.2.1 _ mb kb3 vw3 vi3 vj3 _ w3 HKS.out HXa.out HXb.out (HDA.out a (by rw[HKS.out]; simp)) (HDA.out b (by rw[HKS.out]; simp)) (HCA.out w3 HK3.out.2.bel) HM3.out HFO.out.m (by have:=HSZ.out; have:=HZZ.out; omega)).mono ?_
   rintro e w4 ⟨⟨r4,rfl⟩,hl4⟩
   exact⟨_,rfl,hl4⟩
  rintro v w4 hl4
  have HBX4:=hid' (HBX3.out.kp hl4.kp (u:=[]) zag)
  obtain⟨vw4,vi4,vj4,kb4,m4,hk4⟩:=KpG.next HK3.out hl4
  have HM4:=hid' m4
  have HK4:=hid' hk4
  have hf4:w4.heap[cb]? = w2.heap[cb]?:=(hl4.kp.bel.block cb HCB.out).trans (by first|exact HFC.out|skip)
  refine⟨⟨HBX4.out.at' _ (.head _),hf4⟩,?_⟩
  clear hl4 m4 hk4 hf4 r0 r1 r2 r3 j2 j3 j5
  simp only[Act.put,List.setIfInBounds_toArray,List.set_cons_zero,List.set_cons_succ]
  refine zqm ?_
  have m3:=zaa HM4.out.box 3 _ rfl
  have HM:=hid' HM4.out
  have HKN:=hid' HK4.out
  cases sh with
  |true=>
   go_wp2_with fail
   refine bodyPost_end (results_none rfl _ _ _) rfl ?_
   rw[HE.out]
   exact⟨⟨_,rfl⟩,⟨⟨_,_,_,_,HM.out,HKN.out.1⟩,HKN.out.2⟩⟩
  |false=>
   have m5:=zaa HM.out.box 5 _ rfl
   have f5:=frozen_of (o:=5) HM.out.box
   have HFI:=hid' (HM.out.parts (m':={ (either (con false d) O.1 (T.mk 28 n s ks) O.2.1) with next:=m.next }) 5 (.int .i64 m.next) rfl rfl rfl rfl rfl rfl)
   go_wp2_with fail
   refine bodyPost_end (results_none rfl _ _ _) rfl ?_
   rw[HE.out]
   exact⟨⟨_,rfl⟩,⟨⟨_,_,_,_,HFI.out.1,HKN.out.1⟩,HKN.out.2.trans HFI.out.2 (HKN.out.1)⟩⟩
 ·exact absurd rfl nw2
theorem zhr (sh:Bool):∀ d:Nat,znd sh d
 |0=>fun t m k mb kb vw vi vj v w _ hd=>(by have:=zfc t; omega)
 |d+1=>qdn (zhr sh d)
end Gf
end
section
open Go.RowKit
open Rw
set_option maxRecDepth 100000
attribute [local go_sem] zbj
namespace Gf
open Co Dn
set_option maxHeartbeats 8000000 in
theorem qcp (sh:Bool)(j:Nat)(n:Int)(s:ByteArray)(a b:T)(m:Mk)(k mb kb:Nat)(vw vi vj:Value)(cb off c:Nat)(w:World)(ha:a.letter=99)(hb:b.letter=99)(hda:a.depth≤200)(hdb:b.depth≤200)(hn:0≤n∧n≤73048)
  (hv:CoreAt mb w (.mk 31 n s [a,b]) (.agg #[.int .i64 31,.int .i64 n,.string s,.slice (some ⟨cb,off,none⟩) 2 c])) (hm:MkAt mb sh m vw vi vj kb w) (hj:j<m.ws.length) (hf:Fit k m) (hk:k+6+8 * a.size+8 * b.size≤700000):
  Calls Tryz.prog 107 #[.pointer (some ⟨mb,0,none⟩),.agg #[.int .i64 j,.int .i64 31,.int .i64 n,.string s,.slice (some ⟨cb,off,none⟩) 2 c]] w (fun e w'=>(∃ r,e=.returned r)∧Lays mb kb none sh (pick sh j (.mk 31 n s [a,b]) m) w w'):=by
 have hv0:=hv
 obtain⟨q,c2,hve,hcc, -, -, -,hkr⟩:=hv.open
 simp only[T.op,T.n,T.s,T.ks,List.length_cons,List.length_nil,Value.agg.injEq,Array.mk.injEq,List.cons.injEq,Value.slice.injEq,true_and,and_true] at hve
 obtain⟨rfl, -⟩:q=some ⟨cb,off,none⟩∧True:=⟨hve.1.symm,trivial⟩
 have HKR:=hid' hkr
 have HKI0:=hid' (show(T.mk 31 n s [a,b]).ks[0]? = some a from rfl)
 have HKI1:=hid' (show(T.mk 31 n s [a,b]).ks[1]? = some b from rfl)
 have B1:=(Below.refl w.heap.size w).alloc (Nat.le_refl _) (.cells #[.int .i64 j,.int .i64 31,.int .i64 n,.string s,.slice (some ⟨cb,off,none⟩) 2 c] 104)
 have y1:=heap_alloc_new w (.cells #[.int .i64 j,.int .i64 31,.int .i64 n,.string s,.slice (some ⟨cb,off,none⟩) 2 c] 104)
 have B2:=(Below.refl (w.heap.size+1) (w.alloc (.cells #[.int .i64 j,.int .i64 31,.int .i64 n,.string s,.slice (some ⟨cb,off,none⟩) 2 c] 104))).alloc (by simp) (.cells #[.int .i64 31,.int .i64 n,.string s,.slice (some ⟨cb,off,none⟩) 2 c] 24)
 have y2:=heap_alloc_new (w.alloc (.cells #[.int .i64 j,.int .i64 31,.int .i64 n,.string s,.slice (some ⟨cb,off,none⟩) 2 c] 104)) (.cells #[.int .i64 31,.int .i64 n,.string s,.slice (some ⟨cb,off,none⟩) 2 c] 24)
 simp only[World.size_alloc] at y2
 have z1:=(B2.block _ (by omega)).trans y1
 have BA:=B1.trans (B2.mono (by omega))
 have hjo:∀ k,vj.ownBlock=some k→k≠w.heap.size:=fun k e=>by
  obtain⟨J,e1,e2,e3⟩:=hm.rj
  have:=(zmu e2 _ e).2
  omega
 have HY:=hid' (And.intro y1 (hm.below B1))
 have HBX:=hid' ((Bx.nil mb _).cons y2 (by have:=hm.lt; omega) rfl)
 have HM:=hid' (hm.below BA)
 have HOJ:=hid' (Own1.newJob (hm.below BA) z1 hjo)
 have HB:=hid' BA
 have HKP:=hid' (KpG.of (mb:=mb) (kb:=kb) (ub:=none) BA (Nat.le_of_lt hm.lt))
 have HSZ:=hid' (And.intro hk (And.intro hf.len (And.intro hf.nx (And.intro hf.pt hj))))
 have HF:=hid' hf
 have HX:=hid' (And.intro ha (And.intro hb (And.intro hda hdb)))
 have HMB:=hid' hm.lt
 have HN:=hid' hn
 have hw1:IntKind.i64.wrap (n+1)=n+1:=IntWalk.i64_in _ (by omega)
 clear B1 y1 B2 y2 z1 BA hm hv hv0 hkr hk hf hcc ha hb hda hdb hj hjo hn hve
 go_enter Tryz.func107,Tryz.ntmps107
 go_upto_region 1 with(fail)
 have k0:=zaa HY.out.1 0 _ rfl
 have k1:=zaa HY.out.1 1 _ rfl
 have k2:=zaa HY.out.1 2 _ rfl
 have k3:=zaa HY.out.1 3 _ rfl
 have k4:=zaa HY.out.1 4 _ rfl
 clear HY
 go_upto_region 2 with(fail)
 clear k0 k1 k2 k3 k4
 obtain⟨B,hB⟩:∃ B,Hid (w.heap.size=B):=⟨_,hid' rfl⟩
 simp only[hB.out] at HBX HOJ ⊢
 generalize World.alloc _ _=w1 at *
 obtain⟨pi,ci,hvi⟩:=zay HM.out.ri
 subst hvi
 have hF0:w1.drew.heap[mb]? = some (.cells #[.int .i64 m.regs,vw,.slice pi m.ins.length ci,.bool sh,vj,.int .i64 m.next,.map (some kb),.bool m.over] 66 (0,0))∧w1.drew.heap[B+1]? = some (.cells #[.int .i64 31,.int .i64 n,.string s,.slice (some ⟨cb,off,none⟩) 2 c] 24 (0,0)):=⟨HM.out.box,HBX.out.at' _ (.head _)⟩
 refine zbu (fun W=>W.heap[mb]? = some (.cells #[.int .i64 m.regs,vw,.slice pi m.ins.length ci,.bool sh,vj,.int .i64 m.next,.map (some kb),.bool m.over] 66 (0,0))∧W.heap[B+1]? = some (.cells #[.int .i64 31,.int .i64 n,.string s,.slice (some ⟨cb,off,none⟩) 2 c] 24 (0,0))) 13 [false,false,false,false,false,false,false,false,false,false,false,false,true,true] (by kernel_rfl) (by kernel_rfl) (by kernel_rfl) hF0 ?_
 iterate 12
  apply zbi
  ·rfl
  ·intro W hW
   have q2:=zaa hW.1 2 _ rfl
   have p1:=zaa hW.2 1 _ rfl
   have p2:=zaa hW.2 2 _ rfl
   first|(go_simp; done)|(go_simp; with_reducible rfl)
  simp only[Act.put,List.setIfInBounds_toArray,List.set_cons_zero,List.set_cons_succ]
 refine zbg (v:=.pointer (some ⟨w1.drew.heap.size,0,none⟩)) (w':=w1.drew.alloc (.cells #[.int .i64 0,.int .i64 0,.string ⟨#[]⟩,.int .i64 0,.int .i64 0] 76)) ?_ ?_ ?_ ?_
 ·rfl
 ·go_simp
 ·exact .inr ⟨zad ((Below.refl _ _).alloc (Nat.le_refl _) _) hF0.1,zad ((Below.refl _ _).alloc (Nat.le_refl _) _) hF0.2⟩
 simp only[Act.put,List.setIfInBounds_toArray,List.set_cons_zero,List.set_cons_succ]
 refine zdm (w':=w1.drew.alloc (.cells #[.int .i64 m.ins.length,.int .i64 (n+1),.string s,.int .i64 0,.int .i64 0] 76)) ?_ ?_ ?_ ?_
 ·rfl
 ·first|(go_simp; done)|(go_simp; rfl)
 ·exact .inl (Nat.le_refl _)
 refine zcu ?_
 have hba:=(Below.refl w1.drew.heap.size w1.drew).alloc (Nat.le_refl _) (.cells #[.int .i64 m.ins.length,.int .i64 (n+1),.string s,.int .i64 0,.int .i64 0] 76)
 have hnn:=heap_alloc_new w1.drew (.cells #[.int .i64 m.ins.length,.int .i64 (n+1),.string s,.int .i64 0,.int .i64 0] 76)
 have HM3:=hid' (HM.out.drew.below hba)
 have HBX3:=hid' ((HBX.out.below (Below.refl _ w1).drew).below hba)
 have HOJ3:=hid' ((HOJ.out.below (Below.refl _ w1).drew).below hba)
 have hwo:∀ k,vw.ownBlock=some k→k≠w1.drew.heap.size:=fun k e=>by
  have:=(World.ownsRow.lt HM.out.drew.rw k e).2
  omega
 have HOW3:=hid' (Own1.newWait (HM.out.drew.below hba) hnn hwo)
 have HK3:=hid' (show KpG mb kb none w _ from(HKP.out.trans HM.out.kd (.inl rfl)).trans (kb':=kb) (KpG.of hba (Nat.le_of_lt HM.out.lt)) (.inl rfl))
 have HLT:=hid' (show B+1<w1.drew.heap.size∧mb<w1.drew.heap.size∧w.heap.size≤w1.drew.heap.size from⟨zac hF0.2,HM.out.lt,HB.out.size⟩)
 obtain⟨b2,hb2⟩:∃ b2,Hid (w1.drew.heap.size=b2):=⟨_,hid' rfl⟩
 rw[hb2.out] at HOW3 HLT ⊢
 clear hba hnn hwo hF0 HM HBX HOJ HKP
 generalize World.alloc w1.drew _=w3 at *
 have g3:=HOW3.out.2.1
 have d1:=zaa g3 1 _ rfl
 have f1:=frozen_of (o:=1) g3
 clear g3
 go_upto_if 24 with(fail)
 go_cut [24] (fun bb wx=>True∧Hid (MkAt mb sh m vw (.slice pi m.ins.length ci) vj kb wx∧Bx mb [(B+1,#[.int .i64 31,.int .i64 n,.string s,.slice (some ⟨cb,off,none⟩) 2 c],24)] wx∧Own1 mb 4 B #[.int .i64 j,.int .i64 31,.int .i64 n,.string s,.slice (some ⟨cb,off,none⟩) 2 c] 104 wx∧Own1 mb 1 b2 #[.int .i64 m.ins.length,.int .i64 (zck (n+1)),.string s,.int .i64 0,.int .i64 0] 76 wx∧KpG mb kb none w wx))
 case first=>
  by_cases hd:73048<n+1
  ·have gd:decide (73048<n+1)=true:=decide_eq_true hd
   have gd2:decide (73048≤n)=true:=decide_eq_true (by omega)
   have HD:=hid' (show zck (n+1)=0 from if_pos hd)
   go_wp2_with fail
   go_meet
   have gs:=grown_set w3 b2 1 (.int .i64 0)
   refine⟨trivial,HM3.out.otherW gs HOW3.out.2.1 HLT.out.2.1 (Own1.ne HM3.out HOW3.out),⟨fun x hx=>?_,HBX3.out.ok⟩,HOJ3.out.far gs (by have:=HLT.out.1; omega) (by have:=HLT.out.2.1; omega),?_,HK3.out.mine gs HLT.out.2.2 HMB.out⟩
   ·have e:=HBX3.out.at' x hx
    rw[List.mem_singleton] at hx
    subst hx
    exact box_grown gs (by show B+1≠b2; have:=HLT.out.1; omega) e
   ·have:=HOW3.out.set HLT.out.2.1 1 (.int .i64 0)
    rw[HD.out]
    exact this
  ·have gd:decide (73048<n+1)=false:=decide_eq_false hd
   have gd2:decide (73048≤n)=false:=decide_eq_false (by omega)
   have HD:=hid' (show zck (n+1)=n+1 from if_neg hd)
   go_wp2_with fail
   go_meet
   refine⟨trivial,HM3.out,HBX3.out,HOJ3.out,?_,HK3.out⟩
   rw[HD.out]
   exact HOW3.out
 case rest=>
 obtain⟨-,HS⟩:=hcut
 clear d1 f1 HM3 HBX3 HOJ3 HOW3 HK3
 have HM4:=hid' HS.out.1
 have HBX4:=hid' HS.out.2.1
 have HOJ4:=hid' HS.out.2.2.1
 have HOW4:=hid' HS.out.2.2.2.1
 have HK4:=hid' HS.out.2.2.2.2
 clear HS
 have hsz:=HSZ.out
 have fA:=((HF.out.lay (ix 21 0 0 n)).lay (ix 28 0 0 j)).fin
 obtain⟨A,hA⟩:∃ A,Hid (((m.lay (ix 21 0 0 n)).lay (ix 28 0 0 j)).fin=A):=⟨_,hid' rfl⟩
 have hlA:A.ins.length=m.ins.length+3:=by rw[←hA.out]; unfold Mk.fin; rw[zae,zae,zae]
 have hwA:A.ws=m.ws:=by rw[←hA.out]; rfl
 rw[hA.out] at fA
 have f4:=fA.lay (ix 21 0 0 n)
 have fC:=zav sh 200 a _ _ HX.out.1 f4
 have hpC:=(zoe sh 200 a (A.lay (ix 21 0 0 n))).2
 rw[zae] at hpC
 obtain⟨C,hC⟩:∃ C,Hid (con sh 200 a (A.lay (ix 21 0 0 n))=C):=⟨_,hid' rfl⟩
 rw[hC.out] at fC hpC
 have fB:=(fC.fin.here m.ins.length).here A.ins.length
 obtain⟨Bm,hBm⟩:∃ Bm,Hid ((C.fin.here m.ins.length).here A.ins.length=Bm):=⟨_,hid' rfl⟩
 rw[hBm.out] at fB
 have fD:=zav sh 200 b _ _ HX.out.2.1 fB.fresh
 obtain⟨D,hD⟩:∃ D,Hid (con sh 200 b Bm.fresh=D):=⟨_,hid' rfl⟩
 rw[hD.out] at fD
 have HE:=hid' (show pick sh j (T.mk 31 n s [a,b]) m=D.fin.setW j fun _=>⟨m.ins.length,zck (n+1),s,A.ins.length,Bm.ins.length⟩ by
  unfold pick
  simp only[kid0,kid1,T.n,T.s,hA.out,hC.out,hBm.out,hD.out])
 have hfl:=fC.len
 have hfd:=fD.len
 have hfb:=fB.len
 have HLN:=hid' (show m.ins.length≤700000∧A.ins.length=m.ins.length+3∧m.ins.length+4≤C.ins.length∧C.ins.length≤800000∧Bm.ins.length≤800000∧D.ins.length≤800000 by omega)
 have HF4:=hid' f4
 have HFB:=hid' fB.fresh
 clear fA f4 fC hpC fB fD hfl hfd hfb hlA hwA hsz
 have HJJ:=hid' (And.intro (show(0:Int)≤(j:Int) by omega) (show I64 (j:Int) by unfold I64; have:=HSZ.out; omega))
 have c1:=zaa (HBX4.out.at' _ (.head _)) 1 _ rfl
 have c2:=zaa (HBX4.out.at' _ (.head _)) 2 _ rfl
 have c3:=zaa (HBX4.out.at' _ (.head _)) 3 _ rfl
 have o0:=zaa HOJ4.out.2.1 0 _ rfl
 simp only at c1 c2 c3
 have HJP:=hid' (zcp mb kb sh (m) vw (.slice pi m.ins.length ci) vj (ix 21 0 0 n) wc HM4.out (by have:=HLN.out; omega))
 unfold ix txt0 at HJP
 go_wp2_with fail
 refine HJP.out.mono ?_
 rintro e w5 ⟨f5,rfl,⟨ja1,ja2,rfl,ja3⟩,hl5⟩
 have HBja:=hid' (show JumpFn mb w5 _ _ from⟨ja1,ja2,rfl,ja3⟩)
 have HBX5:=hid' (HBX4.out.kp hl5.kp (u:=[]) zag)
 have HOJ5:=hid' (HOJ4.out.kp hl5.kp)
 have HOW5:=hid' (HOW4.out.kp hl5.kp)
 obtain⟨vw5,vi5,vj5,kb5,m5,hk5⟩:=KpG.next ⟨.inl rfl,HK4.out⟩ hl5
 have HM5:=hid' m5
 have HK5:=hid' hk5
 clear hl5 m5 hk5 HM4 HK4 HBX4 HOJ4 HOW4 c1 c2 c3 o0 HJP
 have c1:=zaa (HBX5.out.at' _ (.head _)) 1 _ rfl
 have c2:=zaa (HBX5.out.at' _ (.head _)) 2 _ rfl
 have c3:=zaa (HBX5.out.at' _ (.head _)) 3 _ rfl
 have o0:=zaa HOJ5.out.2.1 0 _ rfl
 simp only at c1 c2 c3
 have HLY:=hid' (zdc mb kb5 sh (m.lay (ix 21 0 0 n)) vw5 vi5 vj5 (ix 28 0 0 j) w5 HM5.out (by rw[zae]; have:=HLN.out; omega))
 unfold ix txt0 at HLY
 go_wp2_with fail
 refine HLY.out.mono ?_
 rintro e w6 ⟨rfl,hl6⟩
 have HBX6:=hid' (HBX5.out.kp hl6.kp (u:=[]) zag)
 have HOJ6:=hid' (HOJ5.out.kp hl6.kp)
 have HOW6:=hid' (HOW5.out.kp hl6.kp)
 have HBja:=hid' (HBja.out.kp hl6.kp (fun u e=>by cases e))
 obtain⟨vw6,vi6,vj6,kb6,m6,hk6⟩:=KpG.next HK5.out hl6
 have HM6:=hid' m6
 have HK6:=hid' hk6
 clear hl6 m6 hk6 HM5 HK5 HBX5 HOJ5 HOW5 c1 c2 c3 o0 HLY
 have HLY:=hid' (zij mb kb6 sh ((m.lay (ix 21 0 0 n)).lay (ix 28 0 0 j)) vw6 vi6 vj6 w6 HM6.out (by rw[zae,zae]; have:=HLN.out; omega))
 go_wp2_with fail
 refine HLY.out.mono ?_
 rintro e w7 ⟨⟨r7,rfl⟩,hl7⟩
 have HBX7:=hid' (HBX6.out.kp hl7.kp (u:=[]) zag)
 have HOJ7:=hid' (HOJ6.out.kp hl7.kp)
 have HOW7:=hid' (HOW6.out.kp hl7.kp)
 have HBja:=hid' (HBja.out.kp hl7.kp (fun u e=>by cases e))
 obtain⟨vw7,vi7,vj7,kb7,m7,hk7⟩:=KpG.next HK6.out hl7
 have HM7:=hid' m7
 have HK7:=hid' hk7
 clear hl7 m7 hk7 HM6 HK6 HBX6 HOJ6 HOW6 HLY
 rw[hA.out] at HM7
 obtain⟨pi7,ci7,hvi7⟩:=zay HM7.out.ri
 subst hvi7
 have m2:=zaa HM7.out.box 2 _ rfl
 have q3:=zaa HOW7.out.2.1 3 _ rfl
 have fq:=frozen_of (o:=3) HOW7.out.2.1
 go_upto_region 9 with(fail)
 have gs:=grown_set w7 b2 3 (.int .i64 (A).ins.length)
 have HM8:=hid' (HM7.out.otherW gs HOW7.out.2.1 HLT.out.2.1 (Own1.ne HM7.out HOW7.out))
 have HBX8:=hid' (show Bx mb [(B+1,#[.int .i64 31,.int .i64 n,.string s,.slice (some ⟨cb,off,none⟩) 2 c],24)] (w7.setCell ⟨b2,3,none⟩ (.int .i64 (A).ins.length)) from⟨fun x hx=>by
  have e:=HBX7.out.at' x hx
  rw[List.mem_singleton] at hx
  subst hx
  exact box_grown gs (by show B+1≠b2; have:=HLT.out.1; omega) e,HBX7.out.ok⟩)
 have HOJ8:=hid' (HOJ7.out.far gs (by have:=HLT.out.1; omega) (by have:=HLT.out.2.1; omega))
 have HOW8:=hid' (HOW7.out.set HLT.out.2.1 3 (.int .i64 (A).ins.length))
 have HK8:=hid' (And.intro HK7.out.1 (HK7.out.2.mine gs HLT.out.2.2 HMB.out))
 have HBja:=hid' (show JumpFn mb (w7.setCell ⟨b2,3,none⟩ (.int .i64 (A).ins.length)) _ _ by
  obtain⟨x1,x2,e1,e2,e3,e4,e5⟩:=HBja.out
  have hne:∀(bq:Nat) (cur:Array Value) (tt:TypeId),w7.heap[bq]? = some (.cells cur tt (0,0))→tt≠76→bq≠b2:=fun bq cur tt e ht e6=>by subst e6; rw[HOW7.out.2.1] at e; simp at e; exact ht e.2.symm
  exact⟨x1,x2,e1,e2,e3,box_grown gs (hne _ _ _ e4 (by decide)) e4,box_grown gs (hne _ _ _ e5 (by decide)) e5⟩)
 clear gs m2 q3 fq HM7 HK7 HBX7 HOJ7 HOW7
 generalize World.setCell _ _ _=w8 at *
 have c1:=zaa (HBX8.out.at' _ (.head _)) 1 _ rfl
 have c2:=zaa (HBX8.out.at' _ (.head _)) 2 _ rfl
 have c3:=zaa (HBX8.out.at' _ (.head _)) 3 _ rfl
 have o0:=zaa HOJ8.out.2.1 0 _ rfl
 simp only at c1 c2 c3
 have HJP:=hid' (zcp mb kb7 sh (A) vw7 (.slice pi7 A.ins.length ci7) vj7 (ix 21 0 0 n) w8 HM8.out (by have:=HLN.out; omega))
 unfold ix txt0 at HJP
 go_wp2_with fail
 refine HJP.out.mono ?_
 rintro e w9 ⟨f9,rfl,⟨jb1,jb2,rfl,jb3⟩,hl9⟩
 have HBjb:=hid' (show JumpFn mb w9 _ _ from⟨jb1,jb2,rfl,jb3⟩)
 have HBX9:=hid' (HBX8.out.kp hl9.kp (u:=[]) zag)
 have HOJ9:=hid' (HOJ8.out.kp hl9.kp)
 have HOW9:=hid' (HOW8.out.kp hl9.kp)
 have HBja:=hid' (HBja.out.kp hl9.kp (fun u e=>by cases e))
 obtain⟨vw9,vi9,vj9,kb9,m9,hk9⟩:=KpG.next HK8.out hl9
 have HM9:=hid' m9
 have HK9:=hid' hk9
 clear hl9 m9 hk9 HM8 HK8 HBX8 HOJ8 HOW8 c1 c2 c3 o0 HJP
 have c1:=zaa (HBX9.out.at' _ (.head _)) 1 _ rfl
 have c2:=zaa (HBX9.out.at' _ (.head _)) 2 _ rfl
 have c3:=zaa (HBX9.out.at' _ (.head _)) 3 _ rfl
 have o0:=zaa HOJ9.out.2.1 0 _ rfl
 simp only at c1 c2 c3
 obtain⟨kop,kn,kst,pk,kl,ck,hvk,r0,r1,r2,r3⟩:=zcn (t:=.mk 31 n s [a,b]) (zaw HKR.out HK9.out.2.bel) (i:=0) HKI0.out
 simp only[Nat.zero_mul,Nat.add_zero,Nat.one_mul,Nat.reduceMul] at r0 r1 r2 r3
 have HCC:=hid' (zhr sh 200 a (A.lay (ix 21 0 0 n)) _ mb kb9 vw9 vi9 vj9 _ w9 HX.out.1 HX.out.2.2.1 hvk HM9.out HF4.out (by have:=HSZ.out; omega))
 rw[hC.out] at HCC
 clear hvk
 go_wp2_with fail
 refine HCC.out.mono ?_
 rintro e w10 ⟨⟨r10,rfl⟩,hl10⟩
 have HBX10:=hid' (HBX9.out.kp hl10.kp (u:=[]) zag)
 have HOJ10:=hid' (HOJ9.out.kp hl10.kp)
 have HOW10:=hid' (HOW9.out.kp hl10.kp)
 have HBja:=hid' (HBja.out.kp hl10.kp (fun u e=>by cases e))
 have HBjb:=hid' (HBjb.out.kp hl10.kp (fun u e=>by cases e))
 obtain⟨vw10,vi10,vj10,kb10,m10,hk10⟩:=KpG.next HK9.out hl10
 have HM10:=hid' m10
 have HK10:=hid' hk10
 clear hl10 m10 hk10 HM9 HK9 HBX9 HOJ9 HOW9 c1 c2 c3 o0 HCC r0 r1 r2 r3
 have HLY:=hid' (zij mb kb10 sh (C) vw10 vi10 vj10 w10 HM10.out (by have:=HLN.out; omega))
 go_wp2_with fail
 refine HLY.out.mono ?_
 rintro e w11 ⟨⟨r11,rfl⟩,hl11⟩
 have HBX11:=hid' (HBX10.out.kp hl11.kp (u:=[]) zag)
 have HOJ11:=hid' (HOJ10.out.kp hl11.kp)
 have HOW11:=hid' (HOW10.out.kp hl11.kp)
 have HBja:=hid' (HBja.out.kp hl11.kp (fun u e=>by cases e))
 have HBjb:=hid' (HBjb.out.kp hl11.kp (fun u e=>by cases e))
 obtain⟨vw11,vi11,vj11,kb11,m11,hk11⟩:=KpG.next HK10.out hl11
 have HM11:=hid' m11
 have HK11:=hid' hk11
 clear hl11 m11 hk11 HM10 HK10 HBX10 HOJ10 HOW10 HLY
 obtain⟨x1,x2,hxe, -, -,hx1,hx2⟩:=HBja.out
 simp only[Value.func.injEq,Array.mk.injEq,List.cons.injEq,Value.pointer.injEq,Option.some.injEq,Addr.mk.injEq,and_true,true_and] at hxe
 obtain⟨rfl,rfl⟩:=hxe
 have HHR:=hid' (zdw mb kb11 sh (C.fin) vw11 vi11 vj11 (m.ins.length) ja1 ja2 w11 HM11.out (by unfold Mk.fin; rw[zae]; have:=HLN.out; omega) (by unfold Mk.fin; rw[zae]; have:=HLN.out; omega) hx1 hx2)
 clear hx1 hx2
 go_wp2_with fail
 refine HHR.out.mono ?_
 rintro e w12 ⟨⟨r12,rfl⟩,hl12⟩
 have HBX12:=hid' (HBX11.out.kp hl12.kp (u:=[]) zag)
 have HOJ12:=hid' (HOJ11.out.kp hl12.kp)
 have HOW12:=hid' (HOW11.out.kp hl12.kp)
 have HBjb:=hid' (HBjb.out.kp hl12.kp (fun u e=>by cases e))
 obtain⟨vw12,vi12,vj12,kb12,m12,hk12⟩:=KpG.next HK11.out hl12
 have HM12:=hid' m12
 have HK12:=hid' hk12
 clear hl12 m12 hk12 HM11 HK11 HBX11 HOJ11 HOW11 HHR
 obtain⟨x1,x2,hxe, -, -,hx1,hx2⟩:=HBjb.out
 simp only[Value.func.injEq,Array.mk.injEq,List.cons.injEq,Value.pointer.injEq,Option.some.injEq,Addr.mk.injEq,and_true,true_and] at hxe
 obtain⟨rfl,rfl⟩:=hxe
 have HHR:=hid' (zdw mb kb12 sh (C.fin.here m.ins.length) vw12 vi12 vj12 (A.ins.length) jb1 jb2 w12 HM12.out (by unfold Mk.fin; rw[zaf,zae]; have:=HLN.out; omega) (by unfold Mk.fin; rw[zaf,zae]; have:=HLN.out; omega) hx1 hx2)
 clear hx1 hx2
 go_wp2_with fail
 refine HHR.out.mono ?_
 rintro e w13 ⟨⟨r13,rfl⟩,hl13⟩
 have HBX13:=hid' (HBX12.out.kp hl13.kp (u:=[]) zag)
 have HOJ13:=hid' (HOJ12.out.kp hl13.kp)
 have HOW13:=hid' (HOW12.out.kp hl13.kp)
 obtain⟨vw13,vi13,vj13,kb13,m13,hk13⟩:=KpG.next HK12.out hl13
 have HM13:=hid' m13
 have HK13:=hid' hk13
 clear hl13 m13 hk13 HM12 HK12 HBX12 HOJ12 HOW12 HHR
 rw[hBm.out] at HM13
 obtain⟨pi13,ci13,hvi13⟩:=zay HM13.out.ri
 subst hvi13
 have m2:=zaa HM13.out.box 2 _ rfl
 have q3:=zaa HOW13.out.2.1 4 _ rfl
 have fq:=frozen_of (o:=4) HOW13.out.2.1
 go_upto_region 15 with(fail)
 have gs:=grown_set w13 b2 4 (.int .i64 (Bm).ins.length)
 have HM14:=hid' (HM13.out.otherW gs HOW13.out.2.1 HLT.out.2.1 (Own1.ne HM13.out HOW13.out))
 have HBX14:=hid' (show Bx mb [(B+1,#[.int .i64 31,.int .i64 n,.string s,.slice (some ⟨cb,off,none⟩) 2 c],24)] (w13.setCell ⟨b2,4,none⟩ (.int .i64 (Bm).ins.length)) from⟨fun x hx=>by
  have e:=HBX13.out.at' x hx
  rw[List.mem_singleton] at hx
  subst hx
  exact box_grown gs (by show B+1≠b2; have:=HLT.out.1; omega) e,HBX13.out.ok⟩)
 have HOJ14:=hid' (HOJ13.out.far gs (by have:=HLT.out.1; omega) (by have:=HLT.out.2.1; omega))
 have HOW14:=hid' (HOW13.out.set HLT.out.2.1 4 (.int .i64 (Bm).ins.length))
 have HK14:=hid' (And.intro HK13.out.1 (HK13.out.2.mine gs HLT.out.2.2 HMB.out))
 clear gs m2 q3 fq HM13 HK13 HBX13 HOJ13 HOW13
 generalize World.setCell _ _ _=w14 at *
 have hmm:=@run_makeMap Tryz.prog
 have BM:=(Below.refl w14.heap.size w14).alloc (Nat.le_refl _) (.map #[] 0)
 have hMA:=HM14.out.below BM
 have s1:=heap_setCell_same (w14.alloc (.map #[] 0)) mb 5 _ _ (.int .i64 0) hMA.box
 have fz5:=frozen_of (o:=5) hMA.box
 have fz6:=frozen_of (o:=6) s1
 have m5:=zaa hMA.box 5 _ rfl
 have m6:=zaa s1 6 _ rfl
 have p1:=hMA.parts (m':={ Bm with next:=0 }) 5 (.int .i64 0) rfl rfl rfl rfl rfl rfl
 have kn2:=(Kn.made w14).kept (grown_set (w14.alloc (.map #[] 0)) mb 5 (.int .i64 0)) (fun e=>by have:=HM14.out.lt; cases e; omega)
 have HM15:=hid' (MkAt.reset (m':=Bm.fresh) (kb':=w14.heap.size) 6 (.map (some w14.heap.size)) p1.1.box rfl p1.1.rw p1.1.ri p1.1.rj ⟨0,Nat.zero_le _,kn2⟩ HM14.out.lt)
 have kp15:=((KpG.of (mb:=mb) (kb:=kb13) (ub:=none) BM (Nat.le_of_lt HM14.out.lt)).trans p1.2 (.inl rfl)).trans (zmh (kb:=kb13) (ub:=none) 6 (.map (some w14.heap.size)) p1.1.box (by rintro _ (rfl|rfl)<;>rfl)) (.inl rfl)
 have HBX15:=hid' (HBX14.out.kp kp15 (u:=[]) zag)
 have HOJ15:=hid' (HOJ14.out.kp kp15)
 have HOW15:=hid' (HOW14.out.kp kp15)
 have HK15:=hid' (show(w14.heap.size=kb∨w.heap.size≤w14.heap.size)∧KpG mb kb none w _ from⟨.inr HK14.out.2.bel.size,HK14.out.2.trans kp15 HK14.out.1⟩)
 clear p1 kn2 kp15 hMA BM
 go_upto_region 16 with(fail)
 clear m5 m6 s1 fz5 fz6 hmm HM14 HBX14 HOJ14 HOW14 HK14
 generalize World.setCell _ _ _=w15 at *
 have c1:=zaa (HBX15.out.at' _ (.head _)) 1 _ rfl
 have c2:=zaa (HBX15.out.at' _ (.head _)) 2 _ rfl
 have c3:=zaa (HBX15.out.at' _ (.head _)) 3 _ rfl
 have o0:=zaa HOJ15.out.2.1 0 _ rfl
 simp only at c1 c2 c3
 obtain⟨kop,kn,kst,pk,kl,ck,hvk,r0,r1,r2,r3⟩:=zcn (t:=.mk 31 n s [a,b]) (zaw HKR.out HK15.out.2.bel) (i:=1) HKI1.out
 simp only[Nat.zero_mul,Nat.add_zero,Nat.one_mul,Nat.reduceMul] at r0 r1 r2 r3
 have HCC:=hid' (zhr sh 200 b (Bm.fresh) _ mb w14.heap.size vw13 (.slice pi13 Bm.ins.length ci13) vj13 _ w15 HX.out.2.1 HX.out.2.2.2 hvk HM15.out HFB.out (by have:=HSZ.out; omega))
 rw[hD.out] at HCC
 clear hvk
 go_wp2_with fail
 refine HCC.out.mono ?_
 rintro e w16 ⟨⟨r16,rfl⟩,hl16⟩
 have HBX16:=hid' (HBX15.out.kp hl16.kp (u:=[]) zag)
 have HOJ16:=hid' (HOJ15.out.kp hl16.kp)
 have HOW16:=hid' (HOW15.out.kp hl16.kp)
 obtain⟨vw16,vi16,vj16,kb16,m16,hk16⟩:=KpG.next HK15.out hl16
 have HM16:=hid' m16
 have HK16:=hid' hk16
 clear hl16 m16 hk16 HM15 HK15 HBX15 HOJ15 HOW15 c1 c2 c3 o0 HCC r0 r1 r2 r3
 have HLY:=hid' (zij mb kb16 sh (D) vw16 vi16 vj16 w16 HM16.out (by have:=HLN.out; omega))
 go_wp2_with fail
 refine HLY.out.mono ?_
 rintro e w17 ⟨⟨r17,rfl⟩,hl17⟩
 have HBX17:=hid' (HBX16.out.kp hl17.kp (u:=[]) zag)
 have HOJ17:=hid' (HOJ16.out.kp hl17.kp)
 have HOW17:=hid' (HOW16.out.kp hl17.kp)
 obtain⟨vw17,vi17,vj17,kb17,m17,hk17⟩:=KpG.next HK16.out hl17
 have HM17:=hid' m17
 have HK17:=hid' hk17
 clear hl17 m17 hk17 HM16 HK16 HBX16 HOJ16 HOW16 HLY
 have hwl:j<D.fin.ws.length:=by
  have h1:=(zhq sh 200 b Bm.fresh).1
  rw[hD.out] at h1
  have h2:=(zhq sh 200 a (A.lay (ix 21 0 0 n))).1
  rw[hC.out] at h2
  have h3:Bm.ws.length=C.ws.length:=by rw[←hBm.out]; rfl
  have h4:A.ws.length=m.ws.length:=by rw[←hA.out]; rfl
  have h5:=HSZ.out.2.2.2.2
  have h6:(A.lay (ix 21 0 0 n)).ws.length=A.ws.length:=rfl
  have h7:Bm.fresh.ws.length=Bm.ws.length:=rfl
  have h8:D.fin.ws.length=D.ws.length:=rfl
  omega
 obtain⟨x,hx⟩:∃ x,D.fin.ws[j]? = some x:=⟨_,List.getElem?_eq_getElem hwl⟩
 obtain⟨g,cw,hvw,hg,hmg,hwc,hwf⟩:=HM17.out.wcell hx
 have q0:w17.cell? ⟨g,j * 5,none⟩=some (.int .i64 x.entry):=hwc 0 _ rfl
 have q1:=hwc 1 _ rfl
 have q2:=hwc 2 _ rfl
 have q3:=hwc 3 _ rfl
 have q4:=hwc 4 _ rfl
 have z0:=hwf (j * 5)
 have z1:=hwf (j * 5+1)
 have z2:=hwf (j * 5+2)
 have z3:=hwf (j * 5+3)
 have z4:=hwf (j * 5+4)
 have u0:=zaa HOW17.out.2.1 0 _ rfl
 have u1:=zaa HOW17.out.2.1 1 _ rfl
 have u2:=zaa HOW17.out.2.1 2 _ rfl
 have u3:=zaa HOW17.out.2.1 3 _ rfl
 have u4:=zaa HOW17.out.2.1 4 _ rfl
 have o0:=zaa HOJ17.out.2.1 0 _ rfl
 have hmb1:=zaa HM17.out.box 1 _ rfl
 have HFN:=hid' (MkAt.setAll (y:=⟨m.ins.length,zck (n+1),s,A.ins.length,Bm.ins.length⟩) HM17.out.drew hx hg)
 have HKD:=hid' (And.intro HK17.out.1 (HK17.out.2.trans HM17.out.kd HK17.out.1))
 subst hvw
 have j1:(0:Int)≤(j:Int):=by omega
 have j2:(j:Int)<(D.fin.ws.length:Int):=by omega
 obtain⟨lw,hlw⟩:∃ lw,Hid (D.fin.ws.length=lw):=⟨_,hid' rfl⟩
 rw[hlw.out] at hmb1 j2
 clear hwc hwf hx hwl hg hmg HM17 HBX17 HOJ17 HOW17 HK17
 go_upto_region 18 with(fail)
 go_still_tail 9,(by kernel_rfl)
 change wpList _ _ _ _ _ w17.drew
 replace q0:w17.drew.cell? ⟨g,j * 5,none⟩=some (.int .i64 x.entry):=q0
 replace q1:w17.drew.cell? ⟨g,j * 5+1,none⟩=some (.int .i64 x.day):=q1
 replace q2:w17.drew.cell? ⟨g,j * 5+2,none⟩=some (.string x.label):=q2
 replace q3:w17.drew.cell? ⟨g,j * 5+3,none⟩=some (.int .i64 x.first):=q3
 replace q4:w17.drew.cell? ⟨g,j * 5+4,none⟩=some (.int .i64 x.second):=q4
 replace z0:w17.drew.frozen? ⟨g,j * 5,none⟩=false:=z0
 replace z1:w17.drew.frozen? ⟨g,j * 5+1,none⟩=false:=z1
 replace z2:w17.drew.frozen? ⟨g,j * 5+2,none⟩=false:=z2
 replace z3:w17.drew.frozen? ⟨g,j * 5+3,none⟩=false:=z3
 replace z4:w17.drew.frozen? ⟨g,j * 5+4,none⟩=false:=z4
 clear u0 u1 u2 u3 u4 o0 hmb1
 generalize w17.drew=wd at *
 go_wp2_with fail
 refine bodyPost_end (results_none rfl _ _ _) rfl ?_
 rw[HE.out]
 exact⟨⟨_,rfl⟩,⟨⟨_,_,_,_,HFN.out.1,HKD.out.1⟩,HKD.out.2.trans HFN.out.2 HKD.out.1⟩⟩
end Gf
end
end Go.Proofs.YtanlmbbalamgkaaGreatDoor

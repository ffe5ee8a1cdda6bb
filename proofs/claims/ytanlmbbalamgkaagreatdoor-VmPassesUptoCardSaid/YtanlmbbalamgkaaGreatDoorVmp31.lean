/- Proved: lemmas and contracts of the functions that the law reaches, part 31 of 35: GfInto, GfChoose, GfObs, GfEither, GfCon, GfPick. Conditions: as each states. -/
import Derived.Test.YtanlmbbalamgkaaGreatDoorVmp24
import Derived.Test.YtanlmbbalamgkaaGreatDoorVmp30
namespace Go.Proofs.YtanlmbbalamgkaaGreatDoor
set_option linter.unusedVariables false
set_option linter.unusedSimpArgs false
section
open Go.RowKit
open Rw
set_option maxRecDepth 100000
namespace Gf
open Co Dn
def okT (t:TypeId):Bool:=t != 1 && t != 141 && t != 73 && t != 76 && t != 104
structure Bx (mb:Nat)(l:List (Nat × Array Value × TypeId))(W:World):Prop where
 at':∀ x∈l,W.heap[x.1]? = some (.cells x.2.1 x.2.2 (0,0))
 ok:∀ x∈l,mb<x.1∧okT x.2.2=true
theorem Bx.below {mb:Nat}{l:List (Nat × Array Value × TypeId)}{W W':World}(h:Bx mb l W)(b:Below W.heap.size W W'):Bx mb l W':=⟨fun x hx=>ag b (h.at' x hx),h.ok⟩
theorem Bx.kp {mb kb:Nat}{ub:Option Nat}{u:List Nat}{l:List (Nat × Array Value × TypeId)}{W W':World}(h:Bx mb l W)(k:KpG mb kb ub W W')(hu:UnkO mb ub u W):Bx mb l W':=by
 refine⟨fun x hx=>?_,h.ok⟩;have e:=h.at' x hx;obtain⟨h1,h2⟩:=h.ok x hx;unfold okT at h2;simp only[Bool.and_eq_true,bne_iff_ne,ne_eq] at h2;obtain⟨⟨⟨⟨t1,t2⟩,t3⟩,t4⟩,t5⟩:=h2;refine k.box (by omega) (fun b hb=>⟨?_,t1⟩) t3 t4 t5 e;rintro rfl;obtain⟨cur,e2⟩:=hu.box _ hb;rw[e] at e2;simp at e2;exact t2 e2.2
theorem Bx.cons {mb:Nat}{l:List (Nat × Array Value × TypeId)}{W:World}{b:Nat}{c:Array Value}{t:TypeId}(h:Bx mb l W)(e:W.heap[b]? = some (.cells c t (0,0)))(hb:mb<b)(ht:okT t=true):Bx mb ((b,c,t)::l) W:=
 ⟨fun x hx=>by
  rcases List.mem_cons.1 hx with rfl|hx
  ·exact e
  ·exact h.at' x hx,fun x hx=>by
  rcases List.mem_cons.1 hx with rfl|hx
  ·exact⟨hb,ht⟩
  ·exact h.ok x hx⟩
theorem Bx.nil (mb:Nat)(W:World):Bx mb [] W:=⟨fun x hx=>(by cases hx),fun x hx=>(by cases hx)⟩
theorem Bx.sub {mb:Nat}{l l':List (Nat × Array Value × TypeId)}{W:World}(h:Bx mb l W)(hs:∀ x∈l',x∈l):Bx mb l' W:=⟨fun x hx=>h.at' x (hs x hx),fun x hx=>h.ok x (hs x hx)⟩
def tp (sh:Bool)(d:Nat):Prop:=∀(t:T) (m:Mk) (u:List Nat) (k mb kb:Nat) (ub:Option Nat) (vw vi vj v:Value) (w:World),Obs t→t.depth≤d→CoreAt mb w t v→MkAt mb sh m vw vi vj kb w→UnkO mb ub u w →
 (ub=none→cr t=false)→Fit k m→k+8 * t.size≤700000→u.length+8 * t.size≤700000 →
 Calls Tryz.prog 104 #[.pointer (some ⟨mb,0,none⟩),v,my ub] w (zsh mb kb ub sh (obs sh d t m u) w)
set_option maxHeartbeats 4000000 in
theorem uw {sh:Bool}{d:Nat}(HO:tp sh d)(t:T)(m:Mk)(u:List Nat)(k mb kb:Nat)(ub:Option Nat)(vw vi vj v:Value)(w:World)(b0 b2 b3:Nat)(out:Int)(ht:Obs t)(hd:t.depth≤d)(hv:CoreAt mb w t v)(hm:MkAt mb sh m vw vi vj kb w)
  (hu:UnkO mb ub u w) (B5:ub=none→cr t=false) (hf:Fit k m) (hk:k+8 * t.size≤700000) (A9:u.length+8 * t.size≤700000) (ho:0≤out∧out≤700000)
  (C1:Bx mb [(b0,#[.pointer (some ⟨mb,0,none⟩)],62),(b2,#[my ub],143),(b3,#[.int .i64 out],3)] w):
  Calls Tryz.prog 166 #[v,.pointer (some ⟨b0,0,none⟩),.pointer (some ⟨b2,0,none⟩),.pointer (some ⟨b3,0,none⟩)] w (Does mb kb ub sh (aj sh out (obs sh d t m u)).1 (aj sh out (obs sh d t m u)).2 w):=by
 have C6:=aa (co sh d t m u k ht hf);have A5:=aa (fun W (b:Below w.heap.size w W)=>HO t m u k mb kb ub vw vi vj v W ht hd (hv.kept (b.mono (Nat.le_of_lt hm.lt)) (Nat.le_refl _)) (hm.below b) (hu.below b) B5 hf hk A9);obtain⟨q,c,rfl, -⟩:=hv.open;have B0:=(Below.refl w.heap.size w).alloc (Nat.le_refl _) (.cells #[.int .i64 t.op,.int .i64 t.n,.string t.s,.slice q t.ks.length c] 24);have HC:=aa (heap_alloc_new w (.cells #[.int .i64 t.op,.int .i64 t.n,.string t.s,.slice q t.ks.length c] 24));have HB:=aa B0;have A1:=aa (C1.below B0);have HU:=aa (hu.below B0);have C5:=aa (KpG.of (mb:=mb) (kb:=kb) (ub:=ub) B0 (Nat.le_of_lt hm.lt));have HK:=aa (And.intro hk (And.intro A9 ho));obtain⟨op,B7⟩:∃ x,Hid (t.op=x):=⟨_,aa rfl⟩
 obtain⟨n,hn⟩:∃ x,Hid (t.n=x):=⟨_,aa rfl⟩
 obtain⟨s,hs⟩:∃ x,Hid (t.s=x):=⟨_,aa rfl⟩
 obtain⟨ln,B8⟩:∃ x,Hid (t.ks.length=x):=⟨_,aa rfl⟩
 rw[B7.out,hn.out,hs.out,B8.out] at HC A5 ⊢;rw[B7.out,hn.out,hs.out,B8.out] at HB A1 HU C5;obtain⟨up,D3⟩:∃ up,Hid (my ub=up):=⟨_,aa rfl⟩
 rw[D3.out] at A5 A1;obtain⟨O,hO⟩:∃ O,Hid (obs sh d t m u=O):=⟨_,aa rfl⟩
 rw[hO.out] at C6 A5 ⊢;clear B0 C1 hu hv hm hk A9 ho hf B5 ht hd HO;go_enter Tryz.func166,Tryz.ntmps166;go_upto_region 1 with(fail)
 generalize D2:World.alloc _ _=w1 at *;have C7:=aa (A5.out w1 HB.out);have e0:=ab (A1.out.at' _ (.head _)) 0 _ rfl;have e2:=ab (A1.out.at' _ (.tail _ (.head _))) 0 _ rfl;have e3:=ab (A1.out.at' _ (.tail _ (.tail _ (.head _)))) 0 _ rfl;simp only at e0 e2 e3;have c0:=ab HC.out 0 _ rfl;have c1:=ab HC.out 1 _ rfl;have c2:=ab HC.out 2 _ rfl;have c3:=ab HC.out 3 _ rfl;clear D2 A5;go_wp2_with fail
 refine C7.out.mono ?_;rintro e w2 ⟨rfl,A7,B6⟩;have C4:=aa A7;have D4:=aa B6;have A0:=aa (A1.out.kp A7.kp HU.out);obtain⟨C8,D0,C9,D1,M2,C0⟩:=A7.at';have C3:=aa (And.intro M2 C0);have B1:=C6.out.m.len;have A8:=HK.out.1;have B2:=aa (ir mb D1 sh O.2.1 C8 D0 C9 (ix 18 out O.1 0) w2 M2 (by omega));unfold ix txt0 at B2;clear e0 e2 e3 c0 c1 c2 c3 A7 B6 M2 C0 B1 A8 C7;have e0:=ab (A0.out.at' _ (.head _)) 0 _ rfl;have e3:=ab (A0.out.at' _ (.tail _ (.tail _ (.head _)))) 0 _ rfl;simp only at e0 e3;go_wp2_with fail
 refine B2.out.mono ?_;rintro e w3 ⟨rfl,A2⟩;have C2:=aa (D4.out.kp A2.kp);have A6:=aa (A0.out.kp A2.kp (u:=[]) (am));obtain⟨D5,D7,D6,B4,M3,B9⟩:=A2.at';have A3:=aa M3;have A8:B4=kb∨w.heap.size≤B4:=by
  rcases B9 with rfl|h
  ·exact C3.out.2.imp id fun h=>Nat.le_trans HB.out.size h
  ·exact .inr (Nat.le_trans (Nat.le_trans HB.out.size C4.out.kp.bel.size) h)
 have B3:=aa A8;have A4:=aa ((C5.out.trans C4.out.kp (.inl rfl)).trans A2.kp.wk (C3.out.2.imp id fun h=>Nat.le_trans HB.out.size h));clear e0 e3 A2 M3 B9 A8 B2;have e0:=ab (A6.out.at' _ (.head _)) 0 _ rfl;have e3:=ab (A6.out.at' _ (.tail _ (.tail _ (.head _)))) 0 _ rfl;have m3:=ab A3.out.box 3 _ rfl;simp only at e0 e3;cases sh with
 |true=>
  go_wp2_with fail
  refine bodyPost_end (results_none rfl _ _ _) rfl ?_;exact⟨⟨_,rfl⟩,⟨⟨_,_,_,_,A3.out,B3.out⟩,A4.out⟩,C2.out⟩
 |false=>
  have m5:=ab A3.out.box 5 _ rfl;have f5:=frozen_of (o:=5) A3.out.box;have hw:IntKind.i64.wrap (out+1)=out+1:=IntWalk.i64_in _ (by have:=HK.out.2.2; omega);have HF:=aa (A3.out.parts (m':={ O.2.1.lay (ix 18 out O.1 0) with next:=out+1 }) 5 (.int .i64 (out+1)) rfl rfl rfl rfl rfl rfl);go_wp2_with fail
  refine bodyPost_end (results_none rfl _ _ _) rfl ?_;exact⟨⟨_,rfl⟩,⟨⟨_,_,_,_,HF.out.1,B3.out⟩,A4.out.trans HF.out.2.wk B3.out⟩,C2.out.kp HF.out.2⟩
set_option maxHeartbeats 4000000 in
theorem zuo {sh:Bool}{d:Nat}(HO:tp sh d)(t a:T)(m:Mk)(u:List Nat)(k mb kb:Nat)(ub:Option Nat)(vw vi vj:Value)(w:World)(b0 b1 b2 b3 b4:Nat)(out:Int)(cs:Array Value)(A1:t.ks[1]? = some a)(ha:Obs a)(hd:a.depth≤d)(hv:CoreAt mb w t (.agg cs))(hm:MkAt mb sh m vw vi vj kb w)
  (hu:UnkO mb ub u w) (A5:ub=none→cr a=false) (hf:Fit k m) (hk:k+8 * a.size≤700000) (A4:u.length+8 * a.size≤700000) (ho:0≤out∧out≤700000)
  (A0:Bx mb [(b0,#[.pointer (some ⟨mb,0,none⟩)],62),(b2,#[my ub],143),(b3,#[.int .i64 out],3),(b1,cs,24),(b4,#[.func (.func 166) #[] #[.pointer (some ⟨b0,0,none⟩),.pointer (some ⟨b2,0,none⟩),.pointer (some ⟨b3,0,none⟩)]],102)] w):
  Calls Tryz.prog 167 #[.pointer (some ⟨b4,0,none⟩),.pointer (some ⟨b1,0,none⟩)] w (Does mb kb ub sh (aj sh out (obs sh d a m u)).1 (aj sh out (obs sh d a m u)).2 w):=by
 obtain⟨q,c,A3,B0, -, -, -,A8⟩:=hv.open;simp only[Value.agg.injEq] at A3;subst A3;obtain⟨b,off,kop,kn,kst,pk,kl,ck,rfl,B2,A2,r0,r1,r2,r3⟩:=dz A8 A1;have HI:=aa (uw HO a m u k mb kb ub vw vi vj _ w.drew b0 b2 b3 out ha hd (A2.kept ((Below.refl mb w).drew) (Nat.le_refl _)) hm.drew (hu.below (Below.refl _ w).drew) A5 hf hk A4 ho ((A0.below (Below.refl _ w).drew).sub (fun x hx=>by
  simp only[List.mem_cons,List.not_mem_nil,or_false] at hx ⊢;rcases hx with rfl|rfl|rfl
  ·exact .inl rfl
  ·exact .inr (.inl rfl)
  ·exact .inr (.inr (.inl rfl)))))
 have B1:=aa (hm.kd (ub:=ub));have e1:=ab (A0.at' _ (.tail _ (.tail _ (.tail _ (.head _))))) 3 _ rfl;have e4:=ab (A0.at' _ (.tail _ (.tail _ (.tail _ (.tail _ (.head _)))))) 0 _ rfl;simp only at e1 e4;have j2:(1:Int)<(t.ks.length:Int):=by
  have:=(List.getElem?_eq_some_iff.1 A1).1;omega
 obtain⟨ln,A9⟩:∃ x,Hid (t.ks.length=x):=⟨_,aa rfl⟩
 rw[A9.out] at e1 j2;simp only[Nat.one_mul,Nat.reduceMul] at r0 r1 r2 r3;obtain⟨O,hO⟩:∃ O,Hid (aj sh out (obs sh d a m u)=O):=⟨_,aa rfl⟩
 rw[hO.out] at HI ⊢;clear A0 hu hv hm hk A4 ho hf A5 ha hd HO A8 A1 A2 B0;go_enter Tryz.func167,Tryz.ntmps167;go_still_tail 5,(by kernel_rfl)
 change wpList _ _ _ _ _ w.drew
 go_wp2_with fail
 refine HI.out.mono ?_;rintro e w2 ⟨⟨r,rfl⟩,A7,A6⟩;have HF:=aa (And.intro A7 A6);clear A7 A6;go_wp2_with fail
 refine bodyPost_end (results_none rfl _ _ _) rfl ?_;exact⟨⟨_,rfl⟩,KpG.then B1.out (.inl rfl) HF.out.1,HF.out.2⟩
set_option maxHeartbeats 4000000 in
theorem zun {sh:Bool}{d:Nat}(HO:tp sh d)(t a:T)(m:Mk)(u:List Nat)(k mb kb:Nat)(ub:Option Nat)(vw vi vj:Value)(w:World)(b0 b1 b2 b3 b4:Nat)(out:Int)(cs:Array Value)(A1:t.ks[1]? = some a)(ha:Obs a)(hd:a.depth≤d)(hv:CoreAt mb w t (.agg cs))(hm:MkAt mb sh m vw vi vj kb w)
  (hu:UnkO mb ub u w) (A5:ub=none→cr a=false) (hf:Fit k m) (hk:k+8 * a.size≤700000) (A4:u.length+8 * a.size≤700000) (ho:0≤out∧out≤700000)
  (A0:Bx mb [(b0,#[.pointer (some ⟨mb,0,none⟩)],62),(b2,#[my ub],143),(b3,#[.int .i64 out],3),(b1,cs,24),(b4,#[.func (.func 166) #[] #[.pointer (some ⟨b0,0,none⟩),.pointer (some ⟨b2,0,none⟩),.pointer (some ⟨b3,0,none⟩)]],102)] w):
  Calls Tryz.prog 168 #[.pointer (some ⟨b4,0,none⟩),.pointer (some ⟨b1,0,none⟩)] w (Does mb kb ub sh (aj sh out (obs sh d a m u)).1 (aj sh out (obs sh d a m u)).2 w):=by
 obtain⟨q,c,A3,B0, -, -, -,A8⟩:=hv.open;simp only[Value.agg.injEq] at A3;subst A3;obtain⟨b,off,kop,kn,kst,pk,kl,ck,rfl,B2,A2,r0,r1,r2,r3⟩:=dz A8 A1;have HI:=aa (uw HO a m u k mb kb ub vw vi vj _ w.drew b0 b2 b3 out ha hd (A2.kept ((Below.refl mb w).drew) (Nat.le_refl _)) hm.drew (hu.below (Below.refl _ w).drew) A5 hf hk A4 ho ((A0.below (Below.refl _ w).drew).sub (fun x hx=>by
  simp only[List.mem_cons,List.not_mem_nil,or_false] at hx ⊢;rcases hx with rfl|rfl|rfl
  ·exact .inl rfl
  ·exact .inr (.inl rfl)
  ·exact .inr (.inr (.inl rfl)))))
 have B1:=aa (hm.kd (ub:=ub));have e1:=ab (A0.at' _ (.tail _ (.tail _ (.tail _ (.head _))))) 3 _ rfl;have e4:=ab (A0.at' _ (.tail _ (.tail _ (.tail _ (.tail _ (.head _)))))) 0 _ rfl;simp only at e1 e4;have j2:(1:Int)<(t.ks.length:Int):=by
  have:=(List.getElem?_eq_some_iff.1 A1).1;omega
 obtain⟨ln,A9⟩:∃ x,Hid (t.ks.length=x):=⟨_,aa rfl⟩
 rw[A9.out] at e1 j2;simp only[Nat.one_mul,Nat.reduceMul] at r0 r1 r2 r3;obtain⟨O,hO⟩:∃ O,Hid (aj sh out (obs sh d a m u)=O):=⟨_,aa rfl⟩
 rw[hO.out] at HI ⊢;clear A0 hu hv hm hk A4 ho hf A5 ha hd HO A8 A1 A2 B0;go_enter Tryz.func168,Tryz.ntmps168;go_still_tail 5,(by kernel_rfl)
 change wpList _ _ _ _ _ w.drew
 go_wp2_with fail
 refine HI.out.mono ?_;rintro e w2 ⟨⟨r,rfl⟩,A7,A6⟩;have HF:=aa (And.intro A7 A6);clear A7 A6;go_wp2_with fail
 refine bodyPost_end (results_none rfl _ _ _) rfl ?_;exact⟨⟨_,rfl⟩,KpG.then B1.out (.inl rfl) HF.out.1,HF.out.2⟩
set_option maxHeartbeats 4000000 in
theorem zum {sh:Bool}{d:Nat}(HO:tp sh d)(t a:T)(m:Mk)(u:List Nat)(k mb kb:Nat)(ub:Option Nat)(vw vi vj:Value)(w:World)(b0 b1 b2 b3 b4:Nat)(out:Int)(cs:Array Value)(A1:t.ks[1]? = some a)(ha:Obs a)(hd:a.depth≤d)(hv:CoreAt mb w t (.agg cs))(hm:MkAt mb sh m vw vi vj kb w)
  (hu:UnkO mb ub u w) (A5:ub=none→cr a=false) (hf:Fit k m) (hk:k+8 * a.size≤700000) (A4:u.length+8 * a.size≤700000) (ho:0≤out∧out≤700000)
  (A0:Bx mb [(b0,#[.pointer (some ⟨mb,0,none⟩)],62),(b2,#[my ub],143),(b3,#[.int .i64 out],3),(b1,cs,24),(b4,#[.func (.func 166) #[] #[.pointer (some ⟨b0,0,none⟩),.pointer (some ⟨b2,0,none⟩),.pointer (some ⟨b3,0,none⟩)]],102)] w):
  Calls Tryz.prog 169 #[.pointer (some ⟨b4,0,none⟩),.pointer (some ⟨b1,0,none⟩)] w (Does mb kb ub sh (aj sh out (obs sh d a m u)).1 (aj sh out (obs sh d a m u)).2 w):=by
 obtain⟨q,c,A3,B0, -, -, -,A8⟩:=hv.open;simp only[Value.agg.injEq] at A3;subst A3;obtain⟨b,off,kop,kn,kst,pk,kl,ck,rfl,B2,A2,r0,r1,r2,r3⟩:=dz A8 A1;have HI:=aa (uw HO a m u k mb kb ub vw vi vj _ w.drew b0 b2 b3 out ha hd (A2.kept ((Below.refl mb w).drew) (Nat.le_refl _)) hm.drew (hu.below (Below.refl _ w).drew) A5 hf hk A4 ho ((A0.below (Below.refl _ w).drew).sub (fun x hx=>by
  simp only[List.mem_cons,List.not_mem_nil,or_false] at hx ⊢;rcases hx with rfl|rfl|rfl
  ·exact .inl rfl
  ·exact .inr (.inl rfl)
  ·exact .inr (.inr (.inl rfl)))))
 have B1:=aa (hm.kd (ub:=ub));have e1:=ab (A0.at' _ (.tail _ (.tail _ (.tail _ (.head _))))) 3 _ rfl;have e4:=ab (A0.at' _ (.tail _ (.tail _ (.tail _ (.tail _ (.head _)))))) 0 _ rfl;simp only at e1 e4;have j2:(1:Int)<(t.ks.length:Int):=by
  have:=(List.getElem?_eq_some_iff.1 A1).1;omega
 obtain⟨ln,A9⟩:∃ x,Hid (t.ks.length=x):=⟨_,aa rfl⟩
 rw[A9.out] at e1 j2;simp only[Nat.one_mul,Nat.reduceMul] at r0 r1 r2 r3;obtain⟨O,hO⟩:∃ O,Hid (aj sh out (obs sh d a m u)=O):=⟨_,aa rfl⟩
 rw[hO.out] at HI ⊢;clear A0 hu hv hm hk A4 ho hf A5 ha hd HO A8 A1 A2 B0;go_enter Tryz.func169,Tryz.ntmps169;go_still_tail 5,(by kernel_rfl)
 change wpList _ _ _ _ _ w.drew
 go_wp2_with fail
 refine HI.out.mono ?_;rintro e w2 ⟨⟨r,rfl⟩,A7,A6⟩;have HF:=aa (And.intro A7 A6);clear A7 A6;go_wp2_with fail
 refine bodyPost_end (results_none rfl _ _ _) rfl ?_;exact⟨⟨_,rfl⟩,KpG.then B1.out (.inl rfl) HF.out.1,HF.out.2⟩
set_option maxHeartbeats 4000000 in
theorem zul {sh:Bool}{d:Nat}(HO:tp sh d)(t a:T)(m:Mk)(u:List Nat)(k mb kb:Nat)(ub:Option Nat)(vw vi vj:Value)(w:World)(b0 b1 b2 b3 b4:Nat)(out:Int)(cs:Array Value)(A1:t.ks[2]? = some a)(ha:Obs a)(hd:a.depth≤d)(hv:CoreAt mb w t (.agg cs))(hm:MkAt mb sh m vw vi vj kb w)
  (hu:UnkO mb ub u w) (A5:ub=none→cr a=false) (hf:Fit k m) (hk:k+8 * a.size≤700000) (A4:u.length+8 * a.size≤700000) (ho:0≤out∧out≤700000)
  (A0:Bx mb [(b0,#[.pointer (some ⟨mb,0,none⟩)],62),(b2,#[my ub],143),(b3,#[.int .i64 out],3),(b1,cs,24),(b4,#[.func (.func 166) #[] #[.pointer (some ⟨b0,0,none⟩),.pointer (some ⟨b2,0,none⟩),.pointer (some ⟨b3,0,none⟩)]],102)] w):
  Calls Tryz.prog 170 #[.pointer (some ⟨b4,0,none⟩),.pointer (some ⟨b1,0,none⟩)] w (Does mb kb ub sh (aj sh out (obs sh d a m u)).1 (aj sh out (obs sh d a m u)).2 w):=by
 obtain⟨q,c,A3,B0, -, -, -,A8⟩:=hv.open;simp only[Value.agg.injEq] at A3;subst A3;obtain⟨b,off,kop,kn,kst,pk,kl,ck,rfl,B2,A2,r0,r1,r2,r3⟩:=dz A8 A1;have HI:=aa (uw HO a m u k mb kb ub vw vi vj _ w.drew b0 b2 b3 out ha hd (A2.kept ((Below.refl mb w).drew) (Nat.le_refl _)) hm.drew (hu.below (Below.refl _ w).drew) A5 hf hk A4 ho ((A0.below (Below.refl _ w).drew).sub (fun x hx=>by
  simp only[List.mem_cons,List.not_mem_nil,or_false] at hx ⊢;rcases hx with rfl|rfl|rfl
  ·exact .inl rfl
  ·exact .inr (.inl rfl)
  ·exact .inr (.inr (.inl rfl)))))
 have B1:=aa (hm.kd (ub:=ub));have e1:=ab (A0.at' _ (.tail _ (.tail _ (.tail _ (.head _))))) 3 _ rfl;have e4:=ab (A0.at' _ (.tail _ (.tail _ (.tail _ (.tail _ (.head _)))))) 0 _ rfl;simp only at e1 e4;have j2:(2:Int)<(t.ks.length:Int):=by
  have:=(List.getElem?_eq_some_iff.1 A1).1;omega
 obtain⟨ln,A9⟩:∃ x,Hid (t.ks.length=x):=⟨_,aa rfl⟩
 rw[A9.out] at e1 j2;simp only[Nat.one_mul,Nat.reduceMul] at r0 r1 r2 r3;obtain⟨O,hO⟩:∃ O,Hid (aj sh out (obs sh d a m u)=O):=⟨_,aa rfl⟩
 rw[hO.out] at HI ⊢;clear A0 hu hv hm hk A4 ho hf A5 ha hd HO A8 A1 A2 B0;go_enter Tryz.func170,Tryz.ntmps170;go_still_tail 5,(by kernel_rfl)
 change wpList _ _ _ _ _ w.drew
 go_wp2_with fail
 refine HI.out.mono ?_;rintro e w2 ⟨⟨r,rfl⟩,A7,A6⟩;have HF:=aa (And.intro A7 A6);clear A7 A6;go_wp2_with fail
 refine bodyPost_end (results_none rfl _ _ _) rfl ?_;exact⟨⟨_,rfl⟩,KpG.then B1.out (.inl rfl) HF.out.1,HF.out.2⟩
end Gf
end
section
open Go.RowKit
open Rw
set_option maxRecDepth 100000
attribute [local go_sem] dp
namespace Gf
open Co Dn
theorem KpG.next {mb kb kb':Nat}{ub:Option Nat}{sh:Bool}{m:Mk}{A B C:World}(h:(kb'=kb∨A.heap.size≤kb')∧KpG mb kb ub A B)(k:Lays mb kb' ub sh m B C):
  ∃ vw vi vj A0,MkAt mb sh m vw vi vj A0 C∧((A0=kb∨A.heap.size≤A0)∧KpG mb kb ub A C):=by
 obtain⟨vw,vi,vj,A0,h1,h2⟩:=k.at';refine⟨vw,vi,vj,A0,h1,?_,h.2.trans k.kp h.1⟩;rcases h2 with rfl|h2
 ·exact h.1
 ·exact .inr (Nat.le_trans h.2.bel.size h2)
noncomputable def cho (sh:Bool)(d:Nat)(t:T)(m:Mk)(u:List Nat):Mk × List Nat:=if t.op=15 then iq (obs sh d) sh t m u else if t.op=16 then jy (obs sh d) sh t m u else jz (obs sh d) sh t m u
set_option maxHeartbeats 8000000 in
theorem zof {sh:Bool}{d:Nat}(HO:tp sh d)(t:T)(m:Mk)(u:List Nat)(k mb kb:Nat)(ub:Option Nat)(vw vi vj v:Value)(w:World)(ht:Obs t)(M0:t.op=15∨t.op=16∨t.op=22)(hd:t.depth≤d+1)(hv:CoreAt mb w t v)(hm:MkAt mb sh m vw vi vj kb w)
  (hu:UnkO mb ub u w) (O0:ub=none→cr t=false) (hf:Fit k m) (hk:k+8 * t.size≤700000) (N9:u.length+8 * t.size≤700000):
  Calls Tryz.prog 145 #[.pointer (some ⟨mb,0,none⟩),v,my ub] w (fun e w'=>e=.returned (.int .i64 m.next)∧Lays mb kb ub sh (cho sh d t m u).1 w w'∧UnkO mb ub (cho sh d t m u).2 w'):=by
 obtain⟨q,c,rfl,R4, -, -, -,M7⟩:=hv.open;obtain⟨op,n,s,ks⟩:=t
 -- the kids
 obtain⟨a,b,r,M6,ha,hb,hc⟩:∃ a b r,ks=a::b::r∧Obs a∧Obs b∧(op=22→∃ c,r=[c]∧Obs c)∧(op≠22→r=[]):=by
  simp only[T.op] at M0;rcases cy ht with h1|⟨rfl, -⟩|⟨rfl, -⟩|⟨h1,a,rfl,ha, -⟩|⟨h1,a,b,rfl,ha,hb⟩|⟨rfl,a,b,c,rfl,ha,hb,hc⟩|⟨h1,a,b,rfl,ha,hb⟩
  ·omega
  ·omega
  ·omega
  ·omega
  ·exact⟨a,b,[],rfl,cf ha,hb,fun e=>by omega,fun _=>rfl⟩
  ·exact⟨a,b,[c],rfl,cf ha,hb,fun _=>⟨c,rfl,hc⟩,fun e=>absurd rfl e⟩
  ·unfold ct at h1; omega
 have P1:∀ x∈ks,ub=none→cr x=false:=fun x hx e=>by
  have:=O0 e;rw[fy,Bool.or_eq_false_iff,List.any_eq_false] at this;simpa using this.2 x hx
 have P2:∀ x∈ks,x.depth≤d:=fun x hx=>by
  have:=em hx;rw[T.depth] at hd;omega
 have D4:(T.mk op n s ks).size=1+(a.size+(b.size+sizes r)):=by rw[T.size,M6]; simp[sizes]
 have O9:=hf.reg;have F6:=hf.nx;have R3:=hf.len;obtain⟨pa,G1⟩:∃ pa,Hid (my ub=.pointer pa):=by
  cases ub with
  |none=>exact⟨none,aa rfl⟩
  |some b=>exact⟨some ⟨b,0,none⟩,aa rfl⟩
 simp only[T.op,T.n,T.s,T.ks] at M7 M0 ⊢;rw[G1.out]
 -- the boxes
 have B1:=(Below.refl w.heap.size w).alloc (Nat.le_refl _) (.cells #[.pointer (some ⟨mb,0,none⟩)] 62);have y1:=heap_alloc_new w (.cells #[.pointer (some ⟨mb,0,none⟩)] 62);have B2:=(Below.refl (w.heap.size+1) (w.alloc (.cells #[.pointer (some ⟨mb,0,none⟩)] 62))).alloc (by simp) (.cells #[.int .i64 op,.int .i64 n,.string s,.slice q ks.length c] 24);have y2:=heap_alloc_new (w.alloc (.cells #[.pointer (some ⟨mb,0,none⟩)] 62)) (.cells #[.int .i64 op,.int .i64 n,.string s,.slice q ks.length c] 24);have B3:=(Below.refl (w.heap.size+1+1) ((w.alloc (.cells #[.pointer (some ⟨mb,0,none⟩)] 62)).alloc (.cells #[.int .i64 op,.int .i64 n,.string s,.slice q ks.length c] 24))).alloc (by simp) (.cells #[.pointer pa] 143);have y3:=heap_alloc_new ((w.alloc (.cells #[.pointer (some ⟨mb,0,none⟩)] 62)).alloc (.cells #[.int .i64 op,.int .i64 n,.string s,.slice q ks.length c] 24)) (.cells #[.pointer pa] 143);simp only[World.size_alloc] at y2 y3;have z1:=(B3.block _ (by omega)).trans ((B2.block _ (by omega)).trans y1);have z2:=(B3.block _ (by omega)).trans y2;have BA:=(B1.trans (B2.mono (by omega))).trans (B3.mono (by omega));have L3:=aa ((((Bx.nil mb _).cons z2 (by have:=hm.lt; omega) rfl).cons y3 (by have:=hm.lt; omega) rfl).cons z1 hm.lt rfl);have HM:=aa (hm.below BA);have HU:=aa (hu.below BA);have HB:=aa BA;have N2:=aa (KpG.of (mb:=mb) (kb:=kb) (ub:=ub) BA (Nat.le_of_lt hm.lt));have L2:=aa (fun (W:World) (b:Below mb w W)=>(hv.kept b (Nat.le_refl _)));have R8:=aa M7;have S7:=aa hm.lt;have A7:=aa M6;have A8:=aa (And.intro ha (And.intro hb hc));have J3:=aa P1;have J5:=aa P2;have D8:=aa (And.intro D4 (And.intro hk N9));have P9:=aa O9;have HF:=aa hf;clear B1 y1 B2 y2 B3 y3 z1 z2 BA hm hu hv M7 M6 ha hb hc P1 P2 D4 hk N9 O9 hf R3 R4 ht O0 hd;have J0:=aa F6;clear F6;go_enter Tryz.func145,Tryz.ntmps145;go_upto_region 1 with(fail)
 obtain⟨B,hB⟩:∃ B,Hid (w.heap.size=B):=⟨_,aa rfl⟩
 simp only[hB.out] at L3 ⊢;generalize World.alloc _ _=w1 at *;have e0:=ab (L3.out.at' _ (.head _)) 0 _ rfl;simp only at e0;have P7:=aa (um mb kb sh m vw vi vj w1 HM.out (by have:=J0.out; have:=D8.out; omega));go_wp2_with fail
 refine P7.out.mono ?_;rintro e w2 ⟨rfl,F7⟩;have R6:=F7.kp;have N3:=aa (L3.out.kp F7.kp (u:=[]) am);have P6:=aa (HU.out.kp F7.kp);have R7:=aa F7;have ba:=(Below.refl w2.heap.size w2).alloc (Nat.le_refl _) (.cells #[.int .i64 m.next] 3);have nn:=heap_alloc_new w2 (.cells #[.int .i64 m.next] 3);have bf:=(Below.refl (w2.heap.size+1) (w2.alloc (.cells #[.int .i64 m.next] 3))).alloc (by simp) (.cells #[.func (.func 166) #[] #[.pointer (some ⟨B,0,none⟩),.pointer (some ⟨B+1+1,0,none⟩),.pointer (some ⟨w2.heap.size,0,none⟩)]] 102);have nf:=heap_alloc_new (w2.alloc (.cells #[.int .i64 m.next] 3)) (.cells #[.func (.func 166) #[] #[.pointer (some ⟨B,0,none⟩),.pointer (some ⟨B+1+1,0,none⟩),.pointer (some ⟨w2.heap.size,0,none⟩)]] 102);simp only[World.size_alloc] at nf;have N5:=(bf.block _ (by omega)).trans nn;have bab:=ba.trans (bf.mono (by omega));have I6:mb<w2.heap.size:=Nat.lt_of_lt_of_le HM.out.lt F7.kp.bel.size;have C3:=aa (((N3.out.below bab).cons N5 I6 rfl).cons nf (by omega) rfl);have L0:=aa (P6.out.below bab);have L1:=aa (F7.below bab);clear ba nn bf nf N5 bab I6 F7 R6 e0 P7 R7 P6 HU L3 HM;go_upto_region 3 with(fail)
 obtain⟨b3,R5⟩:∃ b,Hid (w2.heap.size=b):=⟨_,aa rfl⟩
 simp only[R5.out] at C3 L0 L1 ⊢;generalize World.alloc _ _=w4 at *;have Q1:=aa (N2.out.bel.trans L1.out.kp.bel);obtain⟨⟨Q2,Q7,Q5,L7,M4,O7⟩,O4⟩:=L1.out;have N0:=aa M4;have G6:=aa (show(L7=kb∨w.heap.size≤L7)∧KpG mb kb ub w w4 from⟨O7.imp id fun h=>Nat.le_trans HB.out.size h,N2.out.trans O4.wk (.inl rfl)⟩);clear M4 O7 O4 L1 N2 HB;have M8:(T.mk op n s ks).ks[0]? = some a:=by show ks[0]? = some a; rw[A7.out]; rfl
 have O8:(T.mk op n s ks).ks[1]? = some b:=by show ks[1]? = some b; rw[A7.out]; rfl
 have G0:=aa (And.intro M8 O8);obtain⟨cb,off,kop,kn,kst,pk,kl,ck,rfl,R2,N8,r0,r1,r2,r3⟩:=dz (t:=.mk op n s ks) (kids_kept R8.out Q1.out) M8;have M2:a∈ks:=by rw[A7.out]; simp
 have M1:b∈ks:=by rw[A7.out]; simp
 have D4:=D8.out;have F6:=J0.out;have HI:=aa (uw HO a m.reg u (k+1) mb L7 ub Q2 Q7 Q5 _ w4.drew B (B+1+1) b3 m.next A8.out.1 (J5.out a M2) (N8.kept ((Below.refl mb w4).drew) (Nat.le_refl _)) N0.out.drew (L0.out.below (Below.refl _ w4).drew) (J3.out a M2) P9.out (by omega) (by omega) (by omega)
  (by rw[G1.out]; exact(C3.out.below (Below.refl _ w4).drew).sub (fun x hx=>by
   simp only[List.mem_cons,List.not_mem_nil,or_false] at hx ⊢;rcases hx with rfl|rfl|rfl
   ·exact .inr (.inr (.inl rfl))
   ·exact .inr (.inr (.inr (.inl rfl)))
   ·exact .inr (.inl rfl))))
 have e1:=ab (C3.out.at' _ (.tail _ (.tail _ (.tail _ (.tail _ (.head _)))))) 3 _ rfl;have e4:=ab (C3.out.at' _ (.head _)) 0 _ rfl;simp only at e1 e4;have j2:(0:Int)<(ks.length:Int):=by rw[A7.out]; simp; omega
 have S8:=aa j2;simp only[Nat.zero_mul,Nat.add_zero] at r0 r1 r2 r3;obtain⟨A,hA⟩:∃ A,Hid (aj sh m.next (obs sh d a m.reg u)=A):=⟨_,aa rfl⟩
 have B5:=aa (ey sh (co sh d a m.reg u (k+1) A8.out.1 P9.out) (out:=m.next) (by omega));have S6:=aa (show m.puts≤A.1.puts from by rw[←hA.out,qa]; exact pf sh d a m.reg u);rw[hA.out] at HI B5;have j5:ks≠[]:=by rw[A7.out]; simp
 have j3:0<ks.length:=List.length_pos_iff.2 j5;have j4:(ks.length == 0)=false:=by simp; omega
 clear N8 M2 M1 D4 F6 R2 M8 O8;go_still_tail 5,(by kernel_rfl)
 change wpList _ _ _ _ _ w4.drew
 go_wp2_with fail
 refine HI.out.mono ?_;rintro e w5 ⟨⟨rr,rfl⟩,O5,O2⟩;have B4:=aa ((C3.out.below (Below.refl _ w4).drew).kp O5.kp (L0.out.below (Below.refl _ w4).drew));obtain⟨⟨L4,L6,L5,H9,M5,O6⟩,O3⟩:=O5;have G3:=aa M5;have G2:=aa O2;have G5:=aa (show(H9=kb∨w.heap.size≤H9)∧KpG mb kb ub w w5 from⟨by
  rcases O6 with rfl|h
  ·exact G6.out.1
  ·exact .inr (Nat.le_trans G6.out.2.bel.size h),(G6.out.2.trans N0.out.kd G6.out.1).trans O3 G6.out.1⟩)
 clear M5 O6 O3 O2 HI e1 e4 r0 r1 r2 r3 N0 G6 C3 L0 Q1 j2;have e1:=ab (B4.out.at' _ (.tail _ (.tail _ (.tail _ (.tail _ (.head _)))))) 0 _ rfl;have e0:=ab (B4.out.at' _ (.tail _ (.tail _ (.head _)))) 0 _ rfl;have e3:=ab (B4.out.at' _ (.tail _ (.head _))) 0 _ rfl;simp only at e0 e1 e3;have P0:=B5.out.1.len;have D4:=D8.out;have F1:=aa (show A.1.ins.length≤700000 by omega);clear P0 D4 j3 j4 j5
 --CASES
 rcases M0 with rfl|rfl|rfl
 ·have hr:r=[]:=A8.out.2.2.2 (by omega);have hz:(T.mk 15 n s ks).size=1+(a.size+b.size):=by have:=D8.out.1; rw[hr] at this; simpa [sizes] using this
  have J4:=aa (J5.out b (by rw[A7.out]; simp));have J2:=aa (J3.out b (by rw[A7.out]; simp));have D4:=D8.out;have F6:=J0.out;have P5:=F1.out;have f1:=B5.out.1.lay (ix 19 0 m.next 0);have P4:=B5.out.2;have fb:=ey sh (co sh d b (A.1.lay (ix 19 0 m.next 0)) A.2 _ A8.out.2.1 f1) (out:=m.next) (by omega);have C6:=pf sh d b (A.1.lay (ix 19 0 m.next 0)) A.2;rw[←qa sh m.next] at C6;have I7:=bm sh d b (A.1.lay (ix 19 0 m.next 0)) A.2;rw[ah] at I7;have C7:=ej sh m.next (obs sh d b (A.1.lay (ix 19 0 m.next 0)) A.2);obtain⟨C,hC⟩:∃ C,Hid (aj sh m.next (obs sh d b (A.1.lay (ix 19 0 m.next 0)) A.2)=C):=⟨_,aa rfl⟩
  have HE:=aa (show cho sh d (T.mk 15 n s ks) m u=((C.1.back A.1.known).here A.1.ins.length,C.2) by
   unfold cho;refine(if_pos (show(T.mk 15 n s ks).op=15 from rfl)).trans ?_;unfold iq;rw[show(T.mk 15 n s ks).kid 0=a by rw[A7.out]; rfl,show(T.mk 15 n s ks).kid 1=b by rw[A7.out]; rfl,hA.out];simp only;rw[hC.out];rfl)
  rw[hC.out] at fb C6 C7;have P3:=fb.1.len;have E2:=aa (show A.1.ins.length<(C.1.back A.1.known).ins.length∧(C.1.back A.1.known).ins.length≤900000 by rw[ao]; omega);have B0:=aa (gh mb H9 sh (A.1) L4 L6 L5 (ix 19 0 m.next 0) w5 G3.out (by have:=F1.out; omega));unfold ix txt0 at B0;go_wp2_with fail
  refine B0.out.mono ?_;rintro e w6 ⟨f6,rfl,⟨E4,E3,rfl,I3⟩,C1⟩;have A4:=aa (show JumpFn mb w6 _ _ from⟨E4,E3,rfl,I3⟩);have A0:=aa (B4.out.kp C1.kp (u:=[]) am);have C4:=aa (G2.out.kp C1.kp);obtain⟨F2,F4,F3,F5,m6,E7⟩:=KpG.next G5.out C1.wk;have C5:=aa m6;have D3:=aa E7;clear C1 m6 E7 G3 G5 B4 G2 B0 e0 e1 e3;have e1:=ab (A0.out.at' _ (.tail _ (.tail _ (.tail _ (.tail _ (.head _)))))) 0 _ rfl;have e0:=ab (A0.out.at' _ (.tail _ (.tail _ (.head _)))) 0 _ rfl;have e3:=ab (A0.out.at' _ (.tail _ (.head _))) 0 _ rfl;simp only at e0 e1 e3;have D1:=aa (om mb F5 ub sh (A.1.lay (ix 19 0 m.next 0)) (C.1) (C.2) F2 F4 F3 167 #[.pointer (some ⟨b3+1,0,none⟩),.pointer (some ⟨B+1,0,none⟩)] w6 C5.out (fun w=>by kernel_rfl) (C6)
   (fun W bw=>by rw[←hC.out]; exact zuo HO (T.mk 15 n s ks) b (A.1.lay (ix 19 0 m.next 0)) A.2 _ mb F5 ub F2 F4 F3 W B (B+1) (B+1+1) b3 (b3+1) m.next #[.int .i64 15,.int .i64 n,.string s,.slice (some ⟨cb,off,none⟩) ks.length c] G0.out.2 (by first|exact A8.out.2.1) (by first|exact J4.out) (L2.out W (D3.out.2.bel.trans (bw.mono (Nat.le_of_lt C5.out.lt)))) (C5.out.below bw) (C4.out.below bw) (by first|exact J2.out) f1 (by omega) (by omega) (by omega) (by rw[G1.out]; exact(A0.out.below bw).sub (fun x hx=>by simp only[List.mem_cons,List.not_mem_nil,or_false] at hx ⊢; rcases hx with rfl|rfl|rfl|rfl|rfl<;>simp))))
  go_wp2_with fail
  refine D1.out.mono ?_;rintro e w7 ⟨⟨r7,rfl⟩,B7,I4⟩;have A1:=aa (A0.out.kp B7.kp C4.out);have E8:=aa I4;obtain⟨G8,H4,H1,H8,m7,E6⟩:=KpG.next D3.out B7;have E9:=aa m7;have F0:=aa E6;have A4:=aa (A4.out.kp B7.kp C4.out.box);clear B7 m7 E6 I4 C5 D3 A0 C4 D1 e0 e1 e3;have e1:=ab (A1.out.at' _ (.tail _ (.tail _ (.tail _ (.tail _ (.head _)))))) 0 _ rfl;have e0:=ab (A1.out.at' _ (.tail _ (.tail _ (.head _)))) 0 _ rfl;have e3:=ab (A1.out.at' _ (.tail _ (.head _))) 0 _ rfl;simp only at e0 e1 e3;obtain⟨x1,x2,B8, -, -,C0,B9⟩:=A4.out;simp only[Value.func.injEq,Array.mk.injEq,List.cons.injEq,Value.pointer.injEq,Option.some.injEq,Addr.mk.injEq,and_true,true_and] at B8;obtain⟨rfl,rfl⟩:=B8;have C2:=aa (ju mb H8 sh (C.1.back A.1.known) G8 H4 H1 (A.1.ins.length) E4 E3 w7 E9.out (E2.out.2) (E2.out.1) C0 B9);clear C0 B9;go_wp2_with fail
  refine C2.out.mono ?_;rintro e w8 ⟨⟨r8,rfl⟩,B6⟩;have A2:=aa (A1.out.kp B6.kp (u:=[]) am);have D6:=aa (E8.out.kp B6.kp);obtain⟨G7,H3,H0,H7,m8,E5⟩:=KpG.next F0.out B6.wk;have D9:=aa m8;have E1:=aa E5;clear B6 m8 E5 E9 F0 A1 E8 C2 e0 e1 e3;have e1:=ab (A2.out.at' _ (.tail _ (.tail _ (.tail _ (.tail _ (.head _)))))) 0 _ rfl;have e0:=ab (A2.out.at' _ (.tail _ (.tail _ (.head _)))) 0 _ rfl;have e3:=ab (A2.out.at' _ (.tail _ (.head _))) 0 _ rfl;simp only at e0 e1 e3;go_wp2_with fail
  go_ret;rw[HE.out];exact⟨rfl,⟨⟨_,_,_,_,D9.out,E1.out.1⟩,E1.out.2⟩,D6.out⟩
 ·have hz:(T.mk 16 n s ks).size=1+(a.size+(b.size+sizes r)):=D8.out.1;have J4:=aa (J5.out b (by rw[A7.out]; simp));have J2:=aa (J3.out b (by rw[A7.out]; simp));have D4:=D8.out;have F6:=J0.out;have P5:=F1.out;have P4:=B5.out.2;have f1:=((B5.out.1.lay (ix 19 0 m.next 0)).lay (ix 20 0 0 0)).here A.1.ins.length;have fb:=ey sh (co sh d b (((A.1.lay (ix 19 0 m.next 0)).lay (ix 20 0 0 0)).here A.1.ins.length) A.2 _ A8.out.2.1 f1) (out:=m.next) (by omega);have C6:=pf sh d b (((A.1.lay (ix 19 0 m.next 0)).lay (ix 20 0 0 0)).here A.1.ins.length) A.2;rw[←qa sh m.next] at C6;have I7:=bm sh d b (((A.1.lay (ix 19 0 m.next 0)).lay (ix 20 0 0 0)).here A.1.ins.length) A.2;rw[ak,ah,ah] at I7;have C7:=ej sh m.next (obs sh d b (((A.1.lay (ix 19 0 m.next 0)).lay (ix 20 0 0 0)).here A.1.ins.length) A.2);obtain⟨C,hC⟩:∃ C,Hid (aj sh m.next (obs sh d b (((A.1.lay (ix 19 0 m.next 0)).lay (ix 20 0 0 0)).here A.1.ins.length) A.2)=C):=⟨_,aa rfl⟩
  have HE:=aa (show cho sh d (T.mk 16 n s ks) m u=((C.1.back A.1.known).here (A.1.ins.length+1),C.2) by
   unfold cho;refine(if_neg (show ¬(T.mk 16 n s ks).op=15 by show ¬(16:Int)=15; decide)).trans ((if_pos (show(T.mk 16 n s ks).op=16 from rfl)).trans ?_);unfold jy;rw[show(T.mk 16 n s ks).kid 0=a by rw[A7.out]; rfl,show(T.mk 16 n s ks).kid 1=b by rw[A7.out]; rfl,hA.out];simp only;rw[hC.out];rfl)
  rw[hC.out] at fb C6 C7;have P3:=fb.1.len;have E2:=aa (show A.1.ins.length+1<(C.1.back A.1.known).ins.length∧(C.1.back A.1.known).ins.length≤900000 by rw[ao]; omega);have B0:=aa (gh mb H9 sh (A.1) L4 L6 L5 (ix 19 0 m.next 0) w5 G3.out (by have:=F1.out; omega));unfold ix txt0 at B0;go_wp2_with fail
  refine B0.out.mono ?_;rintro e w6 ⟨f6,rfl,⟨E4,E3,rfl,I3⟩,C1⟩;have A4:=aa (show JumpFn mb w6 _ _ from⟨E4,E3,rfl,I3⟩);have A0:=aa (B4.out.kp C1.kp (u:=[]) am);have C4:=aa (G2.out.kp C1.kp);obtain⟨F2,F4,F3,F5,m6,E7⟩:=KpG.next G5.out C1.wk;have C5:=aa m6;have D3:=aa E7;clear C1 m6 E7 G3 G5 B4 G2 B0 e0 e1 e3;have e1:=ab (A0.out.at' _ (.tail _ (.tail _ (.tail _ (.tail _ (.head _)))))) 0 _ rfl;have e0:=ab (A0.out.at' _ (.tail _ (.tail _ (.head _)))) 0 _ rfl;have e3:=ab (A0.out.at' _ (.tail _ (.head _))) 0 _ rfl;simp only at e0 e1 e3;have B0:=aa (gh mb F5 sh (A.1.lay (ix 19 0 m.next 0)) F2 F4 F3 (ix 20 0 0 0) w6 C5.out (by rw[ah]; have:=F1.out; omega));unfold ix txt0 at B0;go_wp2_with fail
  refine B0.out.mono ?_;rintro e w7 ⟨f7,rfl,⟨I2,I1,rfl,L8⟩,B7⟩;have A5:=aa (show JumpFn mb w7 _ _ from⟨I2,I1,rfl,L8⟩);have A1:=aa (A0.out.kp B7.kp (u:=[]) am);have E8:=aa (C4.out.kp B7.kp);obtain⟨G8,H4,H1,H8,m7,E6⟩:=KpG.next D3.out B7.wk;have E9:=aa m7;have F0:=aa E6;have A4:=aa (A4.out.kp B7.kp (fun u e=>by cases e));clear B7 m7 E6 C5 D3 A0 C4 B0 e0 e1 e3;have e1:=ab (A1.out.at' _ (.tail _ (.tail _ (.tail _ (.tail _ (.head _)))))) 0 _ rfl;have e0:=ab (A1.out.at' _ (.tail _ (.tail _ (.head _)))) 0 _ rfl;have e3:=ab (A1.out.at' _ (.tail _ (.head _))) 0 _ rfl;simp only at e0 e1 e3;rw[ah] at A5;obtain⟨x1,x2,B8, -, -,C0,B9⟩:=A4.out;simp only[Value.func.injEq,Array.mk.injEq,List.cons.injEq,Value.pointer.injEq,Option.some.injEq,Addr.mk.injEq,and_true,true_and] at B8;obtain⟨rfl,rfl⟩:=B8;have C2:=aa (ju mb H8 sh ((A.1.lay (ix 19 0 m.next 0)).lay (ix 20 0 0 0)) G8 H4 H1 (A.1.ins.length) E4 E3 w7 E9.out (by rw[ah,ah]; have:=F1.out; omega) (by rw[ah,ah]; omega) C0 B9);clear C0 B9;go_wp2_with fail
  refine C2.out.mono ?_;rintro e w8 ⟨⟨r8,rfl⟩,B6⟩;have A2:=aa (A1.out.kp B6.kp (u:=[]) am);have D6:=aa (E8.out.kp B6.kp);obtain⟨G7,H3,H0,H7,m8,E5⟩:=KpG.next F0.out B6.wk;have D9:=aa m8;have E1:=aa E5;have A5:=aa (A5.out.kp B6.kp (fun u e=>by cases e));clear B6 m8 E5 E9 F0 A1 E8 C2 e0 e1 e3;have e1:=ab (A2.out.at' _ (.tail _ (.tail _ (.tail _ (.tail _ (.head _)))))) 0 _ rfl;have e0:=ab (A2.out.at' _ (.tail _ (.tail _ (.head _)))) 0 _ rfl;have e3:=ab (A2.out.at' _ (.tail _ (.head _))) 0 _ rfl;simp only at e0 e1 e3;have D1:=aa (om mb H7 ub sh (((A.1.lay (ix 19 0 m.next 0)).lay (ix 20 0 0 0)).here A.1.ins.length) (C.1) (C.2) G7 H3 H0 168 #[.pointer (some ⟨b3+1,0,none⟩),.pointer (some ⟨B+1,0,none⟩)] w8 D9.out (fun w=>by kernel_rfl) (C6)
   (fun W bw=>by rw[←hC.out]; exact zun HO (T.mk 16 n s ks) b (((A.1.lay (ix 19 0 m.next 0)).lay (ix 20 0 0 0)).here A.1.ins.length) A.2 _ mb H7 ub G7 H3 H0 W B (B+1) (B+1+1) b3 (b3+1) m.next #[.int .i64 16,.int .i64 n,.string s,.slice (some ⟨cb,off,none⟩) ks.length c] G0.out.2 (by first|exact A8.out.2.1) (by first|exact J4.out) (L2.out W (E1.out.2.bel.trans (bw.mono (Nat.le_of_lt D9.out.lt)))) (D9.out.below bw) (D6.out.below bw) (by first|exact J2.out) f1 (by omega) (by omega) (by omega) (by rw[G1.out]; exact(A2.out.below bw).sub (fun x hx=>by simp only[List.mem_cons,List.not_mem_nil,or_false] at hx ⊢; rcases hx with rfl|rfl|rfl|rfl|rfl<;>simp))))
  go_wp2_with fail
  refine D1.out.mono ?_;rintro e w9 ⟨⟨r9,rfl⟩,D2,O1⟩;have A6:=aa (A2.out.kp D2.kp D6.out);have F8:=aa O1;obtain⟨J6,J8,J7,J9,m9,I8⟩:=KpG.next E1.out D2;have F9:=aa m9;have G4:=aa I8;have A5:=aa (A5.out.kp D2.kp D6.out.box);clear D2 m9 I8 O1 D9 E1 A2 D6 D1 e0 e1 e3;have e1:=ab (A6.out.at' _ (.tail _ (.tail _ (.tail _ (.tail _ (.head _)))))) 0 _ rfl;have e0:=ab (A6.out.at' _ (.tail _ (.tail _ (.head _)))) 0 _ rfl;have e3:=ab (A6.out.at' _ (.tail _ (.head _))) 0 _ rfl;simp only at e0 e1 e3;obtain⟨x1,x2,B8, -, -,C0,B9⟩:=A5.out;simp only[Value.func.injEq,Array.mk.injEq,List.cons.injEq,Value.pointer.injEq,Option.some.injEq,Addr.mk.injEq,and_true,true_and] at B8;obtain⟨rfl,rfl⟩:=B8;have C2:=aa (ju mb J9 sh (C.1.back A.1.known) J6 J8 J7 (A.1.ins.length+1) I2 I1 w9 F9.out (E2.out.2) (E2.out.1) C0 B9);clear C0 B9;go_wp2_with fail
  refine C2.out.mono ?_;rintro e N4 ⟨⟨Q9,rfl⟩,A9⟩;have A3:=aa (A6.out.kp A9.kp (u:=[]) am);have D7:=aa (F8.out.kp A9.kp);obtain⟨G9,H5,H2,I0,H6,C8⟩:=KpG.next G4.out A9.wk;have E0:=aa H6;have C9:=aa C8;clear A9 H6 C8 F9 G4 A6 F8 C2 e0 e1 e3;have e1:=ab (A3.out.at' _ (.tail _ (.tail _ (.tail _ (.tail _ (.head _)))))) 0 _ rfl;have e0:=ab (A3.out.at' _ (.tail _ (.tail _ (.head _)))) 0 _ rfl;have e3:=ab (A3.out.at' _ (.tail _ (.head _))) 0 _ rfl;simp only at e0 e1 e3;go_wp2_with fail
  go_ret;rw[HE.out];exact⟨rfl,⟨⟨_,_,_,_,E0.out,C9.out.1⟩,C9.out.2⟩,D7.out⟩
 ·have hz:(T.mk 22 n s ks).size=1+(a.size+(b.size+sizes r)):=D8.out.1;have J4:=aa (J5.out b (by rw[A7.out]; simp));have J2:=aa (J3.out b (by rw[A7.out]; simp));have D4:=D8.out;have F6:=J0.out;have P5:=F1.out;have P4:=B5.out.2;obtain⟨x3,hr,N7⟩:=A8.out.2.2.1 rfl;have P8:=aa N7;have HR:=aa hr;have S4:sizes r=x3.size:=by rw[hr]; simp[sizes]
  have S1:=aa (J5.out x3 (by rw[A7.out,hr]; simp));have S0:=aa (J3.out x3 (by rw[A7.out,hr]; simp));have R9:=aa (show(T.mk 22 n s ks).ks[2]? = some x3 by show ks[2]? = some x3; rw[A7.out,hr]; rfl);clear hr N7;have f1:=B5.out.1.lay (ix 19 0 m.next 0);have fb:=ey sh (co sh d b (A.1.lay (ix 19 0 m.next 0)) A.2 _ A8.out.2.1 f1) (out:=m.next) (by omega);have C6:=pf sh d b (A.1.lay (ix 19 0 m.next 0)) A.2;rw[←qa sh m.next] at C6;have I7:=bm sh d b (A.1.lay (ix 19 0 m.next 0)) A.2;rw[ah] at I7;have C7:=ej sh m.next (obs sh d b (A.1.lay (ix 19 0 m.next 0)) A.2);obtain⟨C,hC⟩:∃ C,Hid (aj sh m.next (obs sh d b (A.1.lay (ix 19 0 m.next 0)) A.2)=C):=⟨_,aa rfl⟩
  rw[hC.out] at fb C6 C7;have f2:=((fb.1.back f1 (by omega)).lay (ix 20 0 0 0)).here A.1.ins.length;have fc:=ey sh (co sh d x3 (((C.1.back (A.1.lay (ix 19 0 m.next 0)).known).lay (ix 20 0 0 0)).here A.1.ins.length) C.2 _ P8.out f2) (out:=m.next) (by omega);have L9:=pf sh d x3 (((C.1.back (A.1.lay (ix 19 0 m.next 0)).known).lay (ix 20 0 0 0)).here A.1.ins.length) C.2;rw[←qa sh m.next] at L9;have R1:=bm sh d x3 (((C.1.back (A.1.lay (ix 19 0 m.next 0)).known).lay (ix 20 0 0 0)).here A.1.ins.length) C.2;rw[ak,ah,ao] at R1;have M3:=ej sh m.next (obs sh d x3 (((C.1.back (A.1.lay (ix 19 0 m.next 0)).known).lay (ix 20 0 0 0)).here A.1.ins.length) C.2);obtain⟨F,hF⟩:∃ F,Hid (aj sh m.next (obs sh d x3 (((C.1.back (A.1.lay (ix 19 0 m.next 0)).known).lay (ix 20 0 0 0)).here A.1.ins.length) C.2)=F):=⟨_,aa rfl⟩
  rw[hF.out] at fc L9 M3;have HE:=aa (show cho sh d (T.mk 22 n s ks) m u=((F.1.back (((C.1.back (A.1.lay (ix 19 0 m.next 0)).known).lay (ix 20 0 0 0)).here A.1.ins.length).known).here (C.1.back (A.1.lay (ix 19 0 m.next 0)).known).ins.length,F.2) by
   unfold cho;refine(if_neg (show ¬(T.mk 22 n s ks).op=15 by show ¬(22:Int)=15; decide)).trans ((if_neg (show ¬(T.mk 22 n s ks).op=16 by show ¬(22:Int)=16; decide)).trans ?_);unfold jz;rw[show(T.mk 22 n s ks).kid 0=a by rw[A7.out]; rfl,show(T.mk 22 n s ks).kid 1=b by rw[A7.out]; rfl,show(T.mk 22 n s ks).kid 2=x3 by rw[A7.out,HR.out]; rfl,hA.out];simp only;rw[hC.out,hF.out];rfl)
  have P3:=fb.1.len;have P0:=fc.1.len;have S5:=fb.2;have E2:=aa (show A.1.ins.length<(C.1.back (A.1.lay (ix 19 0 m.next 0)).known).ins.length∧(C.1.back (A.1.lay (ix 19 0 m.next 0)).known).ins.length≤800000 by rw[ao]; omega);have Q0:=aa (show(C.1.back (A.1.lay (ix 19 0 m.next 0)).known).ins.length<(F.1.back (((C.1.back (A.1.lay (ix 19 0 m.next 0)).known).lay (ix 20 0 0 0)).here A.1.ins.length).known).ins.length∧(F.1.back (((C.1.back (A.1.lay (ix 19 0 m.next 0)).known).lay (ix 20 0 0 0)).here A.1.ins.length).known).ins.length≤900000 by rw[ao,ao]; omega);have B0:=aa (gh mb H9 sh (A.1) L4 L6 L5 (ix 19 0 m.next 0) w5 G3.out (by have:=F1.out; omega));unfold ix txt0 at B0;go_wp2_with fail
  refine B0.out.mono ?_;rintro e w6 ⟨f6,rfl,⟨E4,E3,rfl,I3⟩,C1⟩;have A4:=aa (show JumpFn mb w6 _ _ from⟨E4,E3,rfl,I3⟩);have A0:=aa (B4.out.kp C1.kp (u:=[]) am);have C4:=aa (G2.out.kp C1.kp);obtain⟨F2,F4,F3,F5,m6,E7⟩:=KpG.next G5.out C1.wk;have C5:=aa m6;have D3:=aa E7;clear C1 m6 E7 G3 G5 B4 G2 B0 e0 e1 e3;have e1:=ab (A0.out.at' _ (.tail _ (.tail _ (.tail _ (.tail _ (.head _)))))) 0 _ rfl;have e0:=ab (A0.out.at' _ (.tail _ (.tail _ (.head _)))) 0 _ rfl;have e3:=ab (A0.out.at' _ (.tail _ (.head _))) 0 _ rfl;simp only at e0 e1 e3;have D1:=aa (om mb F5 ub sh (A.1.lay (ix 19 0 m.next 0)) (C.1) (C.2) F2 F4 F3 169 #[.pointer (some ⟨b3+1,0,none⟩),.pointer (some ⟨B+1,0,none⟩)] w6 C5.out (fun w=>by kernel_rfl) (C6)
   (fun W bw=>by rw[←hC.out]; exact zum HO (T.mk 22 n s ks) b (A.1.lay (ix 19 0 m.next 0)) A.2 _ mb F5 ub F2 F4 F3 W B (B+1) (B+1+1) b3 (b3+1) m.next #[.int .i64 22,.int .i64 n,.string s,.slice (some ⟨cb,off,none⟩) ks.length c] G0.out.2 (by first|exact A8.out.2.1) (by first|exact J4.out) (L2.out W (D3.out.2.bel.trans (bw.mono (Nat.le_of_lt C5.out.lt)))) (C5.out.below bw) (C4.out.below bw) (by first|exact J2.out) f1 (by omega) (by omega) (by omega) (by rw[G1.out]; exact(A0.out.below bw).sub (fun x hx=>by simp only[List.mem_cons,List.not_mem_nil,or_false] at hx ⊢; rcases hx with rfl|rfl|rfl|rfl|rfl<;>simp))))
  go_wp2_with fail
  refine D1.out.mono ?_;rintro e w7 ⟨⟨r7,rfl⟩,B7,I4⟩;have A1:=aa (A0.out.kp B7.kp C4.out);have E8:=aa I4;obtain⟨G8,H4,H1,H8,m7,E6⟩:=KpG.next D3.out B7;have E9:=aa m7;have F0:=aa E6;have A4:=aa (A4.out.kp B7.kp C4.out.box);clear B7 m7 E6 I4 C5 D3 A0 C4 D1 e0 e1 e3;have e1:=ab (A1.out.at' _ (.tail _ (.tail _ (.tail _ (.tail _ (.head _)))))) 0 _ rfl;have e0:=ab (A1.out.at' _ (.tail _ (.tail _ (.head _)))) 0 _ rfl;have e3:=ab (A1.out.at' _ (.tail _ (.head _))) 0 _ rfl;simp only at e0 e1 e3;have B0:=aa (gh mb H8 sh (C.1.back (A.1.lay (ix 19 0 m.next 0)).known) G8 H4 H1 (ix 20 0 0 0) w7 E9.out (by have:=E2.out.2; omega));unfold ix txt0 at B0;go_wp2_with fail
  refine B0.out.mono ?_;rintro e w8 ⟨f8,rfl,⟨I2,I1,rfl,L8⟩,B6⟩;have A5:=aa (show JumpFn mb w8 _ _ from⟨I2,I1,rfl,L8⟩);have A2:=aa (A1.out.kp B6.kp (u:=[]) am);have D6:=aa (E8.out.kp B6.kp);obtain⟨G7,H3,H0,H7,m8,E5⟩:=KpG.next F0.out B6.wk;have D9:=aa m8;have E1:=aa E5;have A4:=aa (A4.out.kp B6.kp (fun u e=>by cases e));clear B6 m8 E5 E9 F0 A1 E8 B0 e0 e1 e3;have e1:=ab (A2.out.at' _ (.tail _ (.tail _ (.tail _ (.tail _ (.head _)))))) 0 _ rfl;have e0:=ab (A2.out.at' _ (.tail _ (.tail _ (.head _)))) 0 _ rfl;have e3:=ab (A2.out.at' _ (.tail _ (.head _))) 0 _ rfl;simp only at e0 e1 e3;obtain⟨x1,x2,B8, -, -,C0,B9⟩:=A4.out;simp only[Value.func.injEq,Array.mk.injEq,List.cons.injEq,Value.pointer.injEq,Option.some.injEq,Addr.mk.injEq,and_true,true_and] at B8;obtain⟨rfl,rfl⟩:=B8;have C2:=aa (ju mb H7 sh ((C.1.back (A.1.lay (ix 19 0 m.next 0)).known).lay (ix 20 0 0 0)) G7 H3 H0 (A.1.ins.length) E4 E3 w8 D9.out (by rw[ah]; have:=E2.out.2; omega) (by rw[ah]; have:=E2.out.1; omega) C0 B9);clear C0 B9;go_wp2_with fail
  refine C2.out.mono ?_;rintro e w9 ⟨⟨r9,rfl⟩,D2⟩;have A6:=aa (A2.out.kp D2.kp (u:=[]) am);have F8:=aa (D6.out.kp D2.kp);obtain⟨J6,J8,J7,J9,m9,I8⟩:=KpG.next E1.out D2.wk;have F9:=aa m9;have G4:=aa I8;have A5:=aa (A5.out.kp D2.kp (fun u e=>by cases e));clear D2 m9 I8 D9 E1 A2 D6 C2 e0 e1 e3;have e1:=ab (A6.out.at' _ (.tail _ (.tail _ (.tail _ (.tail _ (.head _)))))) 0 _ rfl;have e0:=ab (A6.out.at' _ (.tail _ (.tail _ (.head _)))) 0 _ rfl;have e3:=ab (A6.out.at' _ (.tail _ (.head _))) 0 _ rfl;simp only at e0 e1 e3;have D1:=aa (om mb J9 ub sh (((C.1.back (A.1.lay (ix 19 0 m.next 0)).known).lay (ix 20 0 0 0)).here A.1.ins.length) (F.1) (F.2) J6 J8 J7 170 #[.pointer (some ⟨b3+1,0,none⟩),.pointer (some ⟨B+1,0,none⟩)] w9 F9.out (fun w=>by kernel_rfl) (L9)
   (fun W bw=>by rw[←hF.out]; exact zul HO (T.mk 22 n s ks) x3 (((C.1.back (A.1.lay (ix 19 0 m.next 0)).known).lay (ix 20 0 0 0)).here A.1.ins.length) C.2 _ mb J9 ub J6 J8 J7 W B (B+1) (B+1+1) b3 (b3+1) m.next #[.int .i64 22,.int .i64 n,.string s,.slice (some ⟨cb,off,none⟩) ks.length c] R9.out (by first|exact P8.out) (by first|exact S1.out) (L2.out W (G4.out.2.bel.trans (bw.mono (Nat.le_of_lt F9.out.lt)))) (F9.out.below bw) (F8.out.below bw) (by first|exact S0.out) f2 (by omega) (by omega) (by omega) (by rw[G1.out]; exact(A6.out.below bw).sub (fun x hx=>by simp only[List.mem_cons,List.not_mem_nil,or_false] at hx ⊢; rcases hx with rfl|rfl|rfl|rfl|rfl<;>simp))))
  go_wp2_with fail
  refine D1.out.mono ?_;rintro e N4 ⟨⟨Q9,rfl⟩,A9,I5⟩;have A3:=aa (A6.out.kp A9.kp F8.out);have D7:=aa I5;obtain⟨G9,H5,H2,I0,H6,C8⟩:=KpG.next G4.out A9;have E0:=aa H6;have C9:=aa C8;have A5:=aa (A5.out.kp A9.kp F8.out.box);clear A9 H6 C8 I5 F9 G4 A6 F8 D1 e0 e1 e3;have e1:=ab (A3.out.at' _ (.tail _ (.tail _ (.tail _ (.tail _ (.head _)))))) 0 _ rfl;have e0:=ab (A3.out.at' _ (.tail _ (.tail _ (.head _)))) 0 _ rfl;have e3:=ab (A3.out.at' _ (.tail _ (.head _))) 0 _ rfl;simp only at e0 e1 e3;obtain⟨x1,x2,B8, -, -,C0,B9⟩:=A5.out;simp only[Value.func.injEq,Array.mk.injEq,List.cons.injEq,Value.pointer.injEq,Option.some.injEq,Addr.mk.injEq,and_true,true_and] at B8;obtain⟨rfl,rfl⟩:=B8;have C2:=aa (ju mb I0 sh (F.1.back (((C.1.back (A.1.lay (ix 19 0 m.next 0)).known).lay (ix 20 0 0 0)).here A.1.ins.length).known) G9 H5 H2 ((C.1.back (A.1.lay (ix 19 0 m.next 0)).known).ins.length) I2 I1 N4 E0.out (Q0.out.2) (Q0.out.1) C0 B9);clear C0 B9;go_wp2_with fail
  refine C2.out.mono ?_;rintro e S2 ⟨⟨S3,rfl⟩,D5⟩;have D0:=aa (A3.out.kp D5.kp (u:=[]) am);have M9:=aa (D7.out.kp D5.kp);obtain⟨Q3,Q8,Q6,R0,N6,I9⟩:=KpG.next C9.out D5.wk;have N1:=aa N6;have J1:=aa I9;clear D5 N6 I9 E0 C9 A3 D7 C2 e0 e1 e3;have e1:=ab (D0.out.at' _ (.tail _ (.tail _ (.tail _ (.tail _ (.head _)))))) 0 _ rfl;have e0:=ab (D0.out.at' _ (.tail _ (.tail _ (.head _)))) 0 _ rfl;have e3:=ab (D0.out.at' _ (.tail _ (.head _))) 0 _ rfl;simp only at e0 e1 e3;go_wp2_with fail
  go_ret;rw[HE.out];exact⟨rfl,⟨⟨_,_,_,_,N1.out,J1.out.1⟩,J1.out.2⟩,M9.out⟩
end Gf
end
section
open Go.RowKit
open Rw
set_option maxRecDepth 100000
attribute [local go_sem] dp
namespace Gf
open Co Dn
set_option maxHeartbeats 4000000 in
theorem uv (mb kb:Nat)(sh:Bool)(m:Mk)(vw vi vj:Value)(w:World)(b1 b2:Nat)(r base:Int)(hm:MkAt mb sh m vw vi vj kb w)(hb:0≤base∧base≤900000)
  (h1:w.heap[b1]? = some (.cells #[.pointer (some ⟨mb,0,none⟩)] 62 (0,0))) (h2:w.heap[b2]? = some (.cells #[.int .i64 base] 3 (0,0))):
  Calls Tryz.prog 143 #[.int .i64 r,.pointer (some ⟨b1,0,none⟩),.pointer (some ⟨b2,0,none⟩)] w (fun e w'=>e=.returned (.int .i64 r)∧Lays mb kb none sh (m.free sh (base+1)) w w'):=by
 have y1:=ab h1 0 _ rfl;have y2:=ab h2 0 _ rfl;have m3:=ab hm.box 3 _ rfl;have m5:=ab hm.box 5 _ rfl;have f5:=frozen_of (o:=5) hm.box;have hw:IntKind.i64.wrap (base+1)=base+1:=IntWalk.i64_in _ (by omega);have HM:=aa hm;clear hm hb h1 h2;cases sh with
 |true=>
  go_enter Tryz.func143,Tryz.ntmps143;go_wp2_with fail
  go_ret;exact⟨rfl,⟨_,_,_,_,HM.out,.inl rfl⟩,KpG.refl _ _ _ _⟩
 |false=>
  have HF:=aa (HM.out.parts (m':={ m with next:=base+1 }) 5 (.int .i64 (base+1)) rfl rfl rfl rfl rfl rfl);go_enter Tryz.func143,Tryz.ntmps143;go_wp2_with fail
  go_ret;exact⟨rfl,⟨_,_,_,_,HF.out.1,.inl rfl⟩,HF.out.2⟩
theorem zbn {n:Int}{op:Int}{s:ByteArray}(hn:I64 n)(ho:I64 op)(hs:s.size≤2000000):ValOk ⟨op,n,s,0,0⟩:=⟨ho,hn,(by show s.size≤maxLen; unfold maxLen; omega),(by show I64 0; unfold I64; omega),(by show I64 0; unfold I64; omega)⟩
set_option maxHeartbeats 8000000 in
theorem zud {sh:Bool}{d:Nat}(HO:tp sh d):tp sh (d+1):=by
 intro t m u k mb kb ub vw vi vj v w ht hd hv hm hu G1 hf hk H1;have H0:=hv;obtain⟨q,c,rfl,M7,I0,I1,H2,L1⟩:=hv.open;obtain⟨op,n,s,ks⟩:=t;have L5:∀ x∈ks,ub=none→cr x=false:=fun x hx e=>by
  have:=G1 e;rw[fy,Bool.or_eq_false_iff,List.any_eq_false] at this;simpa using this.2 x hx
 have L7:∀ x∈ks,x.depth≤d:=fun x hx=>by
  have:=em hx;rw[T.depth] at hd;omega
 have L6:op=4→∃ b,ub=some b:=fun e=>by
  subst e;cases ub with
  |some b=>exact⟨b,rfl⟩
  |none=>
   have:=G1 rfl;rw[fy] at this;cases this
 have L0:=hf.nx;have L4:=hf.len;have J9:=hf.pt;obtain⟨pa,D9⟩:∃ pa,Hid (my ub=.pointer pa):=by
  cases ub with
  |none=>exact⟨none,aa rfl⟩
  |some b=>exact⟨some ⟨b,0,none⟩,aa rfl⟩
 simp only[T.op,T.n,T.s,T.ks] at I0 I1 H2;have I7:=aa L1;simp only[T.op,T.n,T.s,T.ks];have E0:=aa (fun (v:Val) (W:World) (b:Below w.heap.size w W) (hv:ValOk v) (h2:v.op=2→∃ b,ub=some b)=>qo mb kb ub sh m u vw vi vj v W (hm.below b) (hu.below b) hv h2 (by omega) (by omega) (by omega));have G0:=aa (fun (W:World) (b:Below w.heap.size w W) (h:op=15∨op=16∨op=22)=>zof HO (.mk op n s ks) m u k mb kb ub vw vi vj _ W ht h hd (H0.kept (b.mono (Nat.le_of_lt hm.lt)) (Nat.le_refl _)) (hm.below b) (hu.below b) G1 hf hk H1);simp only[T.op,T.n,T.s,T.ks] at G0;rw[D9.out] at E0 G0 ⊢
 -- the boxes
 have B1:=(Below.refl w.heap.size w).alloc (Nat.le_refl _) (.cells #[.pointer (some ⟨mb,0,none⟩)] 62);have y1:=heap_alloc_new w (.cells #[.pointer (some ⟨mb,0,none⟩)] 62);have B2:=(Below.refl (w.heap.size+1) (w.alloc (.cells #[.pointer (some ⟨mb,0,none⟩)] 62))).alloc (by simp) (.cells #[.int .i64 op,.int .i64 n,.string s,.slice q ks.length c] 24);have y2:=heap_alloc_new (w.alloc (.cells #[.pointer (some ⟨mb,0,none⟩)] 62)) (.cells #[.int .i64 op,.int .i64 n,.string s,.slice q ks.length c] 24);have B3:=(Below.refl (w.heap.size+1+1) ((w.alloc (.cells #[.pointer (some ⟨mb,0,none⟩)] 62)).alloc (.cells #[.int .i64 op,.int .i64 n,.string s,.slice q ks.length c] 24))).alloc (by simp) (.cells #[.int .i64 m.next] 3);have y3:=heap_alloc_new ((w.alloc (.cells #[.pointer (some ⟨mb,0,none⟩)] 62)).alloc (.cells #[.int .i64 op,.int .i64 n,.string s,.slice q ks.length c] 24)) (.cells #[.int .i64 m.next] 3);simp only[World.size_alloc] at y2 y3;have J1:=B1.trans (B2.mono (by omega));have z1:=(B3.block _ (by omega)).trans ((B2.block _ (by omega)).trans y1);have z2:=(B3.block _ (by omega)).trans y2;have BA:=J1.trans (B3.mono (by omega));have HY:=aa (And.intro ((B2.block _ (by omega)).trans y1) (hm.below J1));have B6:=aa ((((Bx.nil mb _).cons z2 (by have:=hm.lt; omega) rfl).cons y3 (by have:=hm.lt; omega) rfl).cons z1 hm.lt rfl);have HM:=aa (hm.below BA);have HU:=aa (hu.below BA);have HB:=aa BA;have B7:=aa (KpG.of (mb:=mb) (kb:=kb) (ub:=ub) BA (Nat.le_of_lt hm.lt));have N7:=aa (fun (W:World) (b:Below mb w W)=>(H0.kept b (Nat.le_refl _)));have I9:=aa L5;have J0:=aa L7;have N1:=aa L6;have C6:=aa (And.intro hk (And.intro H1 (And.intro L0 (And.intro L4 J9))));have HF:=aa hf;have HT:=aa ht;have HI:=aa (And.intro I0 (And.intro I1 H2));have L8:=aa hm.lt;clear B1 y1 B2 y2 B3 y3 z1 z2 BA J1 hm hu hv H0 L1 L5 L7 L6 hk H1 hf M7 G1 hd L0 L4 J9 I0 I1 H2;go_enter Tryz.func104,Tryz.ntmps104;go_upto_region 1 with(fail)
 have e0:=ab HY.out.1 0 _ rfl;have m5:=ab HY.out.2.box 5 _ rfl;clear HY;go_upto_region 3 with(fail)
 obtain⟨B,hB⟩:∃ B,Hid (w.heap.size=B):=⟨_,aa rfl⟩
 simp only[hB.out] at B6 ⊢;clear e0 m5;generalize World.alloc _ _=w1 at *;have e0:=ab (B6.out.at' _ (.head _)) 0 _ rfl;have c0:=ab (B6.out.at' _ (.tail _ (.tail _ (.head _)))) 0 _ rfl;have c1:=ab (B6.out.at' _ (.tail _ (.tail _ (.head _)))) 1 _ rfl;have c2:=ab (B6.out.at' _ (.tail _ (.tail _ (.head _)))) 2 _ rfl;have c3:=ab (B6.out.at' _ (.tail _ (.tail _ (.head _)))) 3 _ rfl;simp only at e0 c0 c1 c2 c3;rcases cy HT.out with h1|⟨rfl, -⟩|⟨rfl, -⟩|⟨h1,a,A3,ha, -⟩|⟨h1,a,b,A3,ha,hb⟩|⟨rfl,a,b,cc,A3,ha,hb,hc⟩|⟨h1,a,b,A3,ha,hb⟩
 ·have D5:(1:Int)=2→∃ b,ub=some b:=fun e=>by cases e
  rcases h1 with rfl|rfl|rfl
  ·have HR:=aa (E0.out ⟨1,n,txt0,0,0⟩ w1 HB.out (zbn (by first|exact HI.out.2.1|exact HI.out.1) (by unfold I64; omega) (by first|exact HI.out.2.2|(show(0:Nat)≤2000000; omega))) D5);unfold txt0 at HR;go_wp2_with fail
   refine HR.out.mono ?_;rintro e w2 ⟨rfl,A1,A2⟩;have A8:=aa (And.intro A1 A2);clear A1 A2;go_wp2_with fail
   go_ret;rw[px (t:=.mk 1 n s ks) (.inl rfl)];exact⟨rfl,KpG.then B7.out (.inl rfl) A8.out.1,A8.out.2⟩
  ·have HR:=aa (E0.out ⟨1,n,txt0,0,0⟩ w1 HB.out (zbn (by first|exact HI.out.2.1|exact HI.out.1) (by unfold I64; omega) (by first|exact HI.out.2.2|(show(0:Nat)≤2000000; omega))) D5);unfold txt0 at HR;go_wp2_with fail
   refine HR.out.mono ?_;rintro e w2 ⟨rfl,A1,A2⟩;have A8:=aa (And.intro A1 A2);clear A1 A2;go_wp2_with fail
   go_ret;rw[px (t:=.mk 2 n s ks) (.inr (.inl rfl))];exact⟨rfl,KpG.then B7.out (.inl rfl) A8.out.1,A8.out.2⟩
  ·have HR:=aa (E0.out ⟨1,n,txt0,0,0⟩ w1 HB.out (zbn (by first|exact HI.out.2.1|exact HI.out.1) (by unfold I64; omega) (by first|exact HI.out.2.2|(show(0:Nat)≤2000000; omega))) D5);unfold txt0 at HR;go_wp2_with fail
   refine HR.out.mono ?_;rintro e w2 ⟨rfl,A1,A2⟩;have A8:=aa (And.intro A1 A2);clear A1 A2;go_wp2_with fail
   go_ret;rw[px (t:=.mk 3 n s ks) (.inr (.inr rfl))];exact⟨rfl,KpG.then B7.out (.inl rfl) A8.out.1,A8.out.2⟩
 ·have D5:(2:Int)=2→∃ b,ub=some b:=fun _=>N1.out rfl;have HR:=aa (E0.out ⟨2,n,s,0,0⟩ w1 HB.out (zbn (by first|exact HI.out.2.1|exact HI.out.1) (by unfold I64; omega) (by first|exact HI.out.2.2|(show(0:Nat)≤2000000; omega))) D5);go_wp2_with fail
  refine HR.out.mono ?_;rintro e w2 ⟨rfl,A1,A2⟩;have A8:=aa (And.intro A1 A2);clear A1 A2;go_wp2_with fail
  go_ret;rw[qx (t:=.mk 4 n s ks) rfl];exact⟨rfl,KpG.then B7.out (.inl rfl) A8.out.1,A8.out.2⟩
 ·have D5:(3:Int)=2→∃ b,ub=some b:=fun e=>by cases e
  have HR:=aa (E0.out ⟨3,n,txt0,0,0⟩ w1 HB.out (zbn (by first|exact HI.out.2.1|exact HI.out.1) (by unfold I64; omega) (by first|exact HI.out.2.2|(show(0:Nat)≤2000000; omega))) D5);unfold txt0 at HR;go_wp2_with fail
  refine HR.out.mono ?_;rintro e w2 ⟨rfl,A1,A2⟩;have A8:=aa (And.intro A1 A2);clear A1 A2;go_wp2_with fail
  go_ret;rw[tu (t:=.mk 5 n s ks) rfl];exact⟨rfl,KpG.then B7.out (.inl rfl) A8.out.1,A8.out.2⟩
 ·have E9:(6≤op∧op≤14)∨(17≤op∧op≤21):=by omega
  have B8:6≤op∧op≤21∧op≠15∧op≠16:=by omega
  have g1:((op:Int) == 1)=false:=by simp; omega
  have g2:((op:Int) == 2)=false:=by simp; omega
  have g3:((op:Int) == 3)=false:=by simp; omega
  have g4:((op:Int) == 4)=false:=by simp; omega
  have g5:((op:Int) == 5)=false:=by simp; omega
  have I4:((op:Int) == 15)=false:=by simp; omega
  have I3:((op:Int) == 16)=false:=by simp; omega
  have I2:((op:Int) == 22)=false:=by simp; omega
  have C9:=aa (And.intro E9 B8);have G3:=aa A3;have N0:=aa ha;have F2:(T.mk op n s ks).ks[0]? = some a:=by show ks[0]? = some a; rw[A3]; rfl
  have D3:a∈ks:=by rw[A3]; simp
  have hz:(T.mk op n s ks).size=1+a.size:=by rw[T.size,A3]; simp[sizes]
  have B9:ks.length=1:=by rw[A3]; rfl
  have l1:decide ((1:Int)<(ks.length:Int))=false:=decide_eq_false (by omega);have G7:decide (1<ks.length)=false:=decide_eq_false (by omega);have l3:0<ks.length:=by omega
  have l4:ks≠[]:=by rw[A3]; simp
  have G2:=aa B9;have HZ:=aa hz;have C7:=C6.out;obtain⟨cb,off,kop,kn,kst,pk,kl,ck,hq,H9,E6,r0,r1,r2,r3⟩:=dz (t:=.mk op n s ks) (kids_kept I7.out (HB.out.mono (Nat.le_of_lt L8.out))) F2;subst hq;have A9:=aa (HO a m u k mb kb ub vw vi vj _ w1.drew ha (J0.out a D3) (E6.kept ((Below.refl mb w1).drew) (Nat.le_refl _)) HM.out.drew (HU.out.below (Below.refl _ w1).drew) (I9.out a D3) HF.out (by omega) (by omega));rw[D9.out] at A9;simp only[Nat.zero_mul,Nat.add_zero] at r0 r1 r2 r3;have B4:=aa (co sh d a m u k ha HF.out);obtain⟨O,hO⟩:∃ O,Hid (obs sh d a m u=O):=⟨_,aa rfl⟩
  rw[hO.out] at A9 B4;clear A3 ha F2 D3 hz B9 C7 E6 H9 E9 B8 h1;go_upto_region 16 with(fail)
  clear g1 g2 g3 g4 g5 I4 I3 I2;go_still_tail 6,(by kernel_rfl)
  change wpList _ _ _ _ _ w1.drew
  go_wp2_with fail
  refine A9.out.mono ?_;rintro e w2 ⟨rfl,A1,A2⟩;have A0:=aa ((B6.out.below (Below.refl _ w1).drew).kp A1.kp (HU.out.below (Below.refl _ w1).drew));have C0:=aa A2;obtain⟨C3,C5,C4,B0,m2,F1⟩:=KpG.next ⟨.inl rfl,B7.out.trans HM.out.kd (.inl rfl)⟩ A1;have E1:=aa m2;have A5:=aa F1;clear A1 A2 m2 F1 A9 e0 c0 c1 c2 c3 r0 r1 r2 r3 B6 HU HM B7;have e0:=ab (A0.out.at' _ (.head _)) 0 _ rfl;have c0:=ab (A0.out.at' _ (.tail _ (.tail _ (.head _)))) 0 _ rfl;have c3:=ab (A0.out.at' _ (.tail _ (.tail _ (.head _)))) 3 _ rfl;simp only at e0 c0 c3;have F4:=aa (fun W=>zgr op W C9.out.1);obtain⟨po,C8⟩:∃ po,Hid (ai op=po∧4≤po∧po≤30):=⟨_,aa ⟨rfl,by unfold ai; have:=C9.out.1; split<;>omega,by unfold ai; have:=C9.out.1; split<;>omega⟩⟩
  rw[C8.out.1] at F4;have C7:=C6.out;have E4:=HZ.out;have H4:=B4.out.r;have H3:0≤(0:Int)∧(0:Int)≤700000:=by omega
  have H7:=B4.out.m.len;have H5:=B4.out.m.pt;have H6:=B4.out.m.nx;have E8:=B4.out.u;have I5:=aa (show ValOk ⟨po,0,txt0,O.1,0⟩ from⟨(by have:=C8.out; show I64 po; unfold I64; omega),(by show I64 0; unfold I64; omega),(by show(0:Nat)≤maxLen; unfold maxLen; omega),(by show I64 O.1; unfold I64; omega),(by show I64 0; unfold I64; omega)⟩);have A4:=aa (show O.2.1.ins.length≤800000∧(0≤O.2.1.next∧O.2.1.next≤800000)∧(O.2.2.length≤800000∧O.2.1.puts≤800000) by omega);clear C7 E4 H4 H3 H7 H5 H6 E8;go_wp2_with fail
  refine(F4.out _).mono ?_;rintro e w4 ⟨rfl,b4⟩;have bn:=(Below.refl w4.heap.size w4).alloc (Nat.le_refl _) (.cells #[.int .i64 po,.int .i64 0,.string ⟨#[]⟩,.int .i64 O.1,.int .i64 0] 171);have HN:=aa (heap_alloc_new w4 (.cells #[.int .i64 po,.int .i64 0,.string ⟨#[]⟩,.int .i64 O.1,.int .i64 0] 171));have B5:=Below.more b4 bn;have C2:=aa (A0.out.below B5);have F3:=aa (C0.out.below B5);have D7:=aa (E1.out.below B5);have D8:=aa (show(B0=kb∨w.heap.size≤B0)∧KpG mb kb ub w _ from⟨A5.out.1,A5.out.2.trans (kb':=B0) (KpG.of B5 (Nat.le_of_lt E1.out.lt)) A5.out.1⟩);clear b4 bn B5 e0 c0 c3;go_upto_region 21 with(fail)
  obtain⟨vb,G9⟩:∃ vb,Hid (w4.heap.size=vb):=⟨_,aa rfl⟩
  simp only[G9.out] at HN ⊢;generalize World.alloc _ _=w5 at *;have e0:=ab (C2.out.at' _ (.head _)) 0 _ rfl;have m3:=ab D7.out.box 3 _ rfl;have v0:=ab HN.out 0 _ rfl;have v1:=ab HN.out 1 _ rfl;have v2:=ab HN.out 2 _ rfl;have v3:=ab HN.out 3 _ rfl;have v4:=ab HN.out 4 _ rfl;simp only at e0;have HE:=aa (show obs sh (d+1) (T.mk op n s ks) m u=if sh=true then au sh ⟨po,0,txt0,O.1,0⟩ O.2.1 O.2.2 else(O.1,(O.2.1.lay ⟨po,O.1,O.1,0,0,txt0,0⟩).free sh (m.next+1),O.2.2) by
   rw[mj (t:=.mk op n s ks) C9.out.2];rw[iz (t:=.mk op n s ks) (show ¬1<ks.length by rw[G2.out]; decide) (show(T.mk op n s ks).kid 0=a by rw[G3.out]; rfl) hO.out];show(if sh=true then au sh ⟨ai op,_,_,_,_⟩ _ _ else(_,(Mk.lay _ ⟨ai op,_,_,_,_,_,_⟩).free sh _,_))=_
   rw[C8.out.1])
  cases sh with
  |true=>
   have D6:=aa (qo mb B0 ub true O.2.1 O.2.2 C3 C5 C4 ⟨po,0,txt0,O.1,0⟩ w5 D7.out F3.out I5.out (fun e=>by have:=C8.out; have e':po=2:=e; omega) A4.out.1 A4.out.2.1 A4.out.2.2);rw[D9.out] at D6;unfold txt0 at D6;go_wp2_with fail
   refine D6.out.mono ?_;rintro e w6 ⟨rfl,A6,E7⟩;have F9:=aa (And.intro (KpG.then D8.out.2 D8.out.1 A6) E7);clear A6 E7;go_wp2_with fail
   go_ret;rw[HE.out];exact⟨rfl,F9.out.1,F9.out.2⟩
  |false=>
   have F6:=aa (ir mb B0 false O.2.1 C3 C5 C4 ⟨po,O.1,O.1,0,0,txt0,0⟩ w5 D7.out (by have:=A4.out.1; omega));unfold txt0 at F6;go_wp2_with fail
   refine F6.out.mono ?_;rintro e w6 ⟨rfl,A6⟩;have C1:=aa (C2.out.kp A6.kp (u:=[]) am);have I6:=aa (F3.out.kp A6.kp);obtain⟨G4,G6,G5,G8,M6,K6⟩:=KpG.next D8.out A6.wk;have F7:=aa K6;have q0:=C1.out.at' _ (.head _);have q1:=C1.out.at' _ (.tail _ (.head _));simp only at q0 q1;have D0:=aa (uv mb G8 false _ G4 G6 G5 w6 B (B+1+1) O.1 m.next M6 (by have:=C6.out; omega) q0 q1);clear A6 M6 K6 q0 q1 e0 m3 v0 v1 v2 v3 v4;go_wp2_with fail
   refine D0.out.mono ?_;rintro e w7 ⟨rfl,D4⟩;have F8:=aa (And.intro (KpG.then F7.out.2 F7.out.1 D4.wk) (I6.out.kp D4.kp));clear D4;go_wp2_with fail
   go_ret;rw[HE.out];exact⟨rfl,F8.out.1,F8.out.2⟩
 ·rcases h1 with rfl|rfl
  ·clear A3;have HC:=aa (G0.out w1 HB.out (by omega));obtain⟨R,hR⟩:∃ R,Hid (cho sh d (T.mk 15 n s ks) m u=R):=⟨_,aa rfl⟩
   have HE:=aa (show obs sh (d+1) (T.mk 15 n s ks) m u=chosen m sh R by rw[←hR.out,tv (t:=.mk 15 n s ks) rfl]; rfl);rw[hR.out] at HC;go_wp2_with fail
   refine HC.out.mono ?_;rintro e w2 ⟨rfl,A1,A2⟩;have A0:=aa (B6.out.kp A1.kp HU.out);obtain⟨C3,C5,C4,B0,M2,K2⟩:=KpG.next ⟨.inl rfl,B7.out⟩ A1;have A5:=aa K2;have C0:=aa A2;have q0:=A0.out.at' _ (.head _);have q1:=A0.out.at' _ (.tail _ (.head _));simp only at q0 q1;have D0:=aa (uv mb B0 sh R.1 C3 C5 C4 w2 B (B+1+1) m.next m.next M2 (by have:=C6.out; omega) q0 q1);clear q0 q1;clear A1 A2 M2 K2 e0 c0 c1 c2 c3;go_wp2_with fail
   refine D0.out.mono ?_;rintro e w3 ⟨rfl,A7⟩;have D2:=aa (And.intro (KpG.then A5.out.2 A5.out.1 A7.wk) (C0.out.kp A7.kp));clear A7;go_wp2_with fail
   go_ret;rw[HE.out];exact⟨rfl,D2.out.1,D2.out.2⟩
  ·clear A3;have HC:=aa (G0.out w1 HB.out (by omega));obtain⟨R,hR⟩:∃ R,Hid (cho sh d (T.mk 16 n s ks) m u=R):=⟨_,aa rfl⟩
   have HE:=aa (show obs sh (d+1) (T.mk 16 n s ks) m u=chosen m sh R by rw[←hR.out,yd (t:=.mk 16 n s ks) rfl]; rfl);rw[hR.out] at HC;go_wp2_with fail
   refine HC.out.mono ?_;rintro e w2 ⟨rfl,A1,A2⟩;have A0:=aa (B6.out.kp A1.kp HU.out);obtain⟨C3,C5,C4,B0,M2,K2⟩:=KpG.next ⟨.inl rfl,B7.out⟩ A1;have A5:=aa K2;have C0:=aa A2;have q0:=A0.out.at' _ (.head _);have q1:=A0.out.at' _ (.tail _ (.head _));simp only at q0 q1;have D0:=aa (uv mb B0 sh R.1 C3 C5 C4 w2 B (B+1+1) m.next m.next M2 (by have:=C6.out; omega) q0 q1);clear q0 q1;clear A1 A2 M2 K2 e0 c0 c1 c2 c3;go_wp2_with fail
   refine D0.out.mono ?_;rintro e w3 ⟨rfl,A7⟩;have D2:=aa (And.intro (KpG.then A5.out.2 A5.out.1 A7.wk) (C0.out.kp A7.kp));clear A7;go_wp2_with fail
   go_ret;rw[HE.out];exact⟨rfl,D2.out.1,D2.out.2⟩
 ·clear A3;have HC:=aa (G0.out w1 HB.out (by omega));obtain⟨R,hR⟩:∃ R,Hid (cho sh d (T.mk 22 n s ks) m u=R):=⟨_,aa rfl⟩
  have HE:=aa (show obs sh (d+1) (T.mk 22 n s ks) m u=chosen m sh R by rw[←hR.out,yf (t:=.mk 22 n s ks) rfl]; rfl);rw[hR.out] at HC;go_wp2_with fail
  refine HC.out.mono ?_;rintro e w2 ⟨rfl,A1,A2⟩;have A0:=aa (B6.out.kp A1.kp HU.out);obtain⟨C3,C5,C4,B0,M2,K2⟩:=KpG.next ⟨.inl rfl,B7.out⟩ A1;have A5:=aa K2;have C0:=aa A2;have q0:=A0.out.at' _ (.head _);have q1:=A0.out.at' _ (.tail _ (.head _));simp only at q0 q1;have D0:=aa (uv mb B0 sh R.1 C3 C5 C4 w2 B (B+1+1) m.next m.next M2 (by have:=C6.out; omega) q0 q1);clear q0 q1;clear A1 A2 M2 K2 e0 c0 c1 c2 c3;go_wp2_with fail
  refine D0.out.mono ?_;rintro e w3 ⟨rfl,A7⟩;have D2:=aa (And.intro (KpG.then A5.out.2 A5.out.1 A7.wk) (C0.out.kp A7.kp));clear A7;go_wp2_with fail
  go_ret;rw[HE.out];exact⟨rfl,D2.out.1,D2.out.2⟩
 ·have E9:(6≤op∧op≤14)∨(17≤op∧op≤21):=by unfold ct at h1; omega
  have B8:6≤op∧op≤21∧op≠15∧op≠16:=by omega
  have g1:((op:Int) == 1)=false:=by simp; omega
  have g2:((op:Int) == 2)=false:=by simp; omega
  have g3:((op:Int) == 3)=false:=by simp; omega
  have g4:((op:Int) == 4)=false:=by simp; omega
  have g5:((op:Int) == 5)=false:=by simp; omega
  have I4:((op:Int) == 15)=false:=by simp; omega
  have I3:((op:Int) == 16)=false:=by simp; omega
  have I2:((op:Int) == 22)=false:=by simp; omega
  have C9:=aa (And.intro E9 B8);have G3:=aa A3;have N0:=aa ha;have M0:=aa hb;have F2:(T.mk op n s ks).ks[0]? = some a:=by show ks[0]? = some a; rw[A3]; rfl
  have D3:a∈ks:=by rw[A3]; simp
  have L3:(T.mk op n s ks).ks[1]? = some b:=by show ks[1]? = some b; rw[A3]; rfl
  have F0:b∈ks:=by rw[A3]; simp
  have M9:=aa L3;have F5:=aa F0;have hz:(T.mk op n s ks).size=1+(a.size+b.size):=by rw[T.size,A3]; simp[sizes]
  have B9:ks.length=2:=by rw[A3]; rfl
  have l1:decide ((1:Int)<(ks.length:Int))=true:=decide_eq_true (by omega);have l2:1<ks.length:=by omega
  have G7:decide (1<ks.length)=true:=decide_eq_true l2;have l3:0<ks.length:=by omega
  have l4:ks≠[]:=by rw[A3]; simp
  have HL:=aa (And.intro l1 (And.intro l2 (And.intro G7 (And.intro l3 l4))));have G2:=aa B9;have HZ:=aa hz;have C7:=C6.out;obtain⟨cb,off,kop,kn,kst,pk,kl,ck,hq,H9,E6,r0,r1,r2,r3⟩:=dz (t:=.mk op n s ks) (kids_kept I7.out (HB.out.mono (Nat.le_of_lt L8.out))) F2;subst hq;have A9:=aa (HO a m u k mb kb ub vw vi vj _ w1.drew ha (J0.out a D3) (E6.kept ((Below.refl mb w1).drew) (Nat.le_refl _)) HM.out.drew (HU.out.below (Below.refl _ w1).drew) (I9.out a D3) HF.out (by omega) (by omega));rw[D9.out] at A9;simp only[Nat.zero_mul,Nat.add_zero] at r0 r1 r2 r3;have B4:=aa (co sh d a m u k ha HF.out);obtain⟨O,hO⟩:∃ O,Hid (obs sh d a m u=O):=⟨_,aa rfl⟩
  rw[hO.out] at A9 B4;clear A3 ha hb F2 D3 L3 F0 hz B9 C7 E6 H9 E9 B8 h1;go_upto_region 16 with(fail)
  clear g1 g2 g3 g4 g5 I4 I3 I2;go_still_tail 6,(by kernel_rfl)
  change wpList _ _ _ _ _ w1.drew
  go_wp2_with fail
  refine A9.out.mono ?_;rintro e w2 ⟨rfl,A1,A2⟩;have A0:=aa ((B6.out.below (Below.refl _ w1).drew).kp A1.kp (HU.out.below (Below.refl _ w1).drew));have C0:=aa A2;obtain⟨C3,C5,C4,B0,m2,F1⟩:=KpG.next ⟨.inl rfl,B7.out.trans HM.out.kd (.inl rfl)⟩ A1;have E1:=aa m2;have A5:=aa F1;clear A1 A2 m2 F1 A9 e0 c0 c1 c2 c3 r0 r1 r2 r3 B6 HU HM B7;have e0:=ab (A0.out.at' _ (.head _)) 0 _ rfl;have c0:=ab (A0.out.at' _ (.tail _ (.tail _ (.head _)))) 0 _ rfl;have c3:=ab (A0.out.at' _ (.tail _ (.tail _ (.head _)))) 3 _ rfl;simp only at e0 c0 c3;have C7:=C6.out;have E4:=HZ.out;have E8:=B4.out.u;obtain⟨N6,M1,M4,N3,M3,N2,N4,N5,J8,H8,E5,r0,r1,r2,r3⟩:=dz (t:=.mk op n s ks) (kids_kept I7.out A5.out.2.bel) M9.out;simp only[Option.some.injEq,Addr.mk.injEq,and_true] at J8;obtain⟨J7,J6⟩:=J8;rw[←J7,←J6] at r0 r1 r2 r3;have A9:=aa (HO b O.2.1 O.2.2 (k+8 * a.size) mb B0 ub C3 C5 C4 _ w2.drew M0.out (J0.out b F5.out) (E5.kept ((Below.refl mb w2).drew) (Nat.le_refl _)) E1.out.drew (C0.out.below (Below.refl _ w2).drew) (I9.out b F5.out) B4.out.m (by omega) (by omega));rw[D9.out] at A9;simp only[Nat.one_mul] at r0 r1 r2 r3;have E2:=aa (co sh d b O.2.1 O.2.2 (k+8 * a.size) M0.out B4.out.m);obtain⟨P,hP⟩:∃ P,Hid (obs sh d b O.2.1 O.2.2=P):=⟨_,aa rfl⟩
  rw[hP.out] at A9 E2;clear C7 E4 E8 E5 H8 J7 J6;have j2:(1:Int)<(ks.length:Int):=by have:=G2.out; omega
  have j3:(0:Int)≤1:=by omega
  go_upto_region 19 with(fail)
  clear l1 l2 G7 l3 l4;go_still_tail 6,(by kernel_rfl)
  change wpList _ _ _ _ _ w2.drew
  go_wp2_with fail
  refine A9.out.mono ?_;rintro e w3 ⟨rfl,A7,J5⟩;have D1:=aa ((A0.out.below (Below.refl _ w2).drew).kp A7.kp (C0.out.below (Below.refl _ w2).drew));have M8:=aa J5;obtain⟨J2,J4,J3,E3,m3,L2⟩:=KpG.next ⟨A5.out.1,A5.out.2.trans E1.out.kd A5.out.1⟩ A7;have L9:=aa m3;have I8:=aa L2;clear A7 J5 m3 L2 A9 e0 c0 c3 r0 r1 r2 r3 A0 C0 E1 A5;have e0:=ab (D1.out.at' _ (.head _)) 0 _ rfl;have c0:=ab (D1.out.at' _ (.tail _ (.tail _ (.head _)))) 0 _ rfl;have c3:=ab (D1.out.at' _ (.tail _ (.tail _ (.head _)))) 3 _ rfl;simp only at e0 c0 c3;have F4:=aa (fun W=>zgr op W C9.out.1);obtain⟨po,C8⟩:∃ po,Hid (ai op=po∧4≤po∧po≤30):=⟨_,aa ⟨rfl,by unfold ai; have:=C9.out.1; split<;>omega,by unfold ai; have:=C9.out.1; split<;>omega⟩⟩
  rw[C8.out.1] at F4;have C7:=C6.out;have E4:=HZ.out;have H4:=B4.out.r;have H3:0≤(P.1:Int)∧(P.1:Int)≤700000:=by have:=E2.out.r; omega
  have H7:=E2.out.m.len;have H5:=E2.out.m.pt;have H6:=E2.out.m.nx;have E8:=B4.out.u;have M5:=E2.out.u;have I5:=aa (show ValOk ⟨po,0,txt0,O.1,P.1⟩ from⟨(by have:=C8.out; show I64 po; unfold I64; omega),(by show I64 0; unfold I64; omega),(by show(0:Nat)≤maxLen; unfold maxLen; omega),(by show I64 O.1; unfold I64; omega),(by show I64 P.1; unfold I64; omega)⟩);have A4:=aa (show P.2.1.ins.length≤800000∧(0≤P.2.1.next∧P.2.1.next≤800000)∧(P.2.2.length≤800000∧P.2.1.puts≤800000) by omega);clear C7 E4 H4 H3 H7 H5 H6 E8 M5;go_wp2_with fail
  refine(F4.out _).mono ?_;rintro e w4 ⟨rfl,b4⟩;have bn:=(Below.refl w4.heap.size w4).alloc (Nat.le_refl _) (.cells #[.int .i64 po,.int .i64 0,.string ⟨#[]⟩,.int .i64 O.1,.int .i64 P.1] 171);have HN:=aa (heap_alloc_new w4 (.cells #[.int .i64 po,.int .i64 0,.string ⟨#[]⟩,.int .i64 O.1,.int .i64 P.1] 171));have B5:=Below.more b4 bn;have C2:=aa (D1.out.below B5);have F3:=aa (M8.out.below B5);have D7:=aa (L9.out.below B5);have D8:=aa (show(E3=kb∨w.heap.size≤E3)∧KpG mb kb ub w _ from⟨I8.out.1,I8.out.2.trans (kb':=E3) (KpG.of B5 (Nat.le_of_lt L9.out.lt)) I8.out.1⟩);clear b4 bn B5 e0 c0 c3;go_upto_region 21 with(fail)
  obtain⟨vb,G9⟩:∃ vb,Hid (w4.heap.size=vb):=⟨_,aa rfl⟩
  simp only[G9.out] at HN ⊢;generalize World.alloc _ _=w5 at *;have e0:=ab (C2.out.at' _ (.head _)) 0 _ rfl;have m3:=ab D7.out.box 3 _ rfl;have v0:=ab HN.out 0 _ rfl;have v1:=ab HN.out 1 _ rfl;have v2:=ab HN.out 2 _ rfl;have v3:=ab HN.out 3 _ rfl;have v4:=ab HN.out 4 _ rfl;simp only at e0;have HE:=aa (show obs sh (d+1) (T.mk op n s ks) m u=if sh=true then au sh ⟨po,0,txt0,O.1,P.1⟩ P.2.1 P.2.2 else(O.1,(P.2.1.lay ⟨po,O.1,O.1,P.1,0,txt0,0⟩).free sh (m.next+1),P.2.2) by
   rw[mj (t:=.mk op n s ks) C9.out.2];rw[iy (t:=.mk op n s ks) (show 1<ks.length by rw[G2.out]; decide) (show(T.mk op n s ks).kid 0=a by rw[G3.out]; rfl) hO.out (show(T.mk op n s ks).kid 1=b by rw[G3.out]; rfl) hP.out];show(if sh=true then au sh ⟨ai op,_,_,_,_⟩ _ _ else(_,(Mk.lay _ ⟨ai op,_,_,_,_,_,_⟩).free sh _,_))=_
   rw[C8.out.1])
  cases sh with
  |true=>
   have D6:=aa (qo mb E3 ub true P.2.1 P.2.2 J2 J4 J3 ⟨po,0,txt0,O.1,P.1⟩ w5 D7.out F3.out I5.out (fun e=>by have:=C8.out; have e':po=2:=e; omega) A4.out.1 A4.out.2.1 A4.out.2.2);rw[D9.out] at D6;unfold txt0 at D6;go_wp2_with fail
   refine D6.out.mono ?_;rintro e w6 ⟨rfl,A6,E7⟩;have F9:=aa (And.intro (KpG.then D8.out.2 D8.out.1 A6) E7);clear A6 E7;go_wp2_with fail
   go_ret;rw[HE.out];exact⟨rfl,F9.out.1,F9.out.2⟩
  |false=>
   have F6:=aa (ir mb E3 false P.2.1 J2 J4 J3 ⟨po,O.1,O.1,P.1,0,txt0,0⟩ w5 D7.out (by have:=A4.out.1; omega));unfold txt0 at F6;go_wp2_with fail
   refine F6.out.mono ?_;rintro e w6 ⟨rfl,A6⟩;have C1:=aa (C2.out.kp A6.kp (u:=[]) am);have I6:=aa (F3.out.kp A6.kp);obtain⟨G4,G6,G5,G8,M6,K6⟩:=KpG.next D8.out A6.wk;have F7:=aa K6;have q0:=C1.out.at' _ (.head _);have q1:=C1.out.at' _ (.tail _ (.head _));simp only at q0 q1;have D0:=aa (uv mb G8 false _ G4 G6 G5 w6 B (B+1+1) O.1 m.next M6 (by have:=C6.out; omega) q0 q1);clear A6 M6 K6 q0 q1 e0 m3 v0 v1 v2 v3 v4;go_wp2_with fail
   refine D0.out.mono ?_;rintro e w7 ⟨rfl,D4⟩;have F8:=aa (And.intro (KpG.then F7.out.2 F7.out.1 D4.wk) (I6.out.kp D4.kp));clear D4;go_wp2_with fail
   go_ret;rw[HE.out];exact⟨rfl,F8.out.1,F8.out.2⟩
theorem ye (sh:Bool):∀ d:Nat,tp sh d
 |0=>fun t m u k mb kb ub vw vi vj v w ht hd=>(by have:=je t; omega)
 |d+1=>zud (ye sh d)
end Gf
end
section
open Go.RowKit
open Rw
set_option maxRecDepth 100000
attribute [local go_sem] dp
namespace Gf
open Co Dn
def zct (sh:Bool)(d:Nat):Prop:=∀(t:T) (m:Mk) (k mb kb:Nat) (vw vi vj v:Value) (w:World),t.letter=99→t.depth≤d→CoreAt mb w t v→MkAt mb sh m vw vi vj kb w→Fit k m→k+8 * t.size≤700000 →
 Calls Tryz.prog 50 #[.pointer (some ⟨mb,0,none⟩),v] w (fun e w'=>(∃ r,e=.returned r)∧Lays mb kb none sh (con sh d t m) w w')
set_option maxHeartbeats 4000000 in
theorem zlk {sh:Bool}{d:Nat}(HO:zct sh d)(t a:T)(m:Mk)(k mb kb:Nat)(vw vi vj:Value)(w:World)(b0 b1:Nat)(cs:Array Value)(A1:t.ks[1]? = some a)(ha:a.letter=99)(hd:a.depth≤d)(hv:CoreAt mb w t (.agg cs))(hm:MkAt mb sh m vw vi vj kb w)
  (hf:Fit k m) (hk:k+8 * a.size≤700000) (A0:Bx mb [(b0,#[.pointer (some ⟨mb,0,none⟩)],62),(b1,cs,24)] w):
  Calls Tryz.prog 148 #[.pointer (some ⟨b0,0,none⟩),.pointer (some ⟨b1,0,none⟩)] w (Does mb kb none sh (con sh d a m) [] w):=by
 obtain⟨q,c,A3,A7, -, -, -,A5⟩:=hv.open;simp only[Value.agg.injEq] at A3;subst A3;obtain⟨b,off,kop,kn,kst,pk,kl,ck,rfl,A9,A2,r0,r1,r2,r3⟩:=dz A5 A1;have HI:=aa (HO a m k mb kb vw vi vj _ w.drew ha hd (A2.kept ((Below.refl mb w).drew) (Nat.le_refl _)) hm.drew hf hk);have A8:=aa (hm.kd (ub:=none));have e0:=ab (A0.at' _ (.head _)) 0 _ rfl;have e1:=ab (A0.at' _ (.tail _ (.head _))) 3 _ rfl;simp only at e0 e1;have j2:(1:Int)<(t.ks.length:Int):=by
  have:=(List.getElem?_eq_some_iff.1 A1).1;omega
 obtain⟨ln,A6⟩:∃ x,Hid (t.ks.length=x):=⟨_,aa rfl⟩
 rw[A6.out] at e1 j2;simp only[Nat.one_mul,Nat.reduceMul] at r0 r1 r2 r3;obtain⟨O,hO⟩:∃ O,Hid (con sh d a m=O):=⟨_,aa rfl⟩
 rw[hO.out] at HI ⊢;clear A0 hv hm hk hf ha hd HO A5 A1 A2 A7;go_enter Tryz.func148,Tryz.ntmps148;go_still_tail 5,(by kernel_rfl)
 change wpList _ _ _ _ _ w.drew
 go_wp2_with fail
 refine HI.out.mono ?_;rintro e w2 ⟨⟨r,rfl⟩,A4⟩;have HF:=aa A4;clear A4;go_wp2_with fail
 refine bodyPost_end (results_none rfl _ _ _) rfl ?_;exact⟨⟨_,rfl⟩,KpG.then A8.out (.inl rfl) HF.out,am⟩
set_option maxHeartbeats 4000000 in
theorem zlj {sh:Bool}{d:Nat}(HO:zct sh d)(t a:T)(m:Mk)(k mb kb:Nat)(vw vi vj:Value)(w:World)(b0 b1:Nat)(cs:Array Value)(A1:t.ks[2]? = some a)(ha:a.letter=99)(hd:a.depth≤d)(hv:CoreAt mb w t (.agg cs))(hm:MkAt mb sh m vw vi vj kb w)
  (hf:Fit k m) (hk:k+8 * a.size≤700000) (A0:Bx mb [(b0,#[.pointer (some ⟨mb,0,none⟩)],62),(b1,cs,24)] w):
  Calls Tryz.prog 149 #[.pointer (some ⟨b0,0,none⟩),.pointer (some ⟨b1,0,none⟩)] w (Does mb kb none sh (con sh d a m) [] w):=by
 obtain⟨q,c,A3,A7, -, -, -,A5⟩:=hv.open;simp only[Value.agg.injEq] at A3;subst A3;obtain⟨b,off,kop,kn,kst,pk,kl,ck,rfl,A9,A2,r0,r1,r2,r3⟩:=dz A5 A1;have HI:=aa (HO a m k mb kb vw vi vj _ w.drew ha hd (A2.kept ((Below.refl mb w).drew) (Nat.le_refl _)) hm.drew hf hk);have A8:=aa (hm.kd (ub:=none));have e0:=ab (A0.at' _ (.head _)) 0 _ rfl;have e1:=ab (A0.at' _ (.tail _ (.head _))) 3 _ rfl;simp only at e0 e1;have j2:(2:Int)<(t.ks.length:Int):=by
  have:=(List.getElem?_eq_some_iff.1 A1).1;omega
 obtain⟨ln,A6⟩:∃ x,Hid (t.ks.length=x):=⟨_,aa rfl⟩
 rw[A6.out] at e1 j2;simp only[Nat.one_mul,Nat.reduceMul] at r0 r1 r2 r3;obtain⟨O,hO⟩:∃ O,Hid (con sh d a m=O):=⟨_,aa rfl⟩
 rw[hO.out] at HI ⊢;clear A0 hv hm hk hf ha hd HO A5 A1 A2 A7;go_enter Tryz.func149,Tryz.ntmps149;go_still_tail 5,(by kernel_rfl)
 change wpList _ _ _ _ _ w.drew
 go_wp2_with fail
 refine HI.out.mono ?_;rintro e w2 ⟨⟨r,rfl⟩,A4⟩;have HF:=aa A4;clear A4;go_wp2_with fail
 refine bodyPost_end (results_none rfl _ _ _) rfl ?_;exact⟨⟨_,rfl⟩,KpG.then A8.out (.inl rfl) HF.out,am⟩
set_option maxHeartbeats 8000000 in
theorem zey {sh:Bool}{d:Nat}(HO:zct sh d)(t o a b:T)(r:Int)(m:Mk)(k mb kb:Nat)(vw vi vj v:Value)(w:World)(E0:t.ks=[o,a,b])(ha:a.letter=99)(hb:b.letter=99)(G8:a.depth≤d)(G7:b.depth≤d)(hv:CoreAt mb w t v)(hm:MkAt mb sh m vw vi vj kb w)
  (hf:Fit k m) (hk:k+2+8 * a.size+8 * b.size≤700000):
  Calls Tryz.prog 105 #[.pointer (some ⟨mb,0,none⟩),.int .i64 r,v] w (fun e w'=>(∃ r,e=.returned r)∧Lays mb kb none sh (either (con sh d) r t m) w w'):=by
 have G0:=hv;obtain⟨q,c,rfl, -, -, -, -, -⟩:=hv.open;obtain⟨op,n,s,ks⟩:=t;have E2:(T.mk op n s ks).ks[1]? = some a:=by rw[E0]; rfl
 have E1:(T.mk op n s ks).ks[2]? = some b:=by rw[E0]; rfl
 have G6:(T.mk op n s ks).kid 1=a:=zjk E2;have G5:(T.mk op n s ks).kid 2=b:=zjk E1;simp only[T.op,T.n,T.s,T.ks];have B1:=(Below.refl w.heap.size w).alloc (Nat.le_refl _) (.cells #[.pointer (some ⟨mb,0,none⟩)] 62);have y1:=heap_alloc_new w (.cells #[.pointer (some ⟨mb,0,none⟩)] 62);have B2:=(Below.refl (w.heap.size+1) (w.alloc (.cells #[.pointer (some ⟨mb,0,none⟩)] 62))).alloc (by simp) (.cells #[.int .i64 op,.int .i64 n,.string s,.slice q ks.length c] 24);have y2:=heap_alloc_new (w.alloc (.cells #[.pointer (some ⟨mb,0,none⟩)] 62)) (.cells #[.int .i64 op,.int .i64 n,.string s,.slice q ks.length c] 24);simp only[World.size_alloc] at y2;have z1:=(B2.block _ (by omega)).trans y1;have BA:=B1.trans (B2.mono (by omega));have A6:=aa (((Bx.nil mb _).cons y2 (by have:=hm.lt; omega) rfl).cons z1 hm.lt rfl);have H2:=aa (hm.below BA);have H6:=aa (show(kb=kb∨w.heap.size≤kb)∧KpG mb kb none w _ from⟨.inl rfl,KpG.of (mb:=mb) (kb:=kb) (ub:=none) BA (Nat.le_of_lt hm.lt)⟩);have H7:=aa (fun (W:World) (b:Below mb w W)=>(G0.kept b (Nat.le_refl _)));have G9:=aa hk;have D2:=aa (And.intro ha (And.intro hb (And.intro G8 G7)));have H3:=aa (And.intro E2 E1);have J6:=hf.len;have f1:=hf.lay (ix 19 0 r 0);have fc:=cx sh d a (m.lay (ix 19 0 r 0)) _ ha f1;have C6:=(zdx sh d a (m.lay (ix 19 0 r 0)))
 rw[ah] at C6;obtain⟨C,hC⟩:∃ C,Hid (con sh d a (m.lay (ix 19 0 r 0))=C):=⟨_,aa rfl⟩
 rw[hC.out] at fc C6;have f2:=((fc.back f1 (by omega)).lay (ix 20 0 0 0)).here m.ins.length;have fd:=cx sh d b (((C.back (m.lay (ix 19 0 r 0)).known).lay (ix 20 0 0 0)).here m.ins.length) _ hb f2;have C5:=(zdx sh d b (((C.back (m.lay (ix 19 0 r 0)).known).lay (ix 20 0 0 0)).here m.ins.length))
 rw[ak,ah,ao] at C5;obtain⟨F,hF⟩:∃ F,Hid (con sh d b (((C.back (m.lay (ix 19 0 r 0)).known).lay (ix 20 0 0 0)).here m.ins.length)=F):=⟨_,aa rfl⟩
 rw[hF.out] at fd C5;have HE:=aa (show either (con sh d) r (T.mk op n s ks) m=(F.back (((C.back (m.lay (ix 19 0 r 0)).known).lay (ix 20 0 0 0)).here m.ins.length).known).here (C.back (m.lay (ix 19 0 r 0)).known).ins.length by
  unfold either;simp only[G6,G5,hC.out,hF.out])
 have J8:=fc.len;have J7:=fd.len;have B3:=aa (show m.ins.length≤700000∧m.ins.length<(C.back (m.lay (ix 19 0 r 0)).known).ins.length∧(C.back (m.lay (ix 19 0 r 0)).known).ins.length≤800000∧(C.back (m.lay (ix 19 0 r 0)).known).ins.length<(F.back (((C.back (m.lay (ix 19 0 r 0)).known).lay (ix 20 0 0 0)).here m.ins.length).known).ins.length∧(F.back (((C.back (m.lay (ix 19 0 r 0)).known).lay (ix 20 0 0 0)).here m.ins.length).known).ins.length≤800000 by rw[ao,ao]; omega);have L0:=aa f1;have J9:=aa f2;have HP:=aa (And.intro C6.1 C5.1);obtain⟨D6,J5⟩:∃ D6,Hid (kb=D6):=⟨_,aa rfl⟩
 have I1:=vw;clear B1 y1 B2 y2 z1 BA hm hv G0 E0 ha hb G8 G7 hf hk E2 E1 G6 G5 J6 f1 fc C6 f2 fd C5 J8 J7;clear I1 J5 D6;go_enter Tryz.func105,Tryz.ntmps105;go_upto_region 1 with(fail)
 obtain⟨B,hB⟩:∃ B,Hid (w.heap.size=B):=⟨_,aa rfl⟩
 simp only[hB.out] at A6 ⊢;generalize World.alloc _ _=w5 at *;have e0:=ab (A6.out.at' _ (.head _)) 0 _ rfl;simp only at e0;have A8:=aa (gh mb kb sh (m) vw vi vj (ix 19 0 r 0) w5 H2.out (by have:=B3.out; omega));unfold ix txt0 at A8;go_wp2_with fail
 refine A8.out.mono ?_;rintro e w6 ⟨f6,rfl,⟨F9,F8,rfl,J3⟩,D9⟩;have A1:=aa (show JumpFn mb w6 _ _ from⟨F9,F8,rfl,J3⟩);have A5:=aa (A6.out.kp D9.kp (u:=[]) am);obtain⟨E7,F1,E9,F5,m6,G4⟩:=KpG.next ⟨.inl rfl,H6.out.2⟩ D9;have D1:=aa m6;have E5:=aa G4;clear D9 m6 G4 H2 H6 A6 A8 e0;have e0:=ab (A5.out.at' _ (.head _)) 0 _ rfl;simp only at e0;have C4:=aa (om mb F5 none sh (m.lay (ix 19 0 r 0)) (C) [] E7 F1 E9 148 #[.pointer (some ⟨B,0,none⟩),.pointer (some ⟨B+1,0,none⟩)] w6 D1.out (fun w=>by kernel_rfl) (HP.out.1)
  (fun W bw=>by rw[←hC.out]; exact zlk HO (T.mk op n s ks) a (m.lay (ix 19 0 r 0)) _ mb F5 E7 F1 E9 W B (B+1) #[.int .i64 op,.int .i64 n,.string s,.slice q ks.length c] H3.out.1 D2.out.1 D2.out.2.2.1 (H7.out W (E5.out.2.bel.trans (bw.mono (Nat.le_of_lt D1.out.lt)))) (D1.out.below bw) L0.out (by have:=G9.out; omega) (A5.out.below bw)))
 go_wp2_with fail
 refine C4.out.mono ?_;rintro e w7 ⟨⟨r7,rfl⟩,C9,J4⟩;have B0:=aa (A5.out.kp C9.kp (u:=[]) am);obtain⟨I0,I7,I4,J0,m7,G3⟩:=KpG.next E5.out C9;have H1:=aa m7;have H5:=aa G3;have A1:=aa (A1.out.kp C9.kp (fun u e=>by cases e));clear C9 m7 G3 J4 D1 E5 A5 C4 e0;have e0:=ab (B0.out.at' _ (.head _)) 0 _ rfl;simp only at e0;have A8:=aa (gh mb J0 sh (C.back (m.lay (ix 19 0 r 0)).known) I0 I7 I4 (ix 20 0 0 0) w7 H1.out (by have:=B3.out; omega));unfold ix txt0 at A8;go_wp2_with fail
 refine A8.out.mono ?_;rintro e w8 ⟨f8,rfl,⟨F7,F6,rfl,J2⟩,C8⟩;have A0:=aa (show JumpFn mb w8 _ _ from⟨F7,F6,rfl,J2⟩);have A9:=aa (B0.out.kp C8.kp (u:=[]) am);obtain⟨H9,I6,I3,I9,m8,G2⟩:=KpG.next H5.out C8;have H0:=aa m8;have H4:=aa G2;have A1:=aa (A1.out.kp C8.kp (fun u e=>by cases e));clear C8 m8 G2 H1 H5 B0 A8 e0;have e0:=ab (A9.out.at' _ (.head _)) 0 _ rfl;simp only at e0;obtain⟨x1,x2,B4, -, -,B6,B5⟩:=A1.out;simp only[Value.func.injEq,Array.mk.injEq,List.cons.injEq,Value.pointer.injEq,Option.some.injEq,Addr.mk.injEq,and_true,true_and] at B4;obtain⟨rfl,rfl⟩:=B4;have C2:=aa (ju mb I9 sh ((C.back (m.lay (ix 19 0 r 0)).known).lay (ix 20 0 0 0)) H9 I6 I3 (m.ins.length) F9 F8 w8 H0.out (by rw[ah]; have:=B3.out; omega) (by rw[ah]; have:=B3.out; omega) B6 B5);clear B6 B5;go_wp2_with fail
 refine C2.out.mono ?_;rintro e w9 ⟨⟨r9,rfl⟩,C7⟩;have A4:=aa (A9.out.kp C7.kp (u:=[]) am);obtain⟨E6,F0,E8,F4,m9,G1⟩:=KpG.next H4.out C7;have D0:=aa m9;have E4:=aa G1;have A0:=aa (A0.out.kp C7.kp (fun u e=>by cases e));clear C7 m9 G1 H0 H4 A9 C2 e0;have e0:=ab (A4.out.at' _ (.head _)) 0 _ rfl;simp only at e0;have C4:=aa (om mb F4 none sh (((C.back (m.lay (ix 19 0 r 0)).known).lay (ix 20 0 0 0)).here m.ins.length) (F) [] E6 F0 E8 149 #[.pointer (some ⟨B,0,none⟩),.pointer (some ⟨B+1,0,none⟩)] w9 D0.out (fun w=>by kernel_rfl) (HP.out.2)
  (fun W bw=>by rw[←hF.out]; exact zlj HO (T.mk op n s ks) b (((C.back (m.lay (ix 19 0 r 0)).known).lay (ix 20 0 0 0)).here m.ins.length) _ mb F4 E6 F0 E8 W B (B+1) #[.int .i64 op,.int .i64 n,.string s,.slice q ks.length c] H3.out.2 D2.out.2.1 D2.out.2.2.2 (H7.out W (E4.out.2.bel.trans (bw.mono (Nat.le_of_lt D0.out.lt)))) (D0.out.below bw) J9.out (by have:=G9.out; omega) (A4.out.below bw)))
 go_wp2_with fail
 refine C4.out.mono ?_;rintro e H8 ⟨⟨L3,rfl⟩,A3,D8⟩;have A2:=aa (A4.out.kp A3.kp (u:=[]) am);obtain⟨D3,D5,D4,D7,F3,B8⟩:=KpG.next E4.out A3;have B9:=aa F3;have C1:=aa B8;have A0:=aa (A0.out.kp A3.kp (fun u e=>by cases e));clear A3 F3 B8 D8 D0 E4 A4 C4 e0;have e0:=ab (A2.out.at' _ (.head _)) 0 _ rfl;simp only at e0;obtain⟨x1,x2,B4, -, -,B6,B5⟩:=A0.out;simp only[Value.func.injEq,Array.mk.injEq,List.cons.injEq,Value.pointer.injEq,Option.some.injEq,Addr.mk.injEq,and_true,true_and] at B4;obtain⟨rfl,rfl⟩:=B4;have C2:=aa (ju mb D7 sh (F.back (((C.back (m.lay (ix 19 0 r 0)).known).lay (ix 20 0 0 0)).here m.ins.length).known) D3 D5 D4 ((C.back (m.lay (ix 19 0 r 0)).known).ins.length) F7 F6 H8 B9.out (by have:=B3.out; omega) (by have:=B3.out; omega) B6 B5);clear B6 B5;go_wp2_with fail
 refine C2.out.mono ?_;rintro e L1 ⟨⟨L2,rfl⟩,A7⟩;have C3:=aa (A2.out.kp A7.kp (u:=[]) am);obtain⟨I2,I8,I5,J1,F2,B7⟩:=KpG.next C1.out A7;have E3:=aa F2;have C0:=aa B7;clear A7 F2 B7 B9 C1 A2 C2 e0;have e0:=ab (C3.out.at' _ (.head _)) 0 _ rfl;simp only at e0;go_wp2_with fail
 refine bodyPost_end (results_none rfl _ _ _) rfl ?_;rw[HE.out];exact⟨⟨_,rfl⟩,⟨⟨_,_,_,_,E3.out,C0.out.1⟩,C0.out.2⟩⟩
end Gf
end
section
open Go.RowKit
open Rw
set_option maxRecDepth 100000
attribute [local go_sem] dp
namespace Gf
open Co Dn
theorem ft {B:Nat}{W:World}{t:T}{cb off i:Nat}{k:T}(h:∀ i k,t.ks[i]? = some k→∃ vk,RowAt B W (some ⟨cb,off,none⟩) i vk∧CoreAt B W k vk)(hk:t.ks[i]? = some k):
  ∃ kop kn kst pk kl ck,CoreAt B W k (.agg #[.int .i64 kop,.int .i64 kn,.string kst,.slice pk kl ck]) ∧
   W.cell? ⟨cb,off+i * 4,none⟩=some (.int .i64 kop)∧W.cell? ⟨cb,off+i * 4+1,none⟩=some (.int .i64 kn)∧W.cell? ⟨cb,off+i * 4+2,none⟩=some (.string kst)∧W.cell? ⟨cb,off+i * 4+3,none⟩=some (.slice pk kl ck):=by
 obtain⟨b2,A0,kop,kn,kst,pk,kl,ck,e,hl,h0,h1,h2,h3,h4⟩:=dz h hk;simp only[Option.some.injEq,Addr.mk.injEq,and_true] at e;obtain⟨rfl,rfl⟩:=e;exact⟨kop,kn,kst,pk,kl,ck,h0,h1,h2,h3,h4⟩
theorem zbc {W:World}{base:Nat}{e:TypeId}{s n:Nat}{v:Value}{xs:List Value}(h:gm W base e s v n xs):∃ p c,v=.slice p n c:=by
 obtain⟨h0,⟨rfl,hz⟩|⟨g,o,cap,cur,rfl,_⟩⟩:=h
 ·exact⟨none,0,by rw[hz]⟩
 ·exact⟨_,_,rfl⟩
theorem zid {P:Program}{ops:Array Oper}{Fact:World→Prop}{st:Nat}{Q:Act→World→Prop}{k:Nat}{bs:List Bool}{o:Oper}{rest:List Oper}{a:Act}{w:World}(s x:Operand)(t:TypeId)(hw:Region.wanted o (yielded ops a.tmps)=true)
  (ho:o.op=.call { callee:=.builtin .append,args:=#[s,x],argTypes:=#[t,t] })
  (base:Nat) (e:TypeId) (i:TypeInfo) (z:Value) (size bytes:Nat) (ht:P.underlying t=some (.slice e)) (hi:P.info? e=some i) (hz:i.zero=some z)
  (A1:i.size=size) (A7:i.bytes=bytes) (A5:z.cells.size=size) (A6:0<size)
  (v:Value) (n:Nat) (xs:List Value) (hs:a.eval s=v) (A4:gm w base e size v n xs)
  (ad:Addr) (m c:Nat) (news:List Value) (hx:a.eval x=.slice (some ad) m c) (hl:news.length=m * size) (A2:∀ j u,news[j]? = some u→w.cell? (ad.add j)=some u) (h1:∀ u∈news,u.oneCell'=true)
  (A8:n+m≤maxLen) (A0:(n+m) * bytes≤140737488355328) (A3:base≤w.heap.size)
  (h:∀ v' w',gm w' base e size v' (n+m) (xs++news)→w.grownBy w' v.ownBlock→(∀ k,v'.ownBlock=some k→v.ownBlock=some k∨w.heap.size≤k)→(st≤k∨Fact w')∧gi P ops Fact st Q (k+1) bs rest (a.put o.dst v') w'):gi P ops Fact st Q k (true::bs) (o::rest) a w:=by
 obtain⟨v',w',hr,h2,h3,h4⟩:=zem (P:=P) w base t o.type e i z size bytes ht hi hz A1 A7 A5 A6 v n xs A4 ad m c news hl A2 h1 A8 A0 A3;obtain⟨h6,h7⟩:=h v' w' h2 h3 h4;refine dl hw ?_ h6 h7;unfold execOp;simp only[ho,resolve,invoke,builtin,Sem.run_bind,Sem.run_pure,Result.andThen_ok,List.map_toArray,List.map_cons,List.map_nil,hs,hx,hr]
theorem zrz {w:World}{ops:Array Oper}{rest:List Oper}{o:Oper}{a:Act}{Q:Exit→Act→World→Prop}(A4:o.guard=none)(s x:Operand)
  (ho:o.op=.call { callee:=.builtin .append,args:=#[s,x],argTypes:=#[26,26] })
  (base:Nat) (v:Value) (L:List Gen.Wt) (hs:a.eval s=v) (A0:pd base w v L) (y:Gen.Wt) (hx:a.eval x=.slice (some ⟨w.heap.size,0,none⟩) 1 1)
  (A1:L.length+1≤1000000) (A2:base≤w.heap.size)
  (h:∀ g cap w',pd base w' (.slice (some ⟨g,0,none⟩) (L.length+1) cap) (L++[y])→w.grownBy w' v.ownBlock→(v.ownBlock=some g∨w.heap.size≤g)→wpList Tryz.prog ops Q rest (a.put o.dst (.slice (some ⟨g,0,none⟩) (L.length+1) cap)) w'):
  wpList Tryz.prog ops Q (o::rest) a (w.alloc (.cells #[.int .i64 y.entry,.int .i64 y.day,.string y.label,.int .i64 y.first,.int .i64 y.second] 76)):=by
 obtain⟨i,hi,hz,A3,A5⟩:=info_split zqs;refine wpList_append_lies _ A4 s x 26 ho base 76 i _ 5 48 Tryz.underlying26 hi hz A3 A5 rfl (by decide) v L.length _ hs (World.ownsRow.alloc A0 _) ⟨w.heap.size,0,none⟩ 1 1 (wt5 y) hx rfl
  (fun j u hj=>?_) (fun u hu=>?_) (by decide) (by unfold maxLen; omega) (by omega) (by simp; omega) _ rfl (fun g cap w' h1 h2 h3 _=>h g cap w' ?_ (grown_trans (grown_of_below ((Below.refl _ _).alloc (Nat.le_refl _) _) _) h2) (h3.imp id fun e=>by rw[e]; simp))
 ·rw[add_gen,World.cell?_alloc_new,Nat.zero_add,←hj];simp[wt5]
 ·simp only[wt5,List.mem_cons,List.not_mem_nil,or_false] at hu;rcases hu with rfl|rfl|rfl|rfl|rfl<;>rfl
 ·show World.ownsRow w' base _ 5 _ (L++[y]).length ((L++[y]).flatMap wt5)
  rw[List.length_append,List.flatMap_append];simpa using h1
set_option maxHeartbeats 8000000 in
theorem zvm {sh:Bool}{d:Nat}(HO:zct sh d):zct sh (d+1):=by
 intro t m k mb kb vw vi vj v w hx hd hv hm hf hk;have F8:=hv;have I1:t.op=26∨t.op=28→0<t.ks.length:=by
  obtain⟨op,n,s,ks⟩:=t;rcases bz hx with(⟨rfl,rfl⟩|⟨rfl,rfl⟩)|⟨h1,a,rfl,ha⟩|⟨rfl,o,a,rfl,ho,ha⟩|⟨h1,a,b,rfl,ha,hb⟩|⟨rfl,o,a,b,rfl,ho,ha,hb⟩|⟨rfl,o,a,rfl,ho,ha⟩;all_goals simp only[T.op,T.ks,List.length_cons,List.length_nil]
  all_goals omega
 have F5:=aa (fun (W:World) (b:Below w.heap.size w W)=>zgj t mb v W (F8.kept (b.mono (Nat.le_of_lt hm.lt)) (Nat.le_refl _)) (Nat.le_trans (Nat.le_of_lt hm.lt) b.size) I1);obtain⟨q,c,rfl,M5,M3,M4,M0,I4⟩:=hv.open;obtain⟨op,n,s,ks⟩:=t;have J2:∀ x∈ks,x.depth≤d:=fun x hx=>by
  have:=em hx;rw[T.depth] at hd;omega
 have C7:=aa I4;simp only[T.op,T.n,T.s,T.ks];simp only[T.op,T.n,T.s,T.ks] at F5;have BA:=(Below.refl w.heap.size w).alloc (Nat.le_refl _) (.cells #[.int .i64 op,.int .i64 n,.string s,.slice q ks.length c] 24);have y1:=heap_alloc_new w (.cells #[.int .i64 op,.int .i64 n,.string s,.slice q ks.length c] 24);have E3:=aa ((Bx.nil mb _).cons y1 hm.lt rfl);have HM:=aa (hm.below BA);have HB:=aa BA;have J8:=aa (KpG.of (mb:=mb) (kb:=kb) (ub:=none) BA (Nat.le_of_lt hm.lt));have L1:=aa (fun (W:World) (b:Below mb w W)=>(F8.kept b (Nat.le_refl _)));have D5:=aa J2;have B2:=aa (And.intro hk (And.intro hf.len (And.intro hf.nx hf.pt)));have HF:=aa hf;have HX:=aa hx;have M7:=aa hm.lt;obtain⟨wt,C9⟩:∃ b,Hid (bp (T.mk op n s ks)=b):=⟨_,aa rfl⟩
 rw[C9.out] at F5;clear BA y1 hm hv F8 I4 J2 hk hf M5 hd I1 M3 M4 M0 hx;go_enter Tryz.func50,Tryz.ntmps50;go_upto_region 1 with(fail)
 obtain⟨B,hB⟩:∃ B,Hid (w.heap.size=B):=⟨_,aa rfl⟩
 simp only[hB.out] at E3 ⊢;generalize World.alloc _ _=w1 at *;have c0:=ab (E3.out.at' _ (.head _)) 0 _ rfl;have c1:=ab (E3.out.at' _ (.head _)) 1 _ rfl;have c2:=ab (E3.out.at' _ (.head _)) 2 _ rfl;have c3:=ab (E3.out.at' _ (.head _)) 3 _ rfl;simp only at c0 c1 c2 c3;have J4:=aa (F5.out w1 HB.out);go_wp2_with fail
 refine J4.out.mono ?_;rintro e w2 ⟨rfl,b2⟩;have A8:=aa (E3.out.below b2);have C2:=aa (HM.out.below b2);have D1:=aa (show(kb=kb∨w.heap.size≤kb)∧KpG mb kb none w w2 from⟨.inl rfl,J8.out.trans (kb':=kb) (KpG.of b2 (Nat.le_of_lt HM.out.lt)) (.inl rfl)⟩);clear b2 E3 HM J8 J4 F5 HB c0 c1 c2 c3;have c0:=ab (A8.out.at' _ (.head _)) 0 _ rfl;have c1:=ab (A8.out.at' _ (.head _)) 1 _ rfl;have c2:=ab (A8.out.at' _ (.head _)) 2 _ rfl;have c3:=ab (A8.out.at' _ (.head _)) 3 _ rfl;simp only at c0 c1 c2 c3;cases wt with
 |true=>
  obtain⟨pw,cw,F7⟩:=dt C2.out.rw;subst F7;have m1:=ab C2.out.box 1 _ rfl;have L9:=B2.out;have A5:=aa (ir mb kb sh m _ vi vj (ix 29 0 0 m.ws.length) w2 C2.out (by omega));unfold ix txt0 at A5;go_wp2_with fail
  refine A5.out.mono ?_;rintro e w3 ⟨rfl,A6⟩;have A0:=aa (A8.out.kp A6.kp (u:=[]) am);obtain⟨C8,C0,B9,B7,m3,B5⟩:=KpG.next ⟨.inl rfl,D1.out.2⟩ A6;have B0:=aa m3;have B3:=aa B5;clear A6 m3 B5 A5 m1 L9 c0 c1 c2 c3;obtain⟨pw,cw,F7⟩:=dt B0.out.rw;subst F7;obtain⟨J,G3,J0,I9⟩:=B0.out.rj;have O0:J.length≤800000:=by
   have h1:=B2.out;have h2:m.jobs.length=J.length:=by
    have h3:m.jobs=J.map (fun x=>(x.j,x.t)):=G3;rw[h3,List.length_map]
   have h4:∀ l:List (Nat × T),l.length≤na l:=by
    intro l;induction l with
    |nil=>exact Nat.le_refl _
    |cons x r ih=>have:=size_pos x.2; rw[na,List.length_cons]; omega
   have:=h4 m.jobs;omega
  go_upto_region 3 with(fail)
  have H1:=aa (A0.out.at' _ (.head _));have J3:w3.drew.heap[mb]? = some (.cells #[.int .i64 (m.lay (ix 29 0 0 m.ws.length)).regs,.slice pw (m.lay (ix 29 0 0 m.ws.length)).ws.length cw,C0,.bool sh,B9,.int .i64 (m.lay (ix 29 0 0 m.ws.length)).next,.map (some B7),.bool (m.lay (ix 29 0 0 m.ws.length)).over] 66 (0,0))∧w3.drew.heap[B]? = some (.cells #[.int .i64 op,.int .i64 n,.string s,.slice q ks.length c] 24 (0,0)):=⟨B0.out.box,H1.out⟩
  refine ed (fun W=>W.heap[mb]? = some (.cells #[.int .i64 (m.lay (ix 29 0 0 m.ws.length)).regs,.slice pw (m.lay (ix 29 0 0 m.ws.length)).ws.length cw,C0,.bool sh,B9,.int .i64 (m.lay (ix 29 0 0 m.ws.length)).next,.map (some B7),.bool (m.lay (ix 29 0 0 m.ws.length)).over] 66 (0,0))∧W.heap[B]? = some (.cells #[.int .i64 op,.int .i64 n,.string s,.slice q ks.length c] 24 (0,0))) 17 [false,false,false,false,false,false,false,false,false,false,false,false,false,true,true,true,true,true] (by kernel_rfl) (by kernel_rfl) (by kernel_rfl) J3 ?_;clear J3;iterate 13
   apply dn
   ·rfl
   ·intro W hW;have q0:=ab hW.1 4 _ rfl;have q1:=ab hW.1 1 _ rfl;have p0:=ab hW.2 0 _ rfl;have p1:=ab hW.2 1 _ rfl;have p2:=ab hW.2 2 _ rfl;have p3:=ab hW.2 3 _ rfl;first|(go_simp; done)|(go_simp; with_reducible rfl)
   simp only[Act.put,List.setIfInBounds_toArray,List.set_cons_zero,List.set_cons_succ]
  refine dl (v:=.slice (some ⟨w3.drew.heap.size,0,none⟩) 1 1) (w':=w3.drew.alloc (.cells #[.int .i64 m.ws.length,.int .i64 op,.int .i64 n,.string s,.slice q ks.length c] 104)) ?_ ?_ ?_ ?_
  ·rfl
  ·first|(go_simp; done)|(go_simp; rfl)
  ·exact .inr ⟨ag ((Below.refl _ _).alloc (Nat.le_refl _) _) (show w3.drew.heap[mb]? = _ from B0.out.box),ag ((Below.refl _ _).alloc (Nat.le_refl _) _) (show w3.drew.heap[B]? = _ from H1.out)⟩
  simp only[Act.put,List.setIfInBounds_toArray,List.set_cons_zero,List.set_cons_succ];have E4:=(Below.refl w3.drew.heap.size w3.drew).alloc (Nat.le_refl _) (.cells #[.int .i64 m.ws.length,.int .i64 op,.int .i64 n,.string s,.slice q ks.length c] 104);have F9:=heap_alloc_new w3.drew (.cells #[.int .i64 m.ws.length,.int .i64 op,.int .i64 n,.string s,.slice q ks.length c] 104);have C1:=aa (B0.out.drew.below E4);have N4:=aa (ag E4 (show w3.drew.heap[B]? = _ from H1.out));have C3:=aa (show KpG mb kb none w _ from(B3.out.2.trans B0.out.kd B3.out.1).trans (kb':=B7) (KpG.of E4 (Nat.le_of_lt B0.out.lt)) B3.out.1);have I8:=zbb J0 (grown_of_below ((Below.refl _ w3).drew.trans E4) none) (by cases B9.ownBlock<;>simp);have I7:∀ x∈J,CoreAt mb (w3.drew.alloc (.cells #[.int .i64 m.ws.length,.int .i64 op,.int .i64 n,.string s,.slice q ks.length c] 104)) x.t x.v:=fun x hx=>(I9 x hx).kept (((Below.refl mb w3).drew).trans (E4.mono (Nat.le_of_lt B0.out.lt))) (Nat.le_refl _);obtain⟨nb,I2⟩:∃ b,w3.drew.heap.size=b:=⟨_,rfl⟩
  rw[I2] at F9 ⊢;clear E4 I2 J0 I9;generalize World.alloc w3.drew _=w4 at *;obtain⟨ti,H8,H7,H6,H5⟩:=info_split zjp;refine zid _ _ 63 rfl rfl (mb+1) 104 ti _ 5 64 Tryz.underlying63 H8 H7 H6 H5 rfl (by decide) B9 _ _ rfl I8 ⟨nb,0,none⟩ 1 1 [.int .i64 m.ws.length,.int .i64 op,.int .i64 n,.string s,.slice q ks.length c] rfl rfl
   (fun j u hj=>?_) (fun u hu=>?_) (by unfold maxLen; omega) (by omega) (by have:=C1.out.lt; omega) (fun v' w5 D9 G4 F1=>?_)
  ·rw[add_gen,Nat.zero_add];unfold World.cell?;simp only[F9];simpa using hj
  ·simp only[List.mem_cons,List.not_mem_nil,or_false] at hu;rcases hu with rfl|rfl|rfl|rfl|rfl<;>rfl
  obtain⟨pj,cj,L8⟩:=zbc D9;subst L8;obtain⟨g1,g2,g3,g4,g5⟩:=MkAt.jbs C1.out G4;have G6:w5.heap[B]? = some (.cells #[.int .i64 op,.int .i64 n,.string s,.slice q ks.length c] 24 (0,0)):=g5.box (k:=B) (by have:=M7.out; rw[hB.out] at this; omega) (fun u e=>by cases e) (by decide) (by decide) (by decide) N4.out;refine⟨.inr ⟨g1,G6⟩,?_⟩;simp only[Act.put,List.setIfInBounds_toArray,List.set_cons_zero,List.set_cons_succ];have D4:JbRow (mb+1) mb w5 (.slice pj (J.length+1) cj) (m.jobs++[(m.ws.length,T.mk op n s ks)]):=by
   refine⟨J++[⟨m.ws.length,T.mk op n s ks,q,c⟩],?_,?_,?_⟩
   ·rw[List.map_append,←G3]; rfl
   ·rw[List.length_append,List.flatMap_append];simpa [jb5,T.op,T.n,T.s,T.ks] using D9
   ·intro x hx;rcases List.mem_append.1 hx with hx|hx
    ·exact(I7 x hx).kept g5.bel (Nat.le_refl _)
    ·rw[List.mem_singleton] at hx;subst hx;exact L1.out w5 (C3.out.bel.trans g5.bel)
  have E2:=aa (show MkAt mb sh { m.lay (ix 29 0 0 m.ws.length) with jobs:=m.jobs++[(m.ws.length,T.mk op n s ks)] } (.slice pw (m.lay (ix 29 0 0 m.ws.length)).ws.length cw) C0 (.slice pj (J.length+1) cj) B7 (w5.setCell ⟨mb,4,none⟩ (.slice pj (J.length+1) cj))∧KpG mb kb none w (w5.setCell ⟨mb,4,none⟩ (.slice pj (J.length+1) cj)) from
   ⟨MkAt.reset 4 (.slice pj (J.length+1) cj) g1 rfl g3 g2 D4 g4 B0.out.kb,C3.out.trans (MkAt.push C1.out G4 F1) B3.out.1⟩)
  have f4:=frozen_of (o:=4) g1;have k4:=ab g1 4 _ rfl;have G1:=aa g1;have L2:=aa G6;clear D9 G4 F1 G3 I8 I7 F9 g1 g2 g3 g4 g5 D4 H8 H7 H6 H5 G6;refine dl (v:=.pointer (some ⟨mb,0,none⟩)) (w':=w5) ?_ ?_ ?_ ?_
  ·rfl
  ·go_simp
  ·exact .inr ⟨G1.out,L2.out⟩
  simp only[Act.put,List.setIfInBounds_toArray,List.set_cons_zero,List.set_cons_succ];refine dl (v:=.pointer (some ⟨mb,4,none⟩)) (w':=w5) ?_ ?_ ?_ ?_
  ·rfl
  ·go_simp
  ·exact .inr ⟨G1.out,L2.out⟩
  simp only[Act.put,List.setIfInBounds_toArray,List.set_cons_zero,List.set_cons_succ];refine jh (w':=w5.setCell ⟨mb,4,none⟩ (.slice pj (J.length+1) cj)) ?_ ?_ ?_ ?_
  ·rfl
  ·go_simp
  ·exact .inl (Nat.le_refl _)
  refine gy ?_;clear f4 k4 G1;generalize World.setCell _ _ _=w6 at *;have m1:=ab E2.out.1.box 1 _ rfl;have M1:=E2.out.1.rw;have L7:m.ws.length+1≤1000000:=by have:=B2.out; omega
  have M6:mb+1≤w6.heap.size:=E2.out.1.lt;go_wp2_with (first|(refine zrz rfl _ _ (by rfl) (mb+1) (.slice pw m.ws.length cw) m.ws (by rfl) M1 ⟨0,0,⟨#[]⟩,0,0⟩ (by rfl) L7 M6 ?_; intro q7 c7 w7 h7 g7 I3; refine zag ?_)|fail)
  refine aa ?_;obtain⟨p1,p2,p3,p4,p5⟩:=E2.out.1.wts h7 g7;have L0:=aa (show MkAt mb sh (m.call (T.mk op n s ks)) (.slice (some ⟨q7,0,none⟩) (m.ws.length+1) c7) C0 (.slice pj (J.length+1) cj) B7 (w7.setCell ⟨mb,1,none⟩ (.slice (some ⟨q7,0,none⟩) (m.ws.length+1) c7))∧KpG mb kb none w (w7.setCell ⟨mb,1,none⟩ (.slice (some ⟨q7,0,none⟩) (m.ws.length+1) c7)) from
   ⟨MkAt.reset 1 _ p1 rfl h7 p2 p3 p4 E2.out.1.kb,E2.out.2.trans (MkAt.pushW E2.out.1 h7 g7 (fun k hk=>I3.imp (fun e=>e.trans hk) (fun e=>by cases hk; exact e))) B3.out.1⟩)
  have k1:=ab p1 1 _ rfl;have f1:=frozen_of (o:=1) p1;clear h7 g7 I3 p1 p2 p3 p4 p5 m1;go_wp2_with fail
  refine bodyPost_ret (results_none rfl _ _ _) rfl ?_;rw[ns C9.out];exact⟨⟨_,rfl⟩,⟨⟨_,_,_,_,L0.out.1,B3.out.1⟩,L0.out.2⟩⟩
 |false=>
 have m5:=ab C2.out.box 5 _ rfl;obtain⟨D8,D7,D6,H9⟩:=mx C9.out;have J6:=aa H9;clear H9;rcases bz HX.out with(⟨rfl,A4⟩|⟨rfl,A4⟩)|⟨h1,a,A4,ha⟩|⟨rfl,o,a,A4,ho,ha⟩|⟨h1,a,b,A4,ha,hb⟩|⟨rfl,o,a,b,A4,ho,ha,hb⟩|⟨rfl,o,a,A4,ho,ha⟩
 ·have A2:=aa A4;clear A4;have HE:=aa (nj (sh:=sh) (d:=d) (m:=m) C9.out rfl);go_upto_region 23 with(fail)
  clear m5 D8 D7 D6;have m3:=ab C2.out.box 3 _ rfl;have HM:=aa C2.out;have A3:=aa D1.out;cases sh with
  |true=>
   go_wp2_with fail
   refine bodyPost_end (results_none rfl _ _ _) rfl ?_;rw[HE.out];exact⟨⟨_,rfl⟩,⟨⟨_,_,_,_,HM.out,.inl rfl⟩,A3.out.2⟩⟩
  |false=>
   have m5:=ab HM.out.box 5 _ rfl;have f5:=frozen_of (o:=5) HM.out.box;have B6:=aa (HM.out.parts (m':={ m with next:=m.next }) 5 (.int .i64 m.next) rfl rfl rfl rfl rfl rfl);go_wp2_with fail
   refine bodyPost_end (results_none rfl _ _ _) rfl ?_;rw[HE.out];exact⟨⟨_,rfl⟩,⟨⟨_,_,_,_,B6.out.1,.inl rfl⟩,A3.out.2.trans B6.out.2 (.inl rfl)⟩⟩
 ·have A2:=aa A4;clear A4;have HE:=aa (qf (sh:=sh) (d:=d) (m:=m) C9.out rfl);clear D8 D7 D6;have A5:=aa (ir mb kb sh (m) vw vi vj ⟨27,0,0,0,0,s,0⟩ w2 C2.out (by have:=B2.out; omega));try unfold ix at A5
  try unfold txt0 at A5
  go_wp2_with fail
  clear m5;refine A5.out.mono ?_;rintro e w3 ⟨rfl,A6⟩;clear A5;have A0:=aa (A8.out.kp A6.kp (u:=[]) am);obtain⟨C8,C0,B9,B7,m3,B5⟩:=KpG.next ⟨.inl rfl,D1.out.2⟩ A6;have B0:=aa m3;have B3:=aa B5;clear A6 m3 B5 c0 c1 c2 c3;have c0:=ab (A0.out.at' _ (.head _)) 0 _ rfl;have c1:=ab (A0.out.at' _ (.head _)) 1 _ rfl;have c2:=ab (A0.out.at' _ (.head _)) 2 _ rfl;have c3:=ab (A0.out.at' _ (.head _)) 3 _ rfl;simp only at c0 c1 c2 c3;have m3:=ab B0.out.box 3 _ rfl;have HM:=aa B0.out;have A3:=aa B3.out;cases sh with
  |true=>
   go_wp2_with fail
   refine bodyPost_end (results_none rfl _ _ _) rfl ?_;rw[HE.out];exact⟨⟨_,rfl⟩,⟨⟨_,_,_,_,HM.out,A3.out.1⟩,A3.out.2⟩⟩
  |false=>
   have m5:=ab HM.out.box 5 _ rfl;have f5:=frozen_of (o:=5) HM.out.box;have B6:=aa (HM.out.parts (m':={ m.lay ⟨27,0,0,0,0,s,0⟩ with next:=m.next }) 5 (.int .i64 m.next) rfl rfl rfl rfl rfl rfl);go_wp2_with fail
   refine bodyPost_end (results_none rfl _ _ _) rfl ?_;rw[HE.out];exact⟨⟨_,rfl⟩,⟨⟨_,_,_,_,B6.out.1,A3.out.1⟩,A3.out.2.trans B6.out.2 (A3.out.1)⟩⟩
 ·rcases h1 with rfl|rfl;rotate_left 1
  ·exact absurd rfl D8
  have A2:=aa A4;have B8:=aa (show(T.mk 25 n s ks).size=1+(a.size) by rw[T.size,A4]; simp[sizes]);have A7:=aa (show(T.mk 25 n s ks).ks[0]? = some a by show ks[0]? = some a; rw[A4]; rfl);obtain⟨cb,off,_,_,_,_,_,_,hq,C5, -⟩:=dz (t:=.mk 25 n s ks) C7.out A7.out;subst hq;have F4:=aa C5;clear C5;clear A4;clear D8 D7 D6;have E1:=aa ha;have E6:=aa (HF.out.lay (ix 24 0 0 0));obtain⟨C,hC⟩:∃ C,Hid (con sh d a (m.lay (ix 24 0 0 0))=C):=⟨_,aa rfl⟩
  have HE:=aa (show con sh (d+1) (T.mk 25 n s ks) m=C.free sh m.next by rw[nr C9.out rfl,show(T.mk 25 n s ks).kid 0=a by rw[A2.out]; rfl,hC.out]);clear ha;have A5:=aa (ir mb kb sh (m) vw vi vj (ix 24 0 0 0) w2 C2.out (by have:=B2.out; omega));try unfold ix at A5
  try unfold txt0 at A5
  go_wp2_with fail
  clear m5;refine A5.out.mono ?_;rintro e w3 ⟨rfl,A6⟩;clear A5;have A0:=aa (A8.out.kp A6.kp (u:=[]) am);obtain⟨C8,C0,B9,B7,m3,B5⟩:=KpG.next ⟨.inl rfl,D1.out.2⟩ A6;have B0:=aa m3;have B3:=aa B5;clear A6 m3 B5 c0 c1 c2 c3;have c0:=ab (A0.out.at' _ (.head _)) 0 _ rfl;have c1:=ab (A0.out.at' _ (.head _)) 1 _ rfl;have c2:=ab (A0.out.at' _ (.head _)) 2 _ rfl;have c3:=ab (A0.out.at' _ (.head _)) 3 _ rfl;simp only at c0 c1 c2 c3;obtain⟨kop,kn,kst,pk,kl,ck,B4,r0,r1,r2,r3⟩:=ft (t:=.mk 25 n s ks) (kids_kept C7.out B3.out.2.bel) (i:=0) A7.out;simp only[Nat.zero_mul,Nat.add_zero,Nat.one_mul,Nat.reduceMul] at r0 r1 r2 r3;have j2:(0:Int)<(ks.length:Int):=by have:=congrArg List.length A2.out; simp at this; omega
  have j5:ks≠[]:=by rw[A2.out]; simp
  have j3:0<ks.length:=List.length_pos_iff.2 j5;have HC:=aa (HO a (m.lay (ix 24 0 0 0)) _ mb B7 C8 C0 B9 _ w3 E1.out (D5.out a (by rw[A2.out]; simp)) B4 B0.out E6.out (by have:=B2.out; have:=B8.out; omega));rw[hC.out] at HC;clear B4;go_wp2_with fail
  refine HC.out.mono ?_;rintro e w4 ⟨⟨r4,rfl⟩,B1⟩;clear HC;have A1:=aa (A0.out.kp B1.kp (u:=[]) am);obtain⟨E7,E9,E8,F0,m4,C4⟩:=KpG.next B3.out B1;have C1:=aa m4;have C3:=aa C4;clear B1 m4 C4 c0 c1 c2 c3 r0 r1 r2 r3 j2 j3 j5;have c0:=ab (A1.out.at' _ (.head _)) 0 _ rfl;have c1:=ab (A1.out.at' _ (.head _)) 1 _ rfl;have c2:=ab (A1.out.at' _ (.head _)) 2 _ rfl;have c3:=ab (A1.out.at' _ (.head _)) 3 _ rfl;simp only at c0 c1 c2 c3;have m3:=ab C1.out.box 3 _ rfl;have HM:=aa C1.out;have A3:=aa C3.out;cases sh with
  |true=>
   go_wp2_with fail
   refine bodyPost_end (results_none rfl _ _ _) rfl ?_;rw[HE.out];exact⟨⟨_,rfl⟩,⟨⟨_,_,_,_,HM.out,A3.out.1⟩,A3.out.2⟩⟩
  |false=>
   have m5:=ab HM.out.box 5 _ rfl;have f5:=frozen_of (o:=5) HM.out.box;have B6:=aa (HM.out.parts (m':={ C with next:=m.next }) 5 (.int .i64 m.next) rfl rfl rfl rfl rfl rfl);go_wp2_with fail
   refine bodyPost_end (results_none rfl _ _ _) rfl ?_;rw[HE.out];exact⟨⟨_,rfl⟩,⟨⟨_,_,_,_,B6.out.1,A3.out.1⟩,A3.out.2.trans B6.out.2 (A3.out.1)⟩⟩
 ·have A2:=aa A4;have B8:=aa (show(T.mk 26 n s ks).size=1+(o.size+(a.size)) by rw[T.size,A4]; simp[sizes]);have A7:=aa (show(T.mk 26 n s ks).ks[0]? = some o by show ks[0]? = some o; rw[A4]; rfl);have D0:=aa (show(T.mk 26 n s ks).ks[1]? = some a by show ks[1]? = some a; rw[A4]; rfl);obtain⟨cb,off,_,_,_,_,_,_,hq,C5, -⟩:=dz (t:=.mk 26 n s ks) C7.out A7.out;subst hq;have F4:=aa C5;clear C5;clear A4;clear D8 D7 D6;have E1:=aa ha;have G8:=aa (dc ho);have G9:=aa (show cr o=false by have:=J6.out (.inl rfl); rwa [show(T.mk 26 n s ks).kid 0=o by rw[A2.out]; rfl] at this);have E5:=aa (co sh d o m [] k (dc ho) HF.out);obtain⟨O,hO⟩:∃ O,Hid (obs sh d o m []=O):=⟨_,aa rfl⟩
  rw[hO.out] at E5;have E6:=aa (E5.out.m.lay (ix 23 0 O.1 0));obtain⟨C,hC⟩:∃ C,Hid (con sh d a (O.2.1.lay (ix 23 0 O.1 0))=C):=⟨_,aa rfl⟩
  have HE:=aa (show con sh (d+1) (T.mk 26 n s ks) m=C.free sh m.next by rw[lj C9.out rfl,show(T.mk 26 n s ks).kid 0=o by rw[A2.out]; rfl,show(T.mk 26 n s ks).kid 1=a by rw[A2.out]; rfl,hO.out,hC.out]);clear ha ho;obtain⟨kop,kn,kst,pk,kl,ck,B4,r0,r1,r2,r3⟩:=ft (t:=.mk 26 n s ks) (kids_kept C7.out D1.out.2.bel) (i:=0) A7.out;simp only[Nat.zero_mul,Nat.add_zero,Nat.one_mul,Nat.reduceMul] at r0 r1 r2 r3;have j2:(0:Int)<(ks.length:Int):=by have:=congrArg List.length A2.out; simp at this; omega
  have j5:ks≠[]:=by rw[A2.out]; simp
  have j3:0<ks.length:=List.length_pos_iff.2 j5;have HC:=aa (ye sh d o (m) [] k mb kb none vw vi vj _ w2 G8.out (D5.out o (by rw[A2.out]; simp)) B4 C2.out am (fun _=>G9.out) HF.out (by have:=B2.out; have:=B8.out; omega) (by have:=B2.out; have:=B8.out; show 0+8 * _≤_; omega));rw[show my none=Value.pointer none from rfl,hO.out] at HC;clear B4;go_wp2_with fail
  clear m5;refine HC.out.mono ?_;rintro e w3 ⟨rfl,A6, -⟩;clear HC;have A0:=aa (A8.out.kp A6.kp (u:=[]) am);obtain⟨C8,C0,B9,B7,m3,B5⟩:=KpG.next ⟨.inl rfl,D1.out.2⟩ A6;have B0:=aa m3;have B3:=aa B5;clear A6 m3 B5 c0 c1 c2 c3 r0 r1 r2 r3 j2 j3 j5;have c0:=ab (A0.out.at' _ (.head _)) 0 _ rfl;have c1:=ab (A0.out.at' _ (.head _)) 1 _ rfl;have c2:=ab (A0.out.at' _ (.head _)) 2 _ rfl;have c3:=ab (A0.out.at' _ (.head _)) 3 _ rfl;simp only at c0 c1 c2 c3;have A5:=aa (ir mb B7 sh (O.2.1) C8 C0 B9 (ix 23 0 O.1 0) w3 B0.out (by have:=E5.out.m.len; have:=B2.out; have:=B8.out; omega));try unfold ix at A5
  try unfold txt0 at A5
  go_wp2_with fail
  refine A5.out.mono ?_;rintro e w4 ⟨rfl,B1⟩;clear A5;have A1:=aa (A0.out.kp B1.kp (u:=[]) am);obtain⟨E7,E9,E8,F0,m4,C4⟩:=KpG.next B3.out B1;have C1:=aa m4;have C3:=aa C4;clear B1 m4 C4 c0 c1 c2 c3;have c0:=ab (A1.out.at' _ (.head _)) 0 _ rfl;have c1:=ab (A1.out.at' _ (.head _)) 1 _ rfl;have c2:=ab (A1.out.at' _ (.head _)) 2 _ rfl;have c3:=ab (A1.out.at' _ (.head _)) 3 _ rfl;simp only at c0 c1 c2 c3;obtain⟨kop,kn,kst,pk,kl,ck,B4,r0,r1,r2,r3⟩:=ft (t:=.mk 26 n s ks) (kids_kept C7.out C3.out.2.bel) (i:=1) D0.out;simp only[Nat.zero_mul,Nat.add_zero,Nat.one_mul,Nat.reduceMul] at r0 r1 r2 r3;have j2:(1:Int)<(ks.length:Int):=by have:=congrArg List.length A2.out; simp at this; omega
  have HC:=aa (HO a (O.2.1.lay (ix 23 0 O.1 0)) _ mb F0 E7 E9 E8 _ w4 E1.out (D5.out a (by rw[A2.out]; simp)) B4 C1.out E6.out (by have:=B2.out; have:=B8.out; omega));rw[hC.out] at HC;clear B4;go_wp2_with fail
  refine HC.out.mono ?_;rintro e w5 ⟨⟨r5,rfl⟩,E0⟩;clear HC;have A9:=aa (A1.out.kp E0.kp (u:=[]) am);obtain⟨H2,H4,H3,I0,m5,F2⟩:=KpG.next C3.out E0;have F6:=aa m5;have H0:=aa F2;clear E0 m5 F2 c0 c1 c2 c3 r0 r1 r2 r3 j2;have c0:=ab (A9.out.at' _ (.head _)) 0 _ rfl;have c1:=ab (A9.out.at' _ (.head _)) 1 _ rfl;have c2:=ab (A9.out.at' _ (.head _)) 2 _ rfl;have c3:=ab (A9.out.at' _ (.head _)) 3 _ rfl;simp only at c0 c1 c2 c3;have m3:=ab F6.out.box 3 _ rfl;have HM:=aa F6.out;have A3:=aa H0.out;cases sh with
  |true=>
   go_wp2_with fail
   refine bodyPost_end (results_none rfl _ _ _) rfl ?_;rw[HE.out];exact⟨⟨_,rfl⟩,⟨⟨_,_,_,_,HM.out,A3.out.1⟩,A3.out.2⟩⟩
  |false=>
   have m5:=ab HM.out.box 5 _ rfl;have f5:=frozen_of (o:=5) HM.out.box;have B6:=aa (HM.out.parts (m':={ C with next:=m.next }) 5 (.int .i64 m.next) rfl rfl rfl rfl rfl rfl);go_wp2_with fail
   refine bodyPost_end (results_none rfl _ _ _) rfl ?_;rw[HE.out];exact⟨⟨_,rfl⟩,⟨⟨_,_,_,_,B6.out.1,A3.out.1⟩,A3.out.2.trans B6.out.2 (A3.out.1)⟩⟩
 ·rcases h1 with rfl|rfl;rotate_left 1
  ·exact absurd rfl D6
  have A2:=aa A4;have B8:=aa (show(T.mk 27 n s ks).size=1+(a.size+(b.size)) by rw[T.size,A4]; simp[sizes]);have A7:=aa (show(T.mk 27 n s ks).ks[0]? = some a by show ks[0]? = some a; rw[A4]; rfl);have D0:=aa (show(T.mk 27 n s ks).ks[1]? = some b by show ks[1]? = some b; rw[A4]; rfl);obtain⟨cb,off,_,_,_,_,_,_,hq,C5, -⟩:=dz (t:=.mk 27 n s ks) C7.out A7.out;subst hq;have F4:=aa C5;clear C5;clear A4;clear D8 D7 D6;have E1:=aa ha;have G7:=aa hb;have E6:=aa (HF.out.reg.lay (ix 25 m.next 0 0));have D2:=cx sh d a _ _ ha E6.out;obtain⟨C,hC⟩:∃ C,Hid (con sh d a (m.reg.lay (ix 25 m.next 0 0))=C):=⟨_,aa rfl⟩
  rw[hC.out] at D2;have N3:=aa D2.len;have N2:=aa (D2.lay (ix 26 0 m.next 0));obtain⟨D,hD⟩:∃ D,Hid (con sh d b (C.lay (ix 26 0 m.next 0))=D):=⟨_,aa rfl⟩
  have HE:=aa (show con sh (d+1) (T.mk 27 n s ks) m=D.free sh m.next by rw[nt C9.out rfl,show(T.mk 27 n s ks).kid 0=a by rw[A2.out]; rfl,show(T.mk 27 n s ks).kid 1=b by rw[A2.out]; rfl,hC.out,hD.out]);clear ha hb D2;have J5:=aa (um mb kb sh (m) vw vi vj w2 C2.out (by have:=B2.out; omega));go_wp2_with fail
  clear m5;refine J5.out.mono ?_;rintro e w3 ⟨rfl,A6⟩;clear J5;have A0:=aa (A8.out.kp A6.kp (u:=[]) am);obtain⟨C8,C0,B9,B7,m3,B5⟩:=KpG.next ⟨.inl rfl,D1.out.2⟩ A6;have B0:=aa m3;have B3:=aa B5;clear A6 m3 B5 c0 c1 c2 c3;have c0:=ab (A0.out.at' _ (.head _)) 0 _ rfl;have c1:=ab (A0.out.at' _ (.head _)) 1 _ rfl;have c2:=ab (A0.out.at' _ (.head _)) 2 _ rfl;have c3:=ab (A0.out.at' _ (.head _)) 3 _ rfl;simp only at c0 c1 c2 c3;have A5:=aa (ir mb B7 sh (m.reg) C8 C0 B9 (ix 25 m.next 0 0) w3 B0.out (by show m.ins.length≤_; have:=B2.out; omega));try unfold ix at A5
  try unfold txt0 at A5
  go_wp2_with fail
  refine A5.out.mono ?_;rintro e w4 ⟨rfl,B1⟩;clear A5;have A1:=aa (A0.out.kp B1.kp (u:=[]) am);obtain⟨E7,E9,E8,F0,m4,C4⟩:=KpG.next B3.out B1;have C1:=aa m4;have C3:=aa C4;clear B1 m4 C4 c0 c1 c2 c3;have c0:=ab (A1.out.at' _ (.head _)) 0 _ rfl;have c1:=ab (A1.out.at' _ (.head _)) 1 _ rfl;have c2:=ab (A1.out.at' _ (.head _)) 2 _ rfl;have c3:=ab (A1.out.at' _ (.head _)) 3 _ rfl;simp only at c0 c1 c2 c3;obtain⟨kop,kn,kst,pk,kl,ck,B4,r0,r1,r2,r3⟩:=ft (t:=.mk 27 n s ks) (kids_kept C7.out C3.out.2.bel) (i:=0) A7.out;simp only[Nat.zero_mul,Nat.add_zero,Nat.one_mul,Nat.reduceMul] at r0 r1 r2 r3;have j2:(0:Int)<(ks.length:Int):=by have:=congrArg List.length A2.out; simp at this; omega
  have j5:ks≠[]:=by rw[A2.out]; simp
  have j3:0<ks.length:=List.length_pos_iff.2 j5;have HC:=aa (HO a (m.reg.lay (ix 25 m.next 0 0)) _ mb F0 E7 E9 E8 _ w4 E1.out (D5.out a (by rw[A2.out]; simp)) B4 C1.out E6.out (by have:=B2.out; have:=B8.out; omega));rw[hC.out] at HC;clear B4;go_wp2_with fail
  refine HC.out.mono ?_;rintro e w5 ⟨⟨r5,rfl⟩,E0⟩;clear HC;have A9:=aa (A1.out.kp E0.kp (u:=[]) am);obtain⟨H2,H4,H3,I0,m5,F2⟩:=KpG.next C3.out E0;have F6:=aa m5;have H0:=aa F2;clear E0 m5 F2 c0 c1 c2 c3 r0 r1 r2 r3 j2 j3 j5;have c0:=ab (A9.out.at' _ (.head _)) 0 _ rfl;have c1:=ab (A9.out.at' _ (.head _)) 1 _ rfl;have c2:=ab (A9.out.at' _ (.head _)) 2 _ rfl;have c3:=ab (A9.out.at' _ (.head _)) 3 _ rfl;simp only at c0 c1 c2 c3;have A5:=aa (ir mb I0 sh (C) H2 H4 H3 (ix 26 0 m.next 0) w5 F6.out (by have:=N3.out; have:=B2.out; have:=B8.out; omega));try unfold ix at A5
  try unfold txt0 at A5
  go_wp2_with fail
  refine A5.out.mono ?_;rintro e w6 ⟨rfl,G2⟩;clear A5;have C6:=aa (A9.out.kp G2.kp (u:=[]) am);obtain⟨L3,L5,L4,L6,m6,I6⟩:=KpG.next H0.out G2;have M8:=aa m6;have J9:=aa I6;clear G2 m6 I6 c0 c1 c2 c3;have c0:=ab (C6.out.at' _ (.head _)) 0 _ rfl;have c1:=ab (C6.out.at' _ (.head _)) 1 _ rfl;have c2:=ab (C6.out.at' _ (.head _)) 2 _ rfl;have c3:=ab (C6.out.at' _ (.head _)) 3 _ rfl;simp only at c0 c1 c2 c3;obtain⟨kop,kn,kst,pk,kl,ck,B4,r0,r1,r2,r3⟩:=ft (t:=.mk 27 n s ks) (kids_kept C7.out J9.out.2.bel) (i:=1) D0.out;simp only[Nat.zero_mul,Nat.add_zero,Nat.one_mul,Nat.reduceMul] at r0 r1 r2 r3;have j2:(1:Int)<(ks.length:Int):=by have:=congrArg List.length A2.out; simp at this; omega
  have HC:=aa (HO b (C.lay (ix 26 0 m.next 0)) _ mb L6 L3 L5 L4 _ w6 G7.out (D5.out b (by rw[A2.out]; simp)) B4 M8.out N2.out (by have:=B2.out; have:=B8.out; omega));rw[hD.out] at HC;clear B4;go_wp2_with fail
  refine HC.out.mono ?_;rintro e w7 ⟨⟨r7,rfl⟩,G0⟩;clear HC;have D3:=aa (C6.out.kp G0.kp (u:=[]) am);obtain⟨N6,N8,N7,N9,m7,I5⟩:=KpG.next J9.out G0;have J7:=aa m7;have N0:=aa I5;clear G0 m7 I5 c0 c1 c2 c3 r0 r1 r2 r3 j2;have c0:=ab (D3.out.at' _ (.head _)) 0 _ rfl;have c1:=ab (D3.out.at' _ (.head _)) 1 _ rfl;have c2:=ab (D3.out.at' _ (.head _)) 2 _ rfl;have c3:=ab (D3.out.at' _ (.head _)) 3 _ rfl;simp only at c0 c1 c2 c3;have m3:=ab J7.out.box 3 _ rfl;have HM:=aa J7.out;have A3:=aa N0.out;cases sh with
  |true=>
   go_wp2_with fail
   refine bodyPost_end (results_none rfl _ _ _) rfl ?_;rw[HE.out];exact⟨⟨_,rfl⟩,⟨⟨_,_,_,_,HM.out,A3.out.1⟩,A3.out.2⟩⟩
  |false=>
   have m5:=ab HM.out.box 5 _ rfl;have f5:=frozen_of (o:=5) HM.out.box;have B6:=aa (HM.out.parts (m':={ D with next:=m.next }) 5 (.int .i64 m.next) rfl rfl rfl rfl rfl rfl);go_wp2_with fail
   refine bodyPost_end (results_none rfl _ _ _) rfl ?_;rw[HE.out];exact⟨⟨_,rfl⟩,⟨⟨_,_,_,_,B6.out.1,A3.out.1⟩,A3.out.2.trans B6.out.2 (A3.out.1)⟩⟩
 ·have A2:=aa A4;have B8:=aa (show(T.mk 28 n s ks).size=1+(o.size+(a.size+(b.size))) by rw[T.size,A4]; simp[sizes]);have A7:=aa (show(T.mk 28 n s ks).ks[0]? = some o by show ks[0]? = some o; rw[A4]; rfl);have D0:=aa (show(T.mk 28 n s ks).ks[1]? = some a by show ks[1]? = some a; rw[A4]; rfl);have M9:=aa (show(T.mk 28 n s ks).ks[2]? = some b by show ks[2]? = some b; rw[A4]; rfl);obtain⟨cb,off,_,_,_,_,_,_,hq,C5, -⟩:=dz (t:=.mk 28 n s ks) C7.out A7.out;subst hq;have F4:=aa C5;clear C5;clear A4;clear D8 D7 D6;have E1:=aa ha;have G7:=aa hb;have G8:=aa (cf ho);have G9:=aa (show cr o=false by have:=J6.out (.inr rfl); rwa [show(T.mk 28 n s ks).kid 0=o by rw[A2.out]; rfl] at this);have E5:=aa (co sh d o m [] k (cf ho) HF.out);obtain⟨O,hO⟩:∃ O,Hid (obs sh d o m []=O):=⟨_,aa rfl⟩
  rw[hO.out] at E5;have HE:=aa (show con sh (d+1) (T.mk 28 n s ks) m=(either (con sh d) O.1 (T.mk 28 n s ks) O.2.1).free sh m.next by rw[ss C9.out rfl,show(T.mk 28 n s ks).kid 0=o by rw[A2.out]; rfl,hO.out]);have N5:=aa (A8.out.at' _ (.head _));have M2:=m5;clear ha hb ho;obtain⟨kop,kn,kst,pk,kl,ck,B4,r0,r1,r2,r3⟩:=ft (t:=.mk 28 n s ks) (kids_kept C7.out D1.out.2.bel) (i:=0) A7.out;simp only[Nat.zero_mul,Nat.add_zero,Nat.one_mul,Nat.reduceMul] at r0 r1 r2 r3;have j2:(0:Int)<(ks.length:Int):=by have:=congrArg List.length A2.out; simp at this; omega
  have j5:ks≠[]:=by rw[A2.out]; simp
  have j3:0<ks.length:=List.length_pos_iff.2 j5;have HC:=aa (ye sh d o (m) [] k mb kb none vw vi vj _ w2.drew G8.out (D5.out o (by rw[A2.out]; simp)) (B4.kept ((Below.refl mb _).drew) (Nat.le_refl _)) C2.out.drew am (fun _=>G9.out) HF.out (by have:=B2.out; have:=B8.out; omega) (by have:=B2.out; have:=B8.out; show 0+8 * _≤_; omega));rw[show my none=Value.pointer none from rfl,hO.out] at HC;clear B4;go_upto_region 22 with(fail)
  clear m5 M2 c0 c1 c2 c3;refine zas (fun W=>W.heap[B]? = some (.cells #[.int .i64 28,.int .i64 n,.string s,.slice (some ⟨cb,off,none⟩) ks.length c] 24 (0,0))∧W.heap[cb]? = w2.heap[cb]?) [(0,false),(1,false),(2,false),(3,false),(4,false),(5,false),(7,false),(6,true),(8,true)] (by kernel_rfl) (by kernel_rfl) (by kernel_rfl) ⟨N5.out,rfl⟩ ?_;iterate 7
   apply zcv (ho:=rfl)
   ·rfl
   ·intro W hW;have p0:=ab hW.1 0 _ rfl;have p1:=ab hW.1 1 _ rfl;have p2:=ab hW.1 2 _ rfl;have p3:=ab hW.1 3 _ rfl;have s0:=il r0 hW.2;have s1:=il r1 hW.2;have s2:=il r2 hW.2;have s3:=il r3 hW.2;first|(go_simp; done)|(go_simp; with_reducible rfl)
   simp only[Act.put,List.setIfInBounds_toArray,List.set_cons_zero,List.set_cons_succ]
  refine tc (i:=6) 104 #[.pointer (some ⟨mb,0,none⟩),.agg #[.int .i64 kop,.int .i64 kn,.string kst,.slice pk kl ck],.pointer none] (fun v w'=>v=.int .i64 O.1∧Lays mb kb none sh O.2.1 w2.drew w') rfl ?_ ?_ ?_ ?_
  ·rfl
  ·go_simp
  ·refine HC.out.mono ?_;rintro e w3 ⟨rfl,A6, -⟩;exact⟨_,rfl,rfl,A6⟩
  rintro v w3 ⟨rfl,A6⟩;have F3:(kb=kb∨w.heap.size≤kb)∧KpG mb kb none w w2.drew:=⟨.inl rfl,D1.out.2.trans C2.out.kd (.inl rfl)⟩
  have A0:=aa ((A8.out.below (Below.refl _ w2).drew).kp A6.kp (u:=[]) am);obtain⟨C8,C0,B9,B7,m3,B5⟩:=KpG.next F3 A6;have B0:=aa m3;have B3:=aa B5;have G5:w3.heap[cb]? = w2.heap[cb]?:=A6.kp.bel.block cb F4.out;refine⟨⟨A0.out.at' _ (.head _),G5⟩,?_⟩;have N1:=aa G5;clear A6 m3 B5 F3 G5 HC;simp only[Act.put,List.setIfInBounds_toArray,List.set_cons_zero,List.set_cons_succ];refine tc (i:=8) 105 #[.pointer (some ⟨mb,0,none⟩),.int .i64 O.1,.agg #[.int .i64 28,.int .i64 n,.string s,.slice (some ⟨cb,off,none⟩) ks.length c]] (fun v w'=>Lays mb B7 none sh (either (con sh d) O.1 (T.mk 28 n s ks) O.2.1) w3 w') rfl ?_ ?_ ?_ ?_
  ·rfl
  ·go_simp
  ·refine(zey HO (T.mk 28 n s ks) o a b O.1 O.2.1 _ mb B7 C8 C0 B9 _ w3 A2.out E1.out G7.out (D5.out a (by rw[A2.out]; simp)) (D5.out b (by rw[A2.out]; simp)) (L1.out w3 B3.out.2.bel) B0.out E5.out.m (by have:=B2.out; have:=B8.out; omega)).mono ?_;rintro e w4 ⟨⟨r4,rfl⟩,B1⟩;exact⟨_,rfl,B1⟩
  rintro v w4 B1;have A1:=aa (A0.out.kp B1.kp (u:=[]) am);obtain⟨E7,E9,E8,F0,m4,C4⟩:=KpG.next B3.out B1;have C1:=aa m4;have C3:=aa C4;have J1:w4.heap[cb]? = w2.heap[cb]?:=(B1.kp.bel.block cb F4.out).trans (by first|exact N1.out|skip);refine⟨⟨A1.out.at' _ (.head _),J1⟩,?_⟩;clear B1 m4 C4 J1 r0 r1 r2 r3 j2 j3 j5;simp only[Act.put,List.setIfInBounds_toArray,List.set_cons_zero,List.set_cons_succ];refine zgg ?_;have m3:=ab C1.out.box 3 _ rfl;have HM:=aa C1.out;have A3:=aa C3.out;cases sh with
  |true=>
   go_wp2_with fail
   refine bodyPost_end (results_none rfl _ _ _) rfl ?_;rw[HE.out];exact⟨⟨_,rfl⟩,⟨⟨_,_,_,_,HM.out,A3.out.1⟩,A3.out.2⟩⟩
  |false=>
   have m5:=ab HM.out.box 5 _ rfl;have f5:=frozen_of (o:=5) HM.out.box;have B6:=aa (HM.out.parts (m':={ (either (con false d) O.1 (T.mk 28 n s ks) O.2.1) with next:=m.next }) 5 (.int .i64 m.next) rfl rfl rfl rfl rfl rfl);go_wp2_with fail
   refine bodyPost_end (results_none rfl _ _ _) rfl ?_;rw[HE.out];exact⟨⟨_,rfl⟩,⟨⟨_,_,_,_,B6.out.1,A3.out.1⟩,A3.out.2.trans B6.out.2 (A3.out.1)⟩⟩
 ·exact absurd rfl D7
theorem sr (sh:Bool):∀ d:Nat,zct sh d
 |0=>fun t m k mb kb vw vi vj v w _ hd=>(by have:=je t; omega)
 |d+1=>zvm (sr sh d)
end Gf
end
section
open Go.RowKit
open Rw
set_option maxRecDepth 100000
attribute [local go_sem] dp
namespace Gf
open Co Dn
set_option maxHeartbeats 8000000 in
theorem zub (sh:Bool)(j:Nat)(n:Int)(s:ByteArray)(a b:T)(m:Mk)(k mb kb:Nat)(vw vi vj:Value)(cb off c:Nat)(w:World)(ha:a.letter=99)(hb:b.letter=99)(R1:a.depth≤200)(R0:b.depth≤200)(hn:0≤n∧n≤73048)
  (hv:CoreAt mb w (.mk 31 n s [a,b]) (.agg #[.int .i64 31,.int .i64 n,.string s,.slice (some ⟨cb,off,none⟩) 2 c])) (hm:MkAt mb sh m vw vi vj kb w) (hj:j<m.ws.length) (hf:Fit k m) (hk:k+6+8 * a.size+8 * b.size≤700000):
  Calls Tryz.prog 107 #[.pointer (some ⟨mb,0,none⟩),.agg #[.int .i64 j,.int .i64 31,.int .i64 n,.string s,.slice (some ⟨cb,off,none⟩) 2 c]] w (fun e w'=>(∃ r,e=.returned r)∧Lays mb kb none sh (wy sh j (.mk 31 n s [a,b]) m) w w'):=by
 have Y4:=hv;obtain⟨q,c2,N6,Z3, -, -, -,Q3⟩:=hv.open;simp only[T.op,T.n,T.s,T.ks,List.length_cons,List.length_nil,Value.agg.injEq,Array.mk.injEq,List.cons.injEq,Value.slice.injEq,true_and,and_true] at N6;obtain⟨rfl, -⟩:q=some ⟨cb,off,none⟩∧True:=⟨N6.1.symm,trivial⟩
 have R7:=aa Q3;have O2:=aa (show(T.mk 31 n s [a,b]).ks[0]? = some a from rfl);have O1:=aa (show(T.mk 31 n s [a,b]).ks[1]? = some b from rfl);have B1:=(Below.refl w.heap.size w).alloc (Nat.le_refl _) (.cells #[.int .i64 j,.int .i64 31,.int .i64 n,.string s,.slice (some ⟨cb,off,none⟩) 2 c] 104);have y1:=heap_alloc_new w (.cells #[.int .i64 j,.int .i64 31,.int .i64 n,.string s,.slice (some ⟨cb,off,none⟩) 2 c] 104);have B2:=(Below.refl (w.heap.size+1) (w.alloc (.cells #[.int .i64 j,.int .i64 31,.int .i64 n,.string s,.slice (some ⟨cb,off,none⟩) 2 c] 104))).alloc (by simp) (.cells #[.int .i64 31,.int .i64 n,.string s,.slice (some ⟨cb,off,none⟩) 2 c] 24);have y2:=heap_alloc_new (w.alloc (.cells #[.int .i64 j,.int .i64 31,.int .i64 n,.string s,.slice (some ⟨cb,off,none⟩) 2 c] 104)) (.cells #[.int .i64 31,.int .i64 n,.string s,.slice (some ⟨cb,off,none⟩) 2 c] 24);simp only[World.size_alloc] at y2;have z1:=(B2.block _ (by omega)).trans y1;have BA:=B1.trans (B2.mono (by omega));have Q9:∀ k,vj.ownBlock=some k→k≠w.heap.size:=fun k e=>by
  obtain⟨J,e1,e2,e3⟩:=hm.rj
  have:=(zcj e2 _ e).2;omega
 have HY:=aa (And.intro y1 (hm.below B1));have L5:=aa ((Bx.nil mb _).cons y2 (by have:=hm.lt; omega) rfl);have HM:=aa (hm.below BA);have N9:=aa (Own1.newJob (hm.below BA) z1 Q9);have HB:=aa BA;have R8:=aa (KpG.of (mb:=mb) (kb:=kb) (ub:=none) BA (Nat.le_of_lt hm.lt));have I3:=aa (And.intro hk (And.intro hf.len (And.intro hf.nx (And.intro hf.pt hj))));have HF:=aa hf;have HX:=aa (And.intro ha (And.intro hb (And.intro R1 R0)));have O0:=aa hm.lt;have HN:=aa hn;have a8:IntKind.i64.wrap (n+1)=n+1:=IntWalk.i64_in _ (by omega);clear B1 y1 B2 y2 z1 BA hm hv Y4 Q3 hk hf Z3 ha hb R1 R0 hj Q9 hn N6;go_enter Tryz.func107,Tryz.ntmps107;go_upto_region 1 with(fail)
 have k0:=ab HY.out.1 0 _ rfl;have k1:=ab HY.out.1 1 _ rfl;have k2:=ab HY.out.1 2 _ rfl;have k3:=ab HY.out.1 3 _ rfl;have k4:=ab HY.out.1 4 _ rfl;clear HY;go_upto_region 2 with(fail)
 clear k0 k1 k2 k3 k4;obtain⟨B,hB⟩:∃ B,Hid (w.heap.size=B):=⟨_,aa rfl⟩
 simp only[hB.out] at L5 N9 ⊢;generalize World.alloc _ _=w1 at *;obtain⟨pi,ci,Y3⟩:=dt HM.out.ri;subst Y3;have I2:w1.drew.heap[mb]? = some (.cells #[.int .i64 m.regs,vw,.slice pi m.ins.length ci,.bool sh,vj,.int .i64 m.next,.map (some kb),.bool m.over] 66 (0,0))∧w1.drew.heap[B+1]? = some (.cells #[.int .i64 31,.int .i64 n,.string s,.slice (some ⟨cb,off,none⟩) 2 c] 24 (0,0)):=⟨HM.out.box,L5.out.at' _ (.head _)⟩
 refine ed (fun W=>W.heap[mb]? = some (.cells #[.int .i64 m.regs,vw,.slice pi m.ins.length ci,.bool sh,vj,.int .i64 m.next,.map (some kb),.bool m.over] 66 (0,0))∧W.heap[B+1]? = some (.cells #[.int .i64 31,.int .i64 n,.string s,.slice (some ⟨cb,off,none⟩) 2 c] 24 (0,0))) 13 [false,false,false,false,false,false,false,false,false,false,false,false,true,true] (by kernel_rfl) (by kernel_rfl) (by kernel_rfl) I2 ?_;iterate 12
  apply dn
  ·rfl
  ·intro W hW;have q2:=ab hW.1 2 _ rfl;have p1:=ab hW.2 1 _ rfl;have p2:=ab hW.2 2 _ rfl;first|(go_simp; done)|(go_simp; with_reducible rfl)
  simp only[Act.put,List.setIfInBounds_toArray,List.set_cons_zero,List.set_cons_succ]
 refine dl (v:=.pointer (some ⟨w1.drew.heap.size,0,none⟩)) (w':=w1.drew.alloc (.cells #[.int .i64 0,.int .i64 0,.string ⟨#[]⟩,.int .i64 0,.int .i64 0] 76)) ?_ ?_ ?_ ?_
 ·rfl
 ·go_simp
 ·exact .inr ⟨ag ((Below.refl _ _).alloc (Nat.le_refl _) _) I2.1,ag ((Below.refl _ _).alloc (Nat.le_refl _) _) I2.2⟩
 simp only[Act.put,List.setIfInBounds_toArray,List.set_cons_zero,List.set_cons_succ];refine jh (w':=w1.drew.alloc (.cells #[.int .i64 m.ins.length,.int .i64 (n+1),.string s,.int .i64 0,.int .i64 0] 76)) ?_ ?_ ?_ ?_
 ·rfl
 ·first|(go_simp; done)|(go_simp; rfl)
 ·exact .inl (Nat.le_refl _)
 refine gy ?_;have G5:=(Below.refl w1.drew.heap.size w1.drew).alloc (Nat.le_refl _) (.cells #[.int .i64 m.ins.length,.int .i64 (n+1),.string s,.int .i64 0,.int .i64 0] 76);have Q1:=heap_alloc_new w1.drew (.cells #[.int .i64 m.ins.length,.int .i64 (n+1),.string s,.int .i64 0,.int .i64 0] 76);have L4:=aa (HM.out.drew.below G5);have D1:=aa ((L5.out.below (Below.refl _ w1).drew).below G5);have F4:=aa ((N9.out.below (Below.refl _ w1).drew).below G5);have P9:∀ k,vw.ownBlock=some k→k≠w1.drew.heap.size:=fun k e=>by
  have:=(World.ownsRow.lt HM.out.drew.rw k e).2;omega
 have A8:=aa (Own1.newWait (HM.out.drew.below G5) Q1 P9);have O6:=aa (show KpG mb kb none w _ from(R8.out.trans HM.out.kd (.inl rfl)).trans (kb':=kb) (KpG.of G5 (Nat.le_of_lt HM.out.lt)) (.inl rfl));have A3:=aa (show B+1<w1.drew.heap.size∧mb<w1.drew.heap.size∧w.heap.size≤w1.drew.heap.size from⟨af I2.2,HM.out.lt,HB.out.size⟩);obtain⟨b2,Z4⟩:∃ b2,Hid (w1.drew.heap.size=b2):=⟨_,aa rfl⟩
 rw[Z4.out] at A8 A3 ⊢;clear G5 Q1 P9 I2 HM L5 N9 R8;generalize World.alloc w1.drew _=w3 at *;have g3:=A8.out.2.1;have d1:=ab g3 1 _ rfl;have f1:=frozen_of (o:=1) g3;clear g3;go_upto_if 24 with(fail)
 go_cut [24] (fun bb wx=>True∧Hid (MkAt mb sh m vw (.slice pi m.ins.length ci) vj kb wx∧Bx mb [(B+1,#[.int .i64 31,.int .i64 n,.string s,.slice (some ⟨cb,off,none⟩) 2 c],24)] wx∧Own1 mb 4 B #[.int .i64 j,.int .i64 31,.int .i64 n,.string s,.slice (some ⟨cb,off,none⟩) 2 c] 104 wx∧Own1 mb 1 b2 #[.int .i64 m.ins.length,.int .i64 (cv (n+1)),.string s,.int .i64 0,.int .i64 0] 76 wx∧KpG mb kb none w wx));case first=>
  by_cases hd:73048<n+1
  ·have gd:decide (73048<n+1)=true:=decide_eq_true hd;have Z5:decide (73048≤n)=true:=decide_eq_true (by omega);have HD:=aa (show cv (n+1)=0 from if_pos hd);go_wp2_with fail
   go_meet;have gs:=grown_set w3 b2 1 (.int .i64 0);refine⟨trivial,L4.out.otherW gs A8.out.2.1 A3.out.2.1 (Own1.ne L4.out A8.out),⟨fun x hx=>?_,D1.out.ok⟩,F4.out.far gs (by have:=A3.out.1; omega) (by have:=A3.out.2.1; omega),?_,O6.out.mine gs A3.out.2.2 O0.out⟩
   ·have e:=D1.out.at' x hx;rw[List.mem_singleton] at hx;subst hx;exact box_grown gs (by show B+1≠b2; have:=A3.out.1; omega) e
   ·have:=A8.out.set A3.out.2.1 1 (.int .i64 0);rw[HD.out];exact this
  ·have gd:decide (73048<n+1)=false:=decide_eq_false hd;have Z5:decide (73048≤n)=false:=decide_eq_false (by omega);have HD:=aa (show cv (n+1)=n+1 from if_neg hd);go_wp2_with fail
   go_meet;refine⟨trivial,L4.out,D1.out,F4.out,?_,O6.out⟩;rw[HD.out];exact A8.out
 case rest=>
 obtain⟨-,HS⟩:=hcut;clear d1 f1 L4 D1 F4 A8 O6;have R6:=aa HS.out.1;have C6:=aa HS.out.2.1;have F3:=aa HS.out.2.2.1;have I8:=aa HS.out.2.2.2.1;have S2:=aa HS.out.2.2.2.2;clear HS;have Y5:=I3.out;have fA:=((HF.out.lay (ix 21 0 0 n)).lay (ix 28 0 0 j)).fin;obtain⟨A,hA⟩:∃ A,Hid (((m.lay (ix 21 0 0 n)).lay (ix 28 0 0 j)).fin=A):=⟨_,aa rfl⟩
 have Y9:A.ins.length=m.ins.length+3:=by rw[←hA.out]; unfold Mk.fin; rw[ah,ah,ah]
 have Y1:A.ws=m.ws:=by rw[←hA.out]; rfl
 rw[hA.out] at fA;have f4:=fA.lay (ix 21 0 0 n);have fC:=cx sh 200 a _ _ HX.out.1 f4;have N7:=(zdx sh 200 a (A.lay (ix 21 0 0 n))).2;rw[ah] at N7;obtain⟨C,hC⟩:∃ C,Hid (con sh 200 a (A.lay (ix 21 0 0 n))=C):=⟨_,aa rfl⟩
 rw[hC.out] at fC N7;have fB:=(fC.fin.here m.ins.length).here A.ins.length;obtain⟨Bm,L3⟩:∃ Bm,Hid ((C.fin.here m.ins.length).here A.ins.length=Bm):=⟨_,aa rfl⟩
 rw[L3.out] at fB;have fD:=cx sh 200 b _ _ HX.out.2.1 fB.fresh;obtain⟨D,hD⟩:∃ D,Hid (con sh 200 b Bm.fresh=D):=⟨_,aa rfl⟩
 rw[hD.out] at fD;have HE:=aa (show wy sh j (T.mk 31 n s [a,b]) m=D.fin.setW j fun _=>⟨m.ins.length,cv (n+1),s,A.ins.length,Bm.ins.length⟩ by
  unfold wy;simp only[ay,bx,T.n,T.s,hA.out,hC.out,L3.out,hD.out])
 have Z0:=fC.len;have Z1:=fD.len;have Z2:=fB.len;have C8:=aa (show m.ins.length≤700000∧A.ins.length=m.ins.length+3∧m.ins.length+4≤C.ins.length∧C.ins.length≤800000∧Bm.ins.length≤800000∧D.ins.length≤800000 by omega);have a0:=aa f4;have Z9:=aa fB.fresh;clear fA f4 fC N7 fB fD Z0 Z1 Z2 Y9 Y1 Y5;have a9:=aa (And.intro (show(0:Int)≤(j:Int) by omega) (show I64 (j:Int) by unfold I64; have:=I3.out; omega));have c1:=ab (C6.out.at' _ (.head _)) 1 _ rfl;have c2:=ab (C6.out.at' _ (.head _)) 2 _ rfl;have c3:=ab (C6.out.at' _ (.head _)) 3 _ rfl;have o0:=ab F3.out.2.1 0 _ rfl;simp only at c1 c2 c3;have F7:=aa (gh mb kb sh (m) vw (.slice pi m.ins.length ci) vj (ix 21 0 0 n) wc R6.out (by have:=C8.out; omega));unfold ix txt0 at F7;go_wp2_with fail
 refine F7.out.mono ?_;rintro e w5 ⟨f5,rfl,⟨P8,P7,rfl,Y0⟩,H4⟩;have A0:=aa (show JumpFn mb w5 _ _ from⟨P8,P7,rfl,Y0⟩);have C5:=aa (C6.out.kp H4.kp (u:=[]) am);have F2:=aa (F3.out.kp H4.kp);have I7:=aa (I8.out.kp H4.kp);obtain⟨T1,X0,T6,X7,m5,Q8⟩:=KpG.next ⟨.inl rfl,S2.out⟩ H4;have R5:=aa m5;have S1:=aa Q8;clear H4 m5 Q8 R6 S2 C6 F3 I8 c1 c2 c3 o0 F7;have c1:=ab (C5.out.at' _ (.head _)) 1 _ rfl;have c2:=ab (C5.out.at' _ (.head _)) 2 _ rfl;have c3:=ab (C5.out.at' _ (.head _)) 3 _ rfl;have o0:=ab F2.out.2.1 0 _ rfl;simp only at c1 c2 c3;have B5:=aa (ir mb X7 sh (m.lay (ix 21 0 0 n)) T1 X0 T6 (ix 28 0 0 j) w5 R5.out (by rw[ah]; have:=C8.out; omega));unfold ix txt0 at B5;go_wp2_with fail
 refine B5.out.mono ?_;rintro e w6 ⟨rfl,G4⟩;have L1:=aa (C5.out.kp G4.kp (u:=[]) am);have J0:=aa (F2.out.kp G4.kp);have I6:=aa (I7.out.kp G4.kp);have A0:=aa (A0.out.kp G4.kp (fun u e=>by cases e));obtain⟨T0,T9,T5,X6,m6,Q7⟩:=KpG.next S1.out G4;have R4:=aa m6;have S0:=aa Q7;clear G4 m6 Q7 R5 S1 C5 F2 I7 c1 c2 c3 o0 B5;have B5:=aa (ud mb X6 sh ((m.lay (ix 21 0 0 n)).lay (ix 28 0 0 j)) T0 T9 T5 w6 R4.out (by rw[ah,ah]; have:=C8.out; omega));go_wp2_with fail
 refine B5.out.mono ?_;rintro e w7 ⟨⟨r7,rfl⟩,G3⟩;have F9:=aa (L1.out.kp G3.kp (u:=[]) am);have I9:=aa (J0.out.kp G3.kp);have A7:=aa (I6.out.kp G3.kp);have A0:=aa (A0.out.kp G3.kp (fun u e=>by cases e));obtain⟨S9,a1,T4,X5,m7,Q6⟩:=KpG.next S0.out G3;have G6:=aa m7;have O5:=aa Q6;clear G3 m7 Q6 R4 S0 L1 J0 I6 B5;rw[hA.out] at G6;obtain⟨X3,Z8,N5⟩:=dt G6.out.ri;subst N5;have m2:=ab G6.out.box 2 _ rfl;have q3:=ab A7.out.2.1 3 _ rfl;have fq:=frozen_of (o:=3) A7.out.2.1;go_upto_region 9 with(fail)
 have gs:=grown_set w7 b2 3 (.int .i64 (A).ins.length);have R3:=aa (G6.out.otherW gs A7.out.2.1 A3.out.2.1 (Own1.ne G6.out A7.out));have C4:=aa (show Bx mb [(B+1,#[.int .i64 31,.int .i64 n,.string s,.slice (some ⟨cb,off,none⟩) 2 c],24)] (w7.setCell ⟨b2,3,none⟩ (.int .i64 (A).ins.length)) from⟨fun x hx=>by
  have e:=F9.out.at' x hx;rw[List.mem_singleton] at hx;subst hx;exact box_grown gs (by show B+1≠b2; have:=A3.out.1; omega) e,F9.out.ok⟩)
 have F1:=aa (I9.out.far gs (by have:=A3.out.1; omega) (by have:=A3.out.2.1; omega));have I5:=aa (A7.out.set A3.out.2.1 3 (.int .i64 (A).ins.length));have R9:=aa (And.intro O5.out.1 (O5.out.2.mine gs A3.out.2.2 O0.out));have A0:=aa (show JumpFn mb (w7.setCell ⟨b2,3,none⟩ (.int .i64 (A).ins.length)) _ _ by
  obtain⟨x1,x2,e1,e2,e3,e4,e5⟩:=A0.out;have Q2:∀(bq:Nat) (cur:Array Value) (tt:TypeId),w7.heap[bq]? = some (.cells cur tt (0,0))→tt≠76→bq≠b2:=fun bq cur tt e ht e6=>by subst e6; rw[A7.out.2.1] at e; simp at e; exact ht e.2.symm
  exact⟨x1,x2,e1,e2,e3,box_grown gs (Q2 _ _ _ e4 (by decide)) e4,box_grown gs (Q2 _ _ _ e5 (by decide)) e5⟩)
 clear gs m2 q3 fq G6 O5 F9 I9 A7;generalize World.setCell _ _ _=w8 at *;have c1:=ab (C4.out.at' _ (.head _)) 1 _ rfl;have c2:=ab (C4.out.at' _ (.head _)) 2 _ rfl;have c3:=ab (C4.out.at' _ (.head _)) 3 _ rfl;have o0:=ab F1.out.2.1 0 _ rfl;simp only at c1 c2 c3;have F7:=aa (gh mb X5 sh (A) S9 (.slice X3 A.ins.length Z8) T4 (ix 21 0 0 n) w8 R3.out (by have:=C8.out; omega));unfold ix txt0 at F7;go_wp2_with fail
 refine F7.out.mono ?_;rintro e w9 ⟨f9,rfl,⟨P6,P5,rfl,X9⟩,G2⟩;have A9:=aa (show JumpFn mb w9 _ _ from⟨P6,P5,rfl,X9⟩);have C3:=aa (C4.out.kp G2.kp (u:=[]) am);have F0:=aa (F1.out.kp G2.kp);have I4:=aa (I5.out.kp G2.kp);have A0:=aa (A0.out.kp G2.kp (fun u e=>by cases e));obtain⟨S8,T8,T3,X4,m9,Q5⟩:=KpG.next R9.out G2;have R2:=aa m9;have O4:=aa Q5;clear G2 m9 Q5 R3 R9 C4 F1 I5 c1 c2 c3 o0 F7;have c1:=ab (C3.out.at' _ (.head _)) 1 _ rfl;have c2:=ab (C3.out.at' _ (.head _)) 2 _ rfl;have c3:=ab (C3.out.at' _ (.head _)) 3 _ rfl;have o0:=ab F0.out.2.1 0 _ rfl;simp only at c1 c2 c3;obtain⟨kop,kn,kst,pk,kl,ck,H1,r0,r1,r2,r3⟩:=ft (t:=.mk 31 n s [a,b]) (kids_kept R7.out O4.out.2.bel) (i:=0) O2.out;simp only[Nat.zero_mul,Nat.add_zero,Nat.one_mul,Nat.reduceMul] at r0 r1 r2 r3;have F8:=aa (sr sh 200 a (A.lay (ix 21 0 0 n)) _ mb X4 S8 T8 T3 _ w9 HX.out.1 HX.out.2.2.1 H1 R2.out a0.out (by have:=I3.out; omega));rw[hC.out] at F8;clear H1;go_wp2_with fail
 refine F8.out.mono ?_;rintro e S7 ⟨⟨a7,rfl⟩,A6⟩;have E9:=aa (C3.out.kp A6.kp (u:=[]) am);have E4:=aa (F0.out.kp A6.kp);have D7:=aa (I4.out.kp A6.kp);have A0:=aa (A0.out.kp A6.kp (fun u e=>by cases e));have A9:=aa (A9.out.kp A6.kp (fun u e=>by cases e));obtain⟨M0,M9,M5,N4,P3,I0⟩:=KpG.next O4.out A6;have J5:=aa P3;have J9:=aa I0;clear A6 P3 I0 R2 O4 C3 F0 I4 c1 c2 c3 o0 F8 r0 r1 r2 r3;have B5:=aa (ud mb N4 sh (C) M0 M9 M5 S7 J5.out (by have:=C8.out; omega));go_wp2_with fail
 refine B5.out.mono ?_;rintro e S6 ⟨⟨a6,rfl⟩,A5⟩;have E8:=aa (E9.out.kp A5.kp (u:=[]) am);have E3:=aa (E4.out.kp A5.kp);have D6:=aa (D7.out.kp A5.kp);have A0:=aa (A0.out.kp A5.kp (fun u e=>by cases e));have A9:=aa (A9.out.kp A5.kp (fun u e=>by cases e));obtain⟨L9,M8,M4,N3,P2,H9⟩:=KpG.next J9.out A5;have J4:=aa P2;have J8:=aa H9;clear A5 P2 H9 J5 J9 E9 E4 D7 B5;obtain⟨x1,x2,G8, -, -,H0,G9⟩:=A0.out;simp only[Value.func.injEq,Array.mk.injEq,List.cons.injEq,Value.pointer.injEq,Option.some.injEq,Addr.mk.injEq,and_true,true_and] at G8;obtain⟨rfl,rfl⟩:=G8;have L0:=aa (ju mb N3 sh (C.fin) L9 M8 M4 (m.ins.length) P8 P7 S6 J4.out (by unfold Mk.fin; rw[ah]; have:=C8.out; omega) (by unfold Mk.fin; rw[ah]; have:=C8.out; omega) H0 G9);clear H0 G9;go_wp2_with fail
 refine L0.out.mono ?_;rintro e S5 ⟨⟨a5,rfl⟩,B3⟩;have E7:=aa (E8.out.kp B3.kp (u:=[]) am);have E2:=aa (E3.out.kp B3.kp);have D5:=aa (D6.out.kp B3.kp);have A9:=aa (A9.out.kp B3.kp (fun u e=>by cases e));obtain⟨L8,M7,M3,N2,P1,H8⟩:=KpG.next J8.out B3;have J3:=aa P1;have J7:=aa H8;clear B3 P1 H8 J4 J8 E8 E3 D6 L0;obtain⟨x1,x2,G8, -, -,H0,G9⟩:=A9.out;simp only[Value.func.injEq,Array.mk.injEq,List.cons.injEq,Value.pointer.injEq,Option.some.injEq,Addr.mk.injEq,and_true,true_and] at G8;obtain⟨rfl,rfl⟩:=G8;have L0:=aa (ju mb N2 sh (C.fin.here m.ins.length) L8 M7 M3 (A.ins.length) P6 P5 S5 J3.out (by unfold Mk.fin; rw[ak,ah]; have:=C8.out; omega) (by unfold Mk.fin; rw[ak,ah]; have:=C8.out; omega) H0 G9);clear H0 G9;go_wp2_with fail
 refine L0.out.mono ?_;rintro e O7 ⟨⟨a4,rfl⟩,B9⟩;have C7:=aa (E7.out.kp B9.kp (u:=[]) am);have E1:=aa (E2.out.kp B9.kp);have A2:=aa (D5.out.kp B9.kp);obtain⟨L7,X2,M2,G7,P0,H7⟩:=KpG.next J7.out B9;have B4:=aa P0;have F6:=aa H7;clear B9 P0 H7 J3 J7 E7 E2 D5 L0;rw[L3.out] at B4;obtain⟨N0,N8,H2⟩:=dt B4.out.ri;subst H2;have m2:=ab B4.out.box 2 _ rfl;have q3:=ab A2.out.2.1 4 _ rfl;have fq:=frozen_of (o:=4) A2.out.2.1;go_upto_region 15 with(fail)
 have gs:=grown_set O7 b2 4 (.int .i64 (Bm).ins.length);have C2:=aa (B4.out.otherW gs A2.out.2.1 A3.out.2.1 (Own1.ne B4.out A2.out));have E6:=aa (show Bx mb [(B+1,#[.int .i64 31,.int .i64 n,.string s,.slice (some ⟨cb,off,none⟩) 2 c],24)] (O7.setCell ⟨b2,4,none⟩ (.int .i64 (Bm).ins.length)) from⟨fun x hx=>by
  have e:=C7.out.at' x hx;rw[List.mem_singleton] at hx;subst hx;exact box_grown gs (by show B+1≠b2; have:=A3.out.1; omega) e,C7.out.ok⟩)
 have E0:=aa (E1.out.far gs (by have:=A3.out.1; omega) (by have:=A3.out.2.1; omega));have D4:=aa (A2.out.set A3.out.2.1 4 (.int .i64 (Bm).ins.length));have D0:=aa (And.intro F6.out.1 (F6.out.2.mine gs A3.out.2.2 O0.out));clear gs m2 q3 fq B4 F6 C7 E1 A2;generalize World.setCell _ _ _=w14 at *;have Y6:=@run_makeMap Tryz.prog;have BM:=(Below.refl w14.heap.size w14).alloc (Nat.le_refl _) (.map #[] 0);have I1:=C2.out.below BM;have s1:=heap_setCell_same (w14.alloc (.map #[] 0)) mb 5 _ _ (.int .i64 0) I1.box;have Z7:=frozen_of (o:=5) I1.box;have Z6:=frozen_of (o:=6) s1;have m5:=ab I1.box 5 _ rfl;have m6:=ab s1 6 _ rfl;have p1:=I1.parts (m':={ Bm with next:=0 }) 5 (.int .i64 0) rfl rfl rfl rfl rfl rfl;have P4:=(Kn.made w14).kept (grown_set (w14.alloc (.map #[] 0)) mb 5 (.int .i64 0)) (fun e=>by have:=C2.out.lt; cases e; omega);have J2:=aa (MkAt.reset (m':=Bm.fresh) (kb':=w14.heap.size) 6 (.map (some w14.heap.size)) p1.1.box rfl p1.1.rw p1.1.ri p1.1.rj ⟨0,Nat.zero_le _,P4⟩ C2.out.lt);have B6:=((KpG.of (mb:=mb) (kb:=G7) (ub:=none) BM (Nat.le_of_lt C2.out.lt)).trans p1.2 (.inl rfl)).trans (zbr (kb:=G7) (ub:=none) 6 (.map (some w14.heap.size)) p1.1.box (by rintro _ (rfl|rfl)<;>rfl)) (.inl rfl);have A4:=aa (E6.out.kp B6 (u:=[]) am);have C0:=aa (E0.out.kp B6);have D3:=aa (D4.out.kp B6);have F5:=aa (show(w14.heap.size=kb∨w.heap.size≤w14.heap.size)∧KpG mb kb none w _ from⟨.inr D0.out.2.bel.size,D0.out.2.trans B6 D0.out.1⟩);clear p1 P4 B6 I1 BM;go_upto_region 16 with(fail)
 clear m5 m6 s1 Z7 Z6 Y6 C2 E6 E0 D4 D0;generalize World.setCell _ _ _=w15 at *;have c1:=ab (A4.out.at' _ (.head _)) 1 _ rfl;have c2:=ab (A4.out.at' _ (.head _)) 2 _ rfl;have c3:=ab (A4.out.at' _ (.head _)) 3 _ rfl;have o0:=ab C0.out.2.1 0 _ rfl;simp only at c1 c2 c3;obtain⟨kop,kn,kst,pk,kl,ck,H1,r0,r1,r2,r3⟩:=ft (t:=.mk 31 n s [a,b]) (kids_kept R7.out F5.out.2.bel) (i:=1) O1.out;simp only[Nat.zero_mul,Nat.add_zero,Nat.one_mul,Nat.reduceMul] at r0 r1 r2 r3;have F8:=aa (sr sh 200 b (Bm.fresh) _ mb w14.heap.size L7 (.slice N0 Bm.ins.length N8) M2 _ w15 HX.out.2.1 HX.out.2.2.2 H1 J2.out Z9.out (by have:=I3.out; omega));rw[hD.out] at F8;clear H1;go_wp2_with fail
 refine F8.out.mono ?_;rintro e S4 ⟨⟨a3,rfl⟩,B8⟩;have E5:=aa (A4.out.kp B8.kp (u:=[]) am);have D9:=aa (C0.out.kp B8.kp);have D2:=aa (D3.out.kp B8.kp);obtain⟨L6,M6,M1,N1,O9,H6⟩:=KpG.next F5.out B8;have J1:=aa O9;have J6:=aa H6;clear B8 O9 H6 J2 F5 A4 C0 D3 c1 c2 c3 o0 F8 r0 r1 r2 r3;have B5:=aa (ud mb N1 sh (D) L6 M6 M1 S4 J1.out (by have:=C8.out; omega));go_wp2_with fail
 refine B5.out.mono ?_;rintro e B0 ⟨⟨a2,rfl⟩,B7⟩;have L2:=aa (E5.out.kp B7.kp (u:=[]) am);have D8:=aa (D9.out.kp B7.kp);have A1:=aa (D2.out.kp B7.kp);obtain⟨T2,X1,T7,X8,O8,H5⟩:=KpG.next J6.out B7;have C1:=aa O8;have C9:=aa H5;clear B7 O8 H5 J1 J6 E5 D9 D2 B5;have Q0:j<D.fin.ws.length:=by
  have h1:=(kq sh 200 b Bm.fresh).1;rw[hD.out] at h1;have h2:=(kq sh 200 a (A.lay (ix 21 0 0 n))).1;rw[hC.out] at h2;have h3:Bm.ws.length=C.ws.length:=by rw[←L3.out]; rfl
  have h4:A.ws.length=m.ws.length:=by rw[←hA.out]; rfl
  have h5:=I3.out.2.2.2.2;have h6:(A.lay (ix 21 0 0 n)).ws.length=A.ws.length:=rfl;have h7:Bm.fresh.ws.length=Bm.ws.length:=rfl;have h8:D.fin.ws.length=D.ws.length:=rfl;omega
 obtain⟨x,hx⟩:∃ x,D.fin.ws[j]? = some x:=⟨_,List.getElem?_eq_getElem Q0⟩
 obtain⟨g,cw,Y2,hg,Y7,G1,G0⟩:=C1.out.wcell hx;have q0:B0.cell? ⟨g,j * 5,none⟩=some (.int .i64 x.entry):=G1 0 _ rfl;have q1:=G1 1 _ rfl;have q2:=G1 2 _ rfl;have q3:=G1 3 _ rfl;have q4:=G1 4 _ rfl;have z0:=G0 (j * 5);have z1:=G0 (j * 5+1);have z2:=G0 (j * 5+2);have z3:=G0 (j * 5+3);have z4:=G0 (j * 5+4);have u0:=ab A1.out.2.1 0 _ rfl;have u1:=ab A1.out.2.1 1 _ rfl;have u2:=ab A1.out.2.1 2 _ rfl;have u3:=ab A1.out.2.1 3 _ rfl;have u4:=ab A1.out.2.1 4 _ rfl;have o0:=ab D8.out.2.1 0 _ rfl;have H3:=ab C1.out.box 1 _ rfl;have S3:=aa (MkAt.setAll (y:=⟨m.ins.length,cv (n+1),s,A.ins.length,Bm.ins.length⟩) C1.out.drew hx hg);have O3:=aa (And.intro C9.out.1 (C9.out.2.trans C1.out.kd C9.out.1));subst Y2;have j1:(0:Int)≤(j:Int):=by omega
 have j2:(j:Int)<(D.fin.ws.length:Int):=by omega
 obtain⟨lw,Y8⟩:∃ lw,Hid (D.fin.ws.length=lw):=⟨_,aa rfl⟩
 rw[Y8.out] at H3 j2;clear G1 G0 hx Q0 hg Y7 C1 L2 D8 A1 C9;go_upto_region 18 with(fail)
 go_still_tail 9,(by kernel_rfl)
 change wpList _ _ _ _ _ B0.drew
 replace q0:B0.drew.cell? ⟨g,j * 5,none⟩=some (.int .i64 x.entry):=q0;replace q1:B0.drew.cell? ⟨g,j * 5+1,none⟩=some (.int .i64 x.day):=q1;replace q2:B0.drew.cell? ⟨g,j * 5+2,none⟩=some (.string x.label):=q2;replace q3:B0.drew.cell? ⟨g,j * 5+3,none⟩=some (.int .i64 x.first):=q3;replace q4:B0.drew.cell? ⟨g,j * 5+4,none⟩=some (.int .i64 x.second):=q4;replace z0:B0.drew.frozen? ⟨g,j * 5,none⟩=false:=z0;replace z1:B0.drew.frozen? ⟨g,j * 5+1,none⟩=false:=z1;replace z2:B0.drew.frozen? ⟨g,j * 5+2,none⟩=false:=z2;replace z3:B0.drew.frozen? ⟨g,j * 5+3,none⟩=false:=z3;replace z4:B0.drew.frozen? ⟨g,j * 5+4,none⟩=false:=z4;clear u0 u1 u2 u3 u4 o0 H3;generalize B0.drew=wd at *;go_wp2_with fail
 refine bodyPost_end (results_none rfl _ _ _) rfl ?_;rw[HE.out];exact⟨⟨_,rfl⟩,⟨⟨_,_,_,_,S3.out.1,O3.out.1⟩,O3.out.2.trans S3.out.2 O3.out.1⟩⟩
end Gf
end
end Go.Proofs.YtanlmbbalamgkaaGreatDoor

/- Proved: lemmas and contracts of the functions that the law reaches, part 23 of 35: GfLay, GfSetW, OptIdle, OptNever, OptTry, OptFirst. Conditions: as each states. -/
import Derived.Deep.RegionHeld3
import Derived.Test.YtanlmbbalamgkaaGreatDoorVmp22
namespace Go.Proofs.YtanlmbbalamgkaaGreatDoor
set_option linter.unusedVariables false
set_option linter.unusedSimpArgs false
section
open Go.RowKit
open Rw
set_option maxRecDepth 100000
namespace Gf
theorem zwu {w:World}{ops:Array Oper}{o:Oper}{a:Act}{K:Act→World→Prop}{Q:Exit→Act→World→Prop}{E:Prop}(A4:o.guard=none)(s x:Operand)
  (ho:o.op=.call { callee:=.builtin .append,args:=#[s,x],argTypes:=#[27,27] })
  (base:Nat) (v:Value) (L:List Gen.Ix) (hs:a.eval s=v) (A0:oo base w v L) (y:Gen.Ix) (hx:a.eval x=.slice (some ⟨w.heap.size,0,none⟩) 1 1)
  (A1:L.length+1≤1000000) (A2:base≤w.heap.size)
  (h:∀ v' w',oo base w' v' (L++[y])→w.grownBy w' v.ownBlock→K (a.put o.dst v') w'):
  if Region.wanted o (yielded ops a.tmps)=true then Oper.wp Tryz.prog o a (w.alloc (.cells #[.int .i64 y.op,.int .i64 y.a,.int .i64 y.b,.int .i64 y.c,.int .i64 y.n,.string y.s,.int .i64 y.to] 73)) K Q else E:=by
 have hw:Region.wanted o (yielded ops a.tmps)=true:=by simp[Region.wanted,A4]
 rw[if_pos hw];obtain⟨i,hi,hz,A3,A5⟩:=info_split znt;refine wp_append_own _ s x 27 ho base 73 i _ 7 64 Tryz.underlying27 hi hz A3 A5 rfl (by decide) v L.length _ hs (World.ownsRow.alloc A0 _) ⟨w.heap.size,0,none⟩ 1 1 (ix7 y) hx rfl
  (fun j u hj=>?_) (fun u hu=>?_) (by unfold maxLen; omega) (by omega) (by simp; omega) (fun v' w' h1 h2 _=>h v' w' ?_ (grown_trans (grown_of_below ((Below.refl _ _).alloc (Nat.le_refl _) _) _) h2))
 ·rw[add_gen,World.cell?_alloc_new,Nat.zero_add,←hj];simp[ix7]
 ·simp only[ix7,List.mem_cons,List.not_mem_nil,or_false] at hu;rcases hu with rfl|rfl|rfl|rfl|rfl|rfl|rfl<;>rfl
 ·show World.ownsRow w' base _ 7 v' (L++[y]).length ((L++[y]).flatMap ix7)
  rw[List.length_append,List.flatMap_append];simpa using h1
def zyb (mb kb:Nat)(sh:Bool)(m:Mk)(x:Gen.Ix)(w:World)(e:Ending)(w':World):Prop:=e=.returned (.int .i64 m.ins.length)∧Lays mb kb none sh (m.lay x) w w'
set_option maxHeartbeats 2000000 in
theorem ir (mb kb:Nat)(sh:Bool)(m:Mk)(vw vi vj:Value)(x:Gen.Ix)(w:World)(h:MkAt mb sh m vw vi vj kb w)(hl:m.ins.length≤900000):
  Calls Tryz.prog 102 #[.pointer (some ⟨mb,0,none⟩),.agg #[.int .i64 x.op,.int .i64 x.a,.int .i64 x.b,.int .i64 x.c,.int .i64 x.n,.string x.s,.int .i64 x.to]] w (zyb mb kb sh m x w):=by
 obtain⟨p,c,rfl⟩:=dt h.ri;have B0:=(Below.refl w.heap.size w).alloc (Nat.le_refl _) (.cells #[.int .i64 x.op,.int .i64 x.a,.int .i64 x.b,.int .i64 x.c,.int .i64 x.n,.string x.s,.int .i64 x.to] 73);have HB:=aa (show zwl _ w.heap.size x from heap_alloc_new w _);have HS:=aa (h.below B0);have A5:=aa (KpG.of (mb:=mb) (kb:=kb) (ub:=none) B0 (Nat.le_of_lt h.lt));have A6:IntKind.i64.wrap ((m.ins.length:Int)+1 - 1)=(m.ins.length:Int):=by rw[Int.add_sub_cancel]; exact IntWalk.i64_in _ (by omega)
 have A0:(m.lay x).ins.length=m.ins.length+1:=by simp[Mk.lay]
 have HL:=aa hl;have A4:=aa A0;clear B0 h hl A0;go_enter Tryz.func102,Tryz.ntmps102;go_upto_region 1 with(fail)
 generalize w.alloc (.cells #[.int .i64 x.op,.int .i64 x.a,.int .i64 x.b,.int .i64 x.c,.int .i64 x.n,.string x.s,.int .i64 x.to] 73)=w2 at *;generalize w.heap.size=xb at *;have x0:=ab HB.out 0 _ rfl;have x1:=ab HB.out 1 _ rfl;have x2:=ab HB.out 2 _ rfl;have x3:=ab HB.out 3 _ rfl;have x4:=ab HB.out 4 _ rfl;have x5:=ab HB.out 5 _ rfl;have x6:=ab HB.out 6 _ rfl;have m2:=ab HS.out.box 2 _ rfl;go_cut [0] (fun v wx=>v=.pointer (some ⟨mb,0,none⟩)∧∃ vi',Hid (MkAt mb sh (m.lay x) vw vi' vj kb wx∧KpG mb kb none w wx));case first=>
  have A3:m.ins.length+1≤1000000:=by have:=HL.out; omega
  have hD:=aa (show oo (mb+1) w2.drew (.slice p m.ins.length c) m.ins∧w2.drew.heap[mb]? = some (.cells #[.int .i64 m.regs,vw,.slice p m.ins.length c,.bool sh,vj,.int .i64 m.next,.map (some kb),.bool m.over] 66 (0,0)) from⟨HS.out.ri,HS.out.box⟩);have A7:=ab hD.out.2 2 _ rfl;have B1:=fj m2 (.cells #[.int .i64 x.op,.int .i64 x.a,.int .i64 x.b,.int .i64 x.c,.int .i64 x.n,.string x.s,.int .i64 x.to] 73);go_region_law (first|(refine zwu rfl _ _ (by rfl) (mb+1) (.slice p m.ins.length c) m.ins (by rfl) hD.out.1 x (by rfl) A3 (af hD.out.2) ?_; intro v' w5 h5 h6; have A1:=(h6.block mb (af hD.out.2) (fun e=>mi hD.out.1 (by omega) e.symm)).trans hD.out.2; have A9:=ab A1 2 _ rfl; have A8:=frozen_of (o:=2) A1; obtain⟨p5,c5,rfl⟩:=dt h5))
  all_goals go_wp2_with fail
  all_goals go_meet
  all_goals
   have hq:=MkAt.ins (W:=w2.drew) (show MkAt mb sh m vw (.slice p m.ins.length c) vj kb w2.drew from⟨HS.out.box,HS.out.rw,HS.out.ri,(by obtain⟨J,e1,e2,e3⟩:=HS.out.rj; exact⟨J,e1,e2,fun x hx=>(e3 x hx).kept ((Below.refl mb w2).drew) (Nat.le_refl _)⟩),(by obtain⟨n,e1,e2⟩:=HS.out.kn; exact⟨n,e1,e2⟩),HS.out.kb⟩) h5 h6;obtain⟨q1,q2,q3,⟨n,q4,q5⟩,q6⟩:=hq;have h7:oo (mb+1) w5 (Value.slice p5 (m.ins.length+1) c5) (m.ins++[x]):=by rw[List.length_append,List.length_singleton] at h5; exact h5
   have qd:KpG mb kb none w2 w2.drew:=KpG.of ((Below.refl _ w2).drew) (Nat.le_of_lt HS.out.lt);exact⟨rfl,_,MkAt.reset 2 _ q1 rfl q2 h7 q3 ⟨n,q4,q5⟩ HS.out.kb,((A5.out.trans qd (.inl rfl)).trans q6 (.inl rfl)).trans (zbr 2 _ q1 (by rintro _ (rfl|rfl)<;>rfl)) (.inl rfl)⟩
 case rest=>
  obtain⟨rfl,vi',H5⟩:=hcut;obtain⟨p5,c5,rfl⟩:=dt H5.out.1.ri;have y2:=ab H5.out.1.box 2 _ rfl;rw[A4.out] at y2;clear x0 x1 x2 x3 x4 x5 x6 m2;go_wp2_with fail
  go_ret;have A2:wrap64 (m.ins.length:Int)=(m.ins.length:Int):=by have:=HL.out; exact IntWalk.wrap64_in _ (by omega)
  exact⟨by simp[A2],⟨_,_,_,_,H5.out.1,.inl rfl⟩,H5.out.2⟩
set_option maxHeartbeats 2000000 in
theorem ud (mb kb:Nat)(sh:Bool)(m:Mk)(vw vi vj:Value)(w:World)(h:MkAt mb sh m vw vi vj kb w)(hl:m.ins.length≤900000):
  Calls Tryz.prog 51 #[.pointer (some ⟨mb,0,none⟩)] w (fun e w'=>(∃ r,e=.returned r)∧Lays mb kb none sh m.fin w w'):=by
 have HL:=aa (ir mb kb sh m vw vi vj (ix 30 0 0 0) w h hl);clear h;unfold ix txt0 at HL;go_enter Tryz.func51,Tryz.ntmps51;go_wp2_with fail
 refine HL.out.mono ?_;rintro e w2 ⟨rfl,H2⟩;have H:=aa H2;clear H2;go_wp2_with fail
 refine bodyPost_end (results_none rfl _ _ _) rfl ?_;exact⟨⟨_,rfl⟩,H.out⟩
def JumpFn (mb:Nat)(W:World)(f:Value)(p:Nat):Prop:=∃ b1 b2,f=.func (.func 150) #[] #[.pointer (some ⟨b1,0,none⟩),.pointer (some ⟨b2,0,none⟩)]∧mb<b1∧mb<b2 ∧
 W.heap[b1]? = some (.cells #[.pointer (some ⟨mb,0,none⟩)] 62 (0,0))∧W.heap[b2]? = some (.cells #[.int .i64 p] 3 (0,0))
theorem JumpFn.kp {mb kb:Nat}{ub:Option Nat}{W W':World}{f:Value}{p:Nat}(h:JumpFn mb W f p)(k:KpG mb kb ub W W')(hu:∀ u,ub=some u→∃ cur,W.heap[u]? = some (.cells cur 141 (0,0))):JumpFn mb W' f p:=by
 obtain⟨b1,b2,rfl,h1,h2,h3,h4⟩:=h;refine⟨b1,b2,rfl,h1,h2,k.box (by omega) (fun u e=>⟨?_,by decide⟩) (by decide) (by decide) (by decide) h3,k.box (by omega) (fun u e=>⟨?_,by decide⟩) (by decide) (by decide) (by decide) h4⟩
 ·rintro rfl;obtain⟨cur,e2⟩:=hu _ e;rw[h3] at e2;simp at e2
 ·rintro rfl;obtain⟨cur,e2⟩:=hu _ e;rw[h4] at e2;simp at e2
theorem JumpFn.below {mb:Nat}{W W':World}{f:Value}{p:Nat}(h:JumpFn mb W f p)(b:Below W.heap.size W W'):JumpFn mb W' f p:=by
 obtain⟨b1,b2,rfl,h1,h2,h3,h4⟩:=h;exact⟨b1,b2,rfl,h1,h2,ag b h3,ag b h4⟩
set_option maxHeartbeats 2000000 in
theorem gh (mb kb:Nat)(sh:Bool)(m:Mk)(vw vi vj:Value)(x:Gen.Ix)(w:World)(h:MkAt mb sh m vw vi vj kb w)(hl:m.ins.length≤900000):
  Calls Tryz.prog 106 #[.pointer (some ⟨mb,0,none⟩),.agg #[.int .i64 x.op,.int .i64 x.a,.int .i64 x.b,.int .i64 x.c,.int .i64 x.n,.string x.s,.int .i64 x.to]] w
   (fun e w'=>∃ f,e=.returned f∧JumpFn mb w' f m.ins.length∧Lays mb kb none sh (m.lay x) w w'):=by
 have B0:=(Below.refl w.heap.size w).alloc (Nat.le_refl _) (.cells #[.pointer (some ⟨mb,0,none⟩)] 62);have y0:=heap_alloc_new w (.cells #[.pointer (some ⟨mb,0,none⟩)] 62);have B1:=B0.alloc (by simp) (.cells #[.int .i64 x.op,.int .i64 x.a,.int .i64 x.b,.int .i64 x.c,.int .i64 x.n,.string x.s,.int .i64 x.to] 73);have y1:=heap_alloc_new (w.alloc (.cells #[.pointer (some ⟨mb,0,none⟩)] 62)) (.cells #[.int .i64 x.op,.int .i64 x.a,.int .i64 x.b,.int .i64 x.c,.int .i64 x.n,.string x.s,.int .i64 x.to] 73);replace y0:=ag ((Below.refl (w.alloc (.cells #[.pointer (some ⟨mb,0,none⟩)] 62)).heap.size _).alloc (Nat.le_refl _) (.cells #[.int .i64 x.op,.int .i64 x.a,.int .i64 x.b,.int .i64 x.c,.int .i64 x.n,.string x.s,.int .i64 x.to] 73)) y0;simp only[World.size_alloc] at y1;have HB:=aa (And.intro y0 (And.intro y1 B1));have HS:=aa (h.below B1);have A0:=h.lt;have HL:=aa hl;clear B0 B1 y0 y1 h hl;go_enter Tryz.func106,Tryz.ntmps106;go_upto_region 1 with(fail)
 generalize World.alloc _ _=w2 at *;have z0:=ab HB.out.1 0 _ rfl;have z1:=ab HB.out.2.1 0 _ rfl;have z2:=ab HB.out.2.1 1 _ rfl;have z3:=ab HB.out.2.1 2 _ rfl;have z4:=ab HB.out.2.1 3 _ rfl;have z5:=ab HB.out.2.1 4 _ rfl;have z6:=ab HB.out.2.1 5 _ rfl;have z7:=ab HB.out.2.1 6 _ rfl;have A5:=aa (ir mb kb sh m vw vi vj x w2 HS.out HL.out);go_wp2_with fail
 refine A5.out.mono ?_;rintro e w3 ⟨rfl,H3⟩;have A3:w.heap.size≠mb:=by omega
 have A8:=aa (H3.box A3 (by decide) (by decide) (by decide) HB.out.1);have A1:=(Below.refl w3.heap.size w3).alloc (Nat.le_refl _) (.cells #[.int .i64 m.ins.length] 3);have A2:=heap_alloc_new w3 (.cells #[.int .i64 m.ins.length] 3);have A4:=aa A2;have A7:=aa (ag A1 A8.out);have HK:=aa (KpG.of (mb:=mb) (kb:=kb) (ub:=none) HB.out.2.2 (Nat.le_of_lt A0));have H4:=aa ((HK.out.then (.inl rfl) H3).below A1);have A6:=aa (show mb<w3.heap.size from Nat.lt_of_lt_of_le A0 (Nat.le_trans HB.out.2.2.size H3.kp.bel.size));clear H3 A1 A2 z0 z1 z2 z3 z4 z5 z6 z7;go_wp2_with fail
 go_ret;exact⟨_,rfl,⟨_,_,rfl,A0,A6.out,A7.out,A4.out⟩,H4.out⟩
theorem znb (p:Nat)(l:List Gen.Ix):(toHere p l).length=l.length:=by simp[toHere]
theorem zkm (p:Nat)(l:List Gen.Ix)(h:p<l.length):(toHere p l).flatMap ix7=(l.flatMap ix7).set (p * 7+6) (.int .i64 l.length):=
 zdt ix7 _ 7 6 _ (fun _=>rfl) (by decide) (fun _=>rfl) l p h
theorem MkAt.toHere {mb:Nat}{sh:Bool}{m:Mk}{vw vi vj:Value}{kb:Nat}{W:World}(h:MkAt mb sh m vw vi vj kb W){p g:Nat}(hp:p<m.ins.length)(hg:vi.ownBlock=some g):
  MkAt mb sh (m.here p) vw vi vj kb (W.setCell ⟨g,p * 7+6,none⟩ (.int .i64 m.ins.length))∧KpG mb kb none W (W.setCell ⟨g,p * 7+6,none⟩ (.int .i64 m.ins.length)):=by
 have A0:oo (mb+1) (W.setCell ⟨g,p * 7+6,none⟩ (.int .i64 m.ins.length)) vi (Gf.toHere p m.ins):=by
  unfold oo;rw[znb,zkm p _ hp];refine zmd h.ri hg _ ?_ _;rw[zhi ix7 7 (fun _=>rfl)];omega
 have A1:W.grownBy (W.setCell ⟨g,p * 7+6,none⟩ (.int .i64 m.ins.length)) vi.ownBlock:=by rw[hg]; exact grown_set _ _ _ _
 obtain⟨q1,q2,q3,⟨n,q4,q5⟩,q6⟩:=h.ins A0 A1;exact⟨⟨q1,q2,A0,q3,⟨n,q4,q5⟩,h.kb⟩,q6⟩
set_option maxHeartbeats 2000000 in
theorem ju (mb kb:Nat)(sh:Bool)(m:Mk)(vw vi vj:Value)(p b1 b2:Nat)(w:World)(h:MkAt mb sh m vw vi vj kb w)(hl:m.ins.length≤900000)(hp:p<m.ins.length)
  (h1:w.heap[b1]? = some (.cells #[.pointer (some ⟨mb,0,none⟩)] 62 (0,0))) (h2:w.heap[b2]? = some (.cells #[.int .i64 p] 3 (0,0))):
  Calls Tryz.prog 150 #[.pointer (some ⟨b1,0,none⟩),.pointer (some ⟨b2,0,none⟩)] w (fun e w'=>(∃ r,e=.returned r)∧Lays mb kb none sh (m.here p) w w'):=by
 obtain⟨g,c,rfl,hg, -, -,hc⟩:=zbe h.ri (by omega:0<m.ins.length);obtain⟨x,hx⟩:∃ x,m.ins[p]? = some x:=⟨_,List.getElem?_eq_getElem hp⟩
 have c6:w.cell? ⟨g,p * 7+6,none⟩=some (.int .i64 x.to):=hc _ _ ((cells_at ix7 7 (fun _=>rfl) m.ins p x 6 hx (by decide)).trans rfl);have f6:w.frozen? ⟨g,p * 7+6,none⟩=false:=zeo h.ri hg _;have m2:=ab h.box 2 _ rfl;have y1:=ab h1 0 _ rfl;have y2:=ab h2 0 _ rfl;have j1:(0:Int)≤(p:Int):=by omega
 have j2:(p:Int)<(m.ins.length:Int):=by omega
 have HF:=aa (MkAt.toHere (W:=w.drew) (show MkAt mb sh m vw (.slice (some ⟨g,0,none⟩) m.ins.length c) vj kb w.drew from h.below (Below.refl _ w).drew) hp hg);have HK:=aa (KpG.of (mb:=mb) (kb:=kb) (ub:=none) (Below.refl _ w).drew (Nat.le_of_lt h.lt));clear h hl hp h1 h2 hc hx hg;go_enter Tryz.func150,Tryz.ntmps150;go_still_tail 14,(by kernel_rfl)
 change wpList _ _ _ _ _ w.drew
 replace c6:w.drew.cell? ⟨g,p * 7+6,none⟩=some (.int .i64 x.to):=c6;replace f6:w.drew.frozen? ⟨g,p * 7+6,none⟩=false:=f6;go_wp2_with fail
 refine bodyPost_end (results_none rfl _ _ _) rfl ?_;exact⟨⟨_,rfl⟩,⟨_,_,_,_,HF.out.1,.inl rfl⟩,HK.out.trans HF.out.2 (.inl rfl)⟩
theorem MkAt.parts {mb:Nat}{sh:Bool}{m m':Mk}{vw vi vj:Value}{kb:Nat}{W:World}(h:MkAt mb sh m vw vi vj kb W)(o:Nat)(v:Value)
  (A0:#[Value.int .i64 m.regs,vw,vi,.bool sh,vj,.int .i64 m.next,.map (some kb),.bool m.over].setIfInBounds o v=#[.int .i64 m'.regs,vw,vi,.bool sh,vj,.int .i64 m'.next,.map (some kb),.bool m'.over])
  (h1:m'.ws=m.ws) (h2:m'.ins=m.ins) (h3:m'.jobs=m.jobs) (h4:m'.known=m.known) (h5:m'.puts=m.puts):MkAt mb sh m' vw vi vj kb (W.setCell ⟨mb,o,none⟩ v)∧KpG mb kb none W (W.setCell ⟨mb,o,none⟩ v):=
 ⟨MkAt.reset o v h.box A0 (by rw[h1]; exact h.rw) (by rw[h2]; exact h.ri) (by rw[h3]; exact h.rj) (by rw[h5,h4]; exact h.kn) h.kb,zbr o v h.box (by rw[A0]; rintro _ (rfl|rfl)<;>rfl)⟩
theorem MkAt.drew {mb:Nat}{sh:Bool}{m:Mk}{vw vi vj:Value}{kb:Nat}{W:World}(h:MkAt mb sh m vw vi vj kb W):MkAt mb sh m vw vi vj kb W.drew:=h.below (Below.refl _ W).drew
theorem MkAt.kd {mb:Nat}{ub:Option Nat}{sh:Bool}{m:Mk}{vw vi vj:Value}{kb:Nat}{W:World}(h:MkAt mb sh m vw vi vj kb W):KpG mb kb ub W W.drew:=KpG.of (Below.refl _ W).drew (Nat.le_of_lt h.lt)
set_option maxHeartbeats 2000000 in
theorem um (mb kb:Nat)(sh:Bool)(m:Mk)(vw vi vj:Value)(w:World)(h:MkAt mb sh m vw vi vj kb w)(hn:0≤m.next∧m.next≤900000):
  Calls Tryz.prog 103 #[.pointer (some ⟨mb,0,none⟩)] w (fun e w'=>e=.returned (.int .i64 m.next)∧Lays mb kb none sh m.reg w w'):=by
 have A2:IntKind.i64.wrap (m.next+1)=m.next+1:=IntWalk.i64_in _ (by omega);have c5:=ab h.box 5 _ rfl;have f5:=frozen_of (o:=5) h.box;have H1:=aa (h.parts (m':={ m with next:=m.next+1 }) 5 (.int .i64 (m.next+1)) rfl rfl rfl rfl rfl rfl);clear h hn;go_enter Tryz.func103,Tryz.ntmps103;go_upto_region 3 with(fail)
 clear c5 f5;generalize World.setCell _ _ _=w1 at *;have c5:=ab H1.out.1.box 5 _ rfl;have c0:=ab H1.out.1.box 0 _ rfl;have f0:=frozen_of (o:=0) H1.out.1.box;have A1:=H1.out.1.parts (m':={ m with next:=m.next+1,regs:=max m.regs (m.next+1) }) 0 (.int .i64 (max m.regs (m.next+1))) rfl rfl rfl rfl rfl rfl;have H2:=aa (And.intro A1.1.drew ((H1.out.2.trans A1.2 (.inl rfl)).trans A1.1.kd (.inl rfl)));clear A1;go_still_tail 14,(by kernel_rfl)
 change wpList _ _ _ _ _ w1.drew
 replace c0:w1.drew.cell? ⟨mb,0,none⟩=some (.int .i64 m.regs):=c0;replace f0:w1.drew.frozen? ⟨mb,0,none⟩=false:=f0;replace c5:w1.cell? ⟨mb,5,none⟩=some (.int .i64 (m.next+1)):=c5;go_upto_region 4 with(fail)
 clear c0 c5 f0;generalize World.drew (World.setCell _ _ _)=w2 at *;have c5:w2.cell? ⟨mb,5,none⟩=some (.int .i64 (m.next+1)):=ab H2.out.1.box 5 _ rfl;by_cases A0:256<m.next+1
 ·have g1:decide (256<m.next+1)=true:=decide_eq_true A0;have HG:=aa A0;clear A0;have c7:=ab H2.out.1.box 7 _ rfl;have f7:=frozen_of (o:=7) H2.out.1.box;have H3:=aa (H2.out.1.parts (m':={ m with next:=m.next+1,regs:=max m.regs (m.next+1),over:=true }) 7 (.bool true) rfl rfl rfl rfl rfl rfl);go_wp2_with fail
  go_ret;have e:m.reg = { m with next:=m.next+1,regs:=max m.regs (m.next+1),over:=true }:=by unfold Mk.reg; rw[decide_eq_true HG.out,Bool.or_true]
  refine⟨rfl,?_,?_⟩
  ·rw[e]; exact⟨_,_,_,_,H3.out.1,.inl rfl⟩
  ·exact H2.out.2.trans H3.out.2 (.inl rfl)
 ·have g1:decide (256<m.next+1)=false:=decide_eq_false A0;have HG:=aa A0;clear A0;go_wp2_with fail
  go_ret;have e:m.reg = { m with next:=m.next+1,regs:=max m.regs (m.next+1) }:=by unfold Mk.reg; rw[decide_eq_false (by have:=HG.out; omega),Bool.or_false]
  refine⟨rfl,?_,H2.out.2⟩;rw[e]; exact⟨_,_,_,_,H2.out.1,.inl rfl⟩
end Gf
end
section
open Go.RowKit
open Rw
set_option maxRecDepth 100000
namespace Gf
section
variable {mb:Nat}{sh:Bool}{m:Mk}{vw vi vj:Value}{kb:Nat}{W:World}
theorem MkAt.setF (h:MkAt mb sh m vw vi vj kb W){j g f:Nat}{u:Value}{fn:Gen.Wt→Gen.Wt}(hj:j<m.ws.length)(hg:vw.ownBlock=some g)(hf:f<5)(A3:∀ x,wt5 (fn x)=(wt5 x).set f u):
  MkAt mb sh (m.setW j fn) vw vi vj kb (W.setCell ⟨g,j * 5+f,none⟩ u)∧KpG mb kb none W (W.setCell ⟨g,j * 5+f,none⟩ u):=by
 have A1:(m.ws.modify j fn).length=m.ws.length:=by simp
 have A0:pd (mb+1) (W.setCell ⟨g,j * 5+f,none⟩ u) vw (m.ws.modify j fn):=by
  unfold pd;rw[A1,zdt wt5 fn 5 f u (fun _=>rfl) hf A3 m.ws j hj];refine zmd h.rw hg _ ?_ _;rw[zhi wt5 5 (fun _=>rfl)];omega
 have A2:W.grownBy (W.setCell ⟨g,j * 5+f,none⟩ u) vw.ownBlock:=by rw[hg]; exact grown_set _ _ _ _
 obtain⟨q1,q2,q3,q4,q5⟩:=h.wts A0 A2;exact⟨⟨q1,A0,q2,q3,q4,h.kb⟩,q5⟩
theorem MkAt.wcell (h:MkAt mb sh m vw vi vj kb W){j:Nat}{x:Gen.Wt}(hx:m.ws[j]? = some x):∃ g c,vw=.slice (some ⟨g,0,none⟩) m.ws.length c∧vw.ownBlock=some g∧mb<g∧(∀(f:Nat) v,(wt5 x)[f]? = some v→W.cell? ⟨g,j * 5+f,none⟩=some v)∧∀ o,W.frozen? ⟨g,o,none⟩=false:=by
 have hj:=(List.getElem?_eq_some_iff.1 hx).1;obtain⟨g,c,e,hg,hb, -,hc⟩:=zbe h.rw (by omega:0<m.ws.length);refine⟨g,c,e,hg,hb,fun f v hf=>hc _ _ ?_,fun o=>zeo h.rw hg o⟩;have A0:f<5:=by
  have:=(List.getElem?_eq_some_iff.1 hf).1;simpa [wt5] using this
 exact(cells_at wt5 5 (fun _=>rfl) m.ws j x f hx A0).trans hf
theorem zlz {m:Mk}{j:Nat}{x:Gen.Wt}(f:Gen.Wt→Gen.Wt)(h:m.ws[j]? = some x):(m.setW j f).ws[j]? = some (f x):=by
 show(m.ws.modify j f)[j]? = _
 rw[List.getElem?_modify,h];simp
theorem MkAt.setAll (h:MkAt mb sh m vw vi vj kb W){j g:Nat}{x y:Gen.Wt}(hx:m.ws[j]? = some x)(hg:vw.ownBlock=some g):
  MkAt mb sh (m.setW j fun _=>y) vw vi vj kb (((((W.setCell ⟨g,j * 5,none⟩ (.int .i64 y.entry)).setCell ⟨g,j * 5+1,none⟩ (.int .i64 y.day)).setCell ⟨g,j * 5+2,none⟩ (.string y.label)).setCell ⟨g,j * 5+3,none⟩ (.int .i64 y.first)).setCell ⟨g,j * 5+4,none⟩ (.int .i64 y.second)) ∧
   KpG mb kb none W (((((W.setCell ⟨g,j * 5,none⟩ (.int .i64 y.entry)).setCell ⟨g,j * 5+1,none⟩ (.int .i64 y.day)).setCell ⟨g,j * 5+2,none⟩ (.string y.label)).setCell ⟨g,j * 5+3,none⟩ (.int .i64 y.first)).setCell ⟨g,j * 5+4,none⟩ (.int .i64 y.second)):=by
 have hj:=(List.getElem?_eq_some_iff.1 hx).1;have hl:∀(m:Mk) (f:Gen.Wt→Gen.Wt),(m.setW j f).ws.length=m.ws.length:=fun m f=>by simp[Mk.setW]
 obtain⟨h1,k1⟩:=h.setF (f:=0) (u:=.int .i64 y.entry) (fn:=fun w=>{ w with entry:=y.entry }) hj hg (by decide) (fun _=>rfl);obtain⟨h2,k2⟩:=h1.setF (f:=1) (u:=.int .i64 y.day) (fn:=fun w=>{ w with day:=y.day }) (by rw[hl]; exact hj) hg (by decide) (fun _=>rfl);obtain⟨h3,k3⟩:=h2.setF (f:=2) (u:=.string y.label) (fn:=fun w=>{ w with label:=y.label }) (by rw[hl,hl]; exact hj) hg (by decide) (fun _=>rfl);obtain⟨h4,k4⟩:=h3.setF (f:=3) (u:=.int .i64 y.first) (fn:=fun w=>{ w with first:=y.first }) (by rw[hl,hl,hl]; exact hj) hg (by decide) (fun _=>rfl);obtain⟨h5,k5⟩:=h4.setF (f:=4) (u:=.int .i64 y.second) (fn:=fun w=>{ w with second:=y.second }) (by rw[hl,hl,hl,hl]; exact hj) hg (by decide) (fun _=>rfl);have e:((((m.setW j fun w=>{ w with entry:=y.entry }).setW j fun w=>{ w with day:=y.day }).setW j fun w=>{ w with label:=y.label }).setW j fun w=>{ w with first:=y.first }).setW j (fun w=>{ w with second:=y.second })=m.setW j fun _=>y:=by
  unfold Mk.setW;simp only[List.modify_modify_eq];rfl
 rw[e] at h5;exact⟨h5,(((k1.trans k2 (.inl rfl)).trans k3 (.inl rfl)).trans k4 (.inl rfl)).trans k5 (.inl rfl)⟩
end
theorem MkAt.otherW {mb:Nat}{sh:Bool}{m:Mk}{vw vi vj:Value}{kb:Nat}{W W':World}(h:MkAt mb sh m vw vi vj kb W){k:Nat}(g:W.grownBy W' (some k)){cur:Array Value}(e:W.heap[k]? = some (.cells cur 76 (0,0)))(h1:mb<k)(A1:vw.ownBlock≠some k):MkAt mb sh m vw vi vj kb W':=by
 have hb:Below mb W W':=⟨g.os,g.tape,g.output,g.size,fun j hj=>g.block j (Nat.lt_trans hj h.lt) (fun e=>by cases e; omega)⟩
 obtain⟨n,A2,A0⟩:=h.kn;refine⟨box_grown g (by omega) h.box,World.ownsRow.kept h.rw g (.inr A1),World.ownsRow.kept h.ri g (ya h.ri e (by decide)),?_,⟨n,A2,A0.kept g ?_⟩,h.kb⟩
 ·obtain⟨J,e1,e2,e3⟩:=h.rj;exact JbRow.kept ⟨J,e1,e2,e3⟩ g (zci e2 e (by decide)) hb
 ·intro e2;cases e2;obtain⟨D,⟨es,clock,e3,_⟩,_⟩:=A0;rw[e] at e3;cases e3
theorem KpG.mine {mb kb:Nat}{ub:Option Nat}{A B C:World}(h:KpG mb kb ub A B){k:Nat}(g:B.grownBy C (some k))(hk:A.heap.size≤k)(hm:mb<A.heap.size):KpG mb kb ub A C:=by
 have hx:∀ j,j<A.heap.size→C.heap[j]? = B.heap[j]?:=fun j hj=>g.block j (Nat.lt_of_lt_of_le hj h.bel.size) (fun e=>by cases e; omega);refine⟨h.bel.trans ⟨g.os,g.tape,g.output,g.size,fun j hj=>hx j (Nat.lt_trans hj hm)⟩,fun j cur t h1 h2 h3 h4 h5 e=>(hx j (af e)).trans (h.cel j cur t h1 h2 h3 h4 h5 e),fun j es c h1 e=>(hx j (af e)).trans (h.map j es c h1 e),fun i t hi j cur cs h1 h2 e=>?_⟩;obtain⟨e1,cs',e2,e3⟩:=h.own i t hi j cur cs h1 h2 e;exact⟨(hx j (af e)).trans e1,cs',(hx mb hm).trans e2,e3⟩
theorem Own1.set {mb i B:Nat}{cur:Array Value}{t:TypeId}{W:World}(h:Own1 mb i B cur t W)(hb:mb<B)(o:Nat)(v:Value):Own1 mb i B (cur.setIfInBounds o v) t (W.setCell ⟨B,o,none⟩ v):=by
 obtain⟨h1,h2,cs,h3,h4⟩:=h;exact⟨h1,heap_setCell_same W B o _ _ v h2,cs,(Below.heap_setCell W ⟨B,o,none⟩ v mb (by show mb≠B; omega)).trans h3,h4⟩
theorem Own1.far {mb i B k:Nat}{cur:Array Value}{t:TypeId}{W W':World}(h:Own1 mb i B cur t W)(g:W.grownBy W' (some k))(hb:B≠k)(hm:mb≠k):Own1 mb i B cur t W':=by
 obtain⟨h1,h2,cs,h3,h4⟩:=h;exact⟨h1,box_grown g hb h2,cs,box_grown g hm h3,h4⟩
theorem Own1.below {mb i B:Nat}{cur:Array Value}{t:TypeId}{W W':World}(h:Own1 mb i B cur t W)(b:Below W.heap.size W W'):Own1 mb i B cur t W':=by
 obtain⟨h1,h2,cs,h3,h4⟩:=h;exact⟨h1,ag b h2,cs,ag b h3,h4⟩
theorem Own1.ne {mb B:Nat}{sh:Bool}{m:Mk}{vw vi vj:Value}{kb:Nat}{cur:Array Value}{t:TypeId}{W:World}(h:MkAt mb sh m vw vi vj kb W)(o:Own1 mb 1 B cur t W):vw.ownBlock≠some B:=by
 obtain⟨-, -,cs,h3,h4⟩:=o;rw[h.box] at h3;simp only[Option.some.injEq,Obj.cells.injEq,and_true] at h3;subst h3;exact h4 vw rfl
end Gf
end
section
open Go.RowKit
set_option maxRecDepth 100000
structure IdleAt (w:World)(C A B:Array Value)(ba bb:Nat)(W:World):Prop where
 below:Below w.heap.size w W
 c:W.heap[w.heap.size]? = some (.cells C 24 (0,0))
 r:W.heap[w.heap.size+1]? = some (.cells #[.int .i64 0,.int .i64 0,.string ⟨#[]⟩,.slice none 0 0] 24 (0,0))
 a:W.heap[ba]? = some (.cells A 24 (0,0))
 b:W.heap[bb]? = some (.cells B 24 (0,0))
theorem IdleAt.more {w W W':World}{C A B:Array Value}{ba bb:Nat}(h:IdleAt w C A B ba bb W)(hb:Below W.heap.size W W'):IdleAt w C A B ba bb W':=
 ⟨h.below.trans (hb.mono h.below.size),(hb.block _ (af h.c)).trans h.c,(hb.block _ (af h.r)).trans h.r,(hb.block _ (af h.a)).trans h.a,(hb.block _ (af h.b)).trans h.b⟩
theorem zmm {w w1:World}{C:Array Value}(hB:Below w.heap.size w w1)(hc:w1.heap[w.heap.size]? = some (.cells C 24 (0,0)))
  (hr:w1.heap[w.heap.size+1]? = some (.cells #[.int .i64 0,.int .i64 0,.string ⟨#[]⟩,.slice none 0 0] 24 (0,0))) (A B:Array Value):
  IdleAt w C A B w1.heap.size (w1.heap.size+1) ((w1.alloc (.cells A 24)).alloc (.cells B 24)).drew ∧
  IdleAt w C A B (w1.heap.size+1) w1.heap.size ((w1.alloc (.cells B 24)).alloc (.cells A 24)).drew:=by
 have two:∀ X Y:Array Value,(((w1.alloc (.cells X 24)).alloc (.cells Y 24)).drew.heap[w1.heap.size]? = some (.cells X 24 (0,0))∧((w1.alloc (.cells X 24)).alloc (.cells Y 24)).drew.heap[w1.heap.size+1]? = some (.cells Y 24 (0,0)))∧Below w1.heap.size w1 ((w1.alloc (.cells X 24)).alloc (.cells Y 24)).drew:=by
  intro X Y;refine⟨⟨?_,?_⟩,(((Below.refl _ _).alloc (Nat.le_refl _) _).alloc (by simp) _).drew⟩
  ·exact(((Below.refl _ (w1.alloc (.cells X 24))).alloc (Nat.le_refl _) (.cells Y 24)).block w1.heap.size (by simp)).trans (heap_alloc_new w1 _)
  ·have:=heap_alloc_new (w1.alloc (.cells X 24)) (.cells Y 24);simp only[World.size_alloc] at this;exact this
 obtain⟨⟨a1,a2⟩,a3⟩:=two A B;obtain⟨⟨c1,c2⟩,c3⟩:=two B A;exact⟨⟨hB.trans (a3.mono hB.size),(a3.block _ (af hc)).trans hc,(a3.block _ (af hr)).trans hr,a1,a2⟩,⟨hB.trans (c3.mono hB.size),(c3.block _ (af hc)).trans hc,(c3.block _ (af hr)).trans hr,c2,c1⟩⟩
set_option maxHeartbeats 4000000 in
theorem zku (ok:Nat→Prop)(t:Co.T)(v:Value)(w:World)(hv:CoreIn ok w t v)(hx:t.letter≠0)(h0:0<t.ks.length):
  Calls Tryz.prog 91 #[v] w (lg ok (Co.idle t) w):=by
 obtain⟨op,n,s,p,ln,c,rfl,D2,hn,hs,D4⟩:=dw hv;have HV:=aa hv;obtain⟨bl,off,rfl,B0⟩:=nc hv h0;have D9:=heap_alloc_new w (.cells #[.int .i64 op,.int .i64 n,.string s,.slice (some ⟨bl,off,none⟩) ln c] 24);have C1:=heap_alloc_new (w.alloc (.cells #[.int .i64 op,.int .i64 n,.string s,.slice (some ⟨bl,off,none⟩) ln c] 24)) (.cells #[.int .i64 0,.int .i64 0,.string ⟨#[]⟩,.slice none 0 0] 24);simp only[World.size_alloc] at C1;have C2:Below w.heap.size w ((w.alloc (.cells #[.int .i64 op,.int .i64 n,.string s,.slice (some ⟨bl,off,none⟩) ln c] 24)).alloc (.cells #[.int .i64 0,.int .i64 0,.string ⟨#[]⟩,.slice none 0 0] 24)):=((Below.refl w.heap.size w).alloc (Nat.le_refl _) _).alloc (by simp) _;have D8:=(((Below.refl _ (w.alloc (.cells #[.int .i64 op,.int .i64 n,.string s,.slice (some ⟨bl,off,none⟩) ln c] 24))).alloc (Nat.le_refl _) (.cells #[.int .i64 0,.int .i64 0,.string ⟨#[]⟩,.slice none 0 0] 24)).block w.heap.size (by simp)).trans D9;have j0:(0:Int)<(ln:Int):=by omega
 have E1:=aa D2;have HN:=aa hn;have C3:=aa D4;have B1:=aa B0;have HX:=aa hx;have H0:=aa h0;clear D9 D2 hn hs D4 B0 hx h0 hv;go_enter Tryz.func91,Tryz.ntmps91;go_upto_region 1 with(fail)
 generalize World.alloc _ _=w1 at *;have B9:=aa C2;have B2:=aa C1;have C4:=aa D8;obtain⟨k,kat⟩:∃ k,t.ks[0]? = some k:=⟨_,List.getElem?_eq_getElem H0.out⟩
 obtain⟨kop,kn,ks,kp,klen,kc,kH⟩:=B1.out 0 k kat;have kK:=aa (kH.below C2);have kV:=aa kH.val;have kLT:=aa kH.lt;clear kH;clear C1 C2;obtain⟨d0,d1,d2,d3⟩:=ae C4.out;have E0:=aa kat;clear D8 kat;by_cases h2:ln=2
 ·subst h2;obtain⟨j,hj⟩:∃ j,t.ks[1]? = some j:=⟨_,List.getElem?_eq_getElem (by rw[C3.out]; decide)⟩
  obtain⟨jop,jn,js,jp,jlen,jc,jH⟩:=B1.out 1 j hj;have jK:=aa (jH.below B9.out);have jV:=aa jH.val;clear jH;have eK:t.kid 0=k:=by unfold Co.T.kid; rw[E0.out]; rfl
  have eJ:t.kid 1=j:=by unfold Co.T.kid; rw[hj]; rfl
  have HD:=aa (show Co.idle t=if Co.idleL op k j=true then some j else if Co.idleR op k j=true then some k else none by
   unfold Co.idle;rw[if_pos C3.out,eK,eJ,E1.out])
  have A9:=aa (And.intro kK.out.op' kK.out.n');have A8:=aa (And.intro jK.out.op' jK.out.n');have D3:=af B2.out;have E8:=aa D3;have E9:=aa kLT.out;clear eK eJ hj D3;go_upto_region 4 with(fail)
  go_cut [4,5] (fun v4 v5 wx=>∃ wn ba bb,wn=wx∧v4=.pointer (some ⟨ba,0,none⟩)∧v5=.pointer (some ⟨bb,0,none⟩)∧Hid (IdleAt w #[.int .i64 op,.int .i64 n,.string s,.slice (some ⟨bl,off,none⟩) 2 c] #[.int .i64 kop,.int .i64 kn,.string ks,.slice kp klen kc] #[.int .i64 jop,.int .i64 jn,.string js,.slice jp jlen jc]  ba bb wn));case first=>
   have C0:=kK.out.x0;have C7:=kK.out.x1;have C6:=kK.out.x2;have C5:=kK.out.x3;simp only[Nat.zero_mul,Nat.add_zero,Nat.one_mul] at C0 C7 C6 C5;have D1:=jK.out.x0;have D0:=jK.out.x1;have C9:=jK.out.x2;have C8:=jK.out.x3;simp only[Nat.zero_mul,Nat.add_zero,Nat.one_mul] at D1 D0 C9 C8;go_wp2_with fail
   have n0:=World.new_ne w1 _ d3;have n1:=World.new_ne w1 _ C0;have E7:∀(o1 o2:Obj) (W:World),W=((w1.alloc o1).alloc o2)→True:=fun _ _ _ _=>trivial;have j0n:0<2:=by decide
   go_region_held3 (fun w'=>w'.cell? ⟨w.heap.size,3,none⟩=some (.slice (some ⟨bl,off,none⟩) 2 c)∧w'.cell? ⟨bl,off,none⟩=some (.int .i64 kop)∧w'.cell? ⟨bl,off+1,none⟩=some (.int .i64 kn)∧w'.cell? ⟨bl,off+2,none⟩=some (.string ks)∧w'.cell? ⟨bl,off+3,none⟩=some (.slice kp klen kc)∧w'.cell? ⟨bl,off+4,none⟩=some (.int .i64 jop)∧w'.cell? ⟨bl,off+4+1,none⟩=some (.int .i64 jn)∧w'.cell? ⟨bl,off+4+2,none⟩=some (.string js)∧w'.cell? ⟨bl,off+4+3,none⟩=some (.slice jp jlen jc))
    (first|exact⟨ez d3,ez C0,ez C7,ez C6,ez C5,ez D1,ez D0,ez C9,ez C8⟩|go_keep|simp[*]) (fail)
   all_goals go_wp2_with fail
   all_goals go_meet
   all_goals first
    |exact⟨_,_,_,rfl,rfl,rfl,aa (zmm B9.out C4.out B2.out _ _).1⟩
    |exact⟨_,_,_,rfl,rfl,rfl,aa (zmm B9.out C4.out B2.out _ _).2⟩
  case rest=>
   obtain⟨wx,ba,bb,rfl,rfl,rfl,HI⟩:=hcut;clear d0 d1 d2 d3;obtain⟨d0,d1,d2,d3⟩:=ae HI.out.c;obtain⟨x0,x1,x2,x3⟩:=ae HI.out.a;obtain⟨z0,z1,z2,z3⟩:=ae HI.out.b;by_cases h7:op=7
   ·subst h7;obtain⟨gl,A6⟩:∃ g,Hid ((kop == 1 && kn == 0)=g):=⟨_,aa rfl⟩
    obtain⟨gr,A5⟩:∃ g,Hid ((jop == 1 && jn == 0)=g):=⟨_,aa rfl⟩
    have HL:=aa (show Co.idleL 7 k j=gl by unfold Co.idleL Co.isNum; rw[A9.out.1,A9.out.2,A6.out]; rfl);have HR:=aa (show Co.idleR 7 k j=gr by unfold Co.idleR Co.isNum; rw[A8.out.1,A8.out.2,A5.out]; rfl);go_wp2_with fail
    refine bj (Below wx.heap.size wx) (by kernel_rfl) (by kernel_rfl) (Below.refl _ _).drew ?_;repeat (first
     |(refine br ?_ ?_
       ·rfl
       simp only[Act.put,List.setIfInBounds_toArray,List.set_cons_zero,List.set_cons_succ])
     |(apply az 137 #[.agg #[.int .i64 jop,.int .i64 jn,.string js,.slice jp jlen jc],.int .i64 0]
       ·rfl
       ·(intro w' A1; obtain⟨d0,d1,d2,d3⟩:=ae ((A1.block _ (af HI.out.c)).trans HI.out.c); obtain⟨x0,x1,x2,x3⟩:=ae ((A1.block _ (af HI.out.a)).trans HI.out.a); obtain⟨z0,z1,z2,z3⟩:=ae ((A1.block _ (af HI.out.b)).trans HI.out.b); go_simp; done)
       ·(intro w' A1; refine(jq _ _ 0 _ _ _ _ w').mono ?_; rintro e w'' ⟨rfl,b⟩; exact⟨by rw[A5.out],A1.trans (b.mono A1.size)⟩)
       simp only[Act.put,List.setIfInBounds_toArray,List.set_cons_zero,List.set_cons_succ])
     |(apply az 137 #[.agg #[.int .i64 kop,.int .i64 kn,.string ks,.slice kp klen kc],.int .i64 0]
       ·rfl
       ·(intro w' A1; obtain⟨d0,d1,d2,d3⟩:=ae ((A1.block _ (af HI.out.c)).trans HI.out.c); obtain⟨x0,x1,x2,x3⟩:=ae ((A1.block _ (af HI.out.a)).trans HI.out.a); obtain⟨z0,z1,z2,z3⟩:=ae ((A1.block _ (af HI.out.b)).trans HI.out.b); go_simp; done)
       ·(intro w' A1; refine(jq _ _ 0 _ _ _ _ w').mono ?_; rintro e w'' ⟨rfl,b⟩; exact⟨by rw[A6.out],A1.trans (b.mono A1.size)⟩)
       simp only[Act.put,List.setIfInBounds_toArray,List.set_cons_zero,List.set_cons_succ])
     |(apply cg
       ·rfl
       ·(intro w' A1; obtain⟨d0,d1,d2,d3⟩:=ae ((A1.block _ (af HI.out.c)).trans HI.out.c); obtain⟨x0,x1,x2,x3⟩:=ae ((A1.block _ (af HI.out.a)).trans HI.out.a); obtain⟨z0,z1,z2,z3⟩:=ae ((A1.block _ (af HI.out.b)).trans HI.out.b); first|(go_simp; done)|(go_simp; with_reducible rfl))
       simp only[Act.put,List.setIfInBounds_toArray,List.set_cons_zero,List.set_cons_succ]))
    refine ch ?_;intro w3 A7;have A0:=aa (HI.out.more A7);clear A7 d0 d1 d2 d3 x0 x1 x2 x3 z0 z1 z2 z3;obtain⟨d0,d1,d2,d3⟩:=ae A0.out.c;obtain⟨x0,x1,x2,x3⟩:=ae A0.out.a;obtain⟨z0,z1,z2,z3⟩:=ae A0.out.b;cases gl with
    |true=>
     obtain⟨r0,r1,r2,r3⟩:=ae A0.out.r;have HS:=aa (bh A0.out.r (.int .i64 jop) (.int .i64 jn) (.string js) (.slice jp jlen jc));have f0:∀ o,w3.frozen? ⟨w.heap.size+1,o,none⟩=false:=fun o=>Rw.frozen_of A0.out.r;have HF:=aa (show Co.idle t=some j by rw[HD.out,HL.out,HR.out]; rfl);go_wp2_with fail
     obtain⟨A3,A4⟩:=HS.out;generalize World.setCell _ _ _=w9 at *;obtain⟨y0,y1,y2,y3⟩:=ae A3;refine bodyPost_ret (v:=.tuple #[.agg #[.int .i64 jop,.int .i64 jn,.string js,.slice jp jlen jc],.bool true]) (by simp[results,Tryz.results91,go_sem,y0,y1,y2,y3]) rfl ?_;have A2:=A0.out.below.trans (A4 w.heap.size (by omega));exact⟨A2,j,_,by rw[HF.out]; rfl,(jV.out.under A2).old,fun x h=>by rw[HF.out] at h; cases h; rfl⟩
    |false=>
     cases gr with
     |true=>
      obtain⟨r0,r1,r2,r3⟩:=ae A0.out.r;have HS:=aa (bh A0.out.r (.int .i64 kop) (.int .i64 kn) (.string ks) (.slice kp klen kc));have f0:∀ o,w3.frozen? ⟨w.heap.size+1,o,none⟩=false:=fun o=>Rw.frozen_of A0.out.r;have HF:=aa (show Co.idle t=some k by rw[HD.out,HL.out,HR.out]; rfl);go_wp2_with fail
      obtain⟨A3,A4⟩:=HS.out;generalize World.setCell _ _ _=w9 at *;obtain⟨y0,y1,y2,y3⟩:=ae A3;refine bodyPost_ret (v:=.tuple #[.agg #[.int .i64 kop,.int .i64 kn,.string ks,.slice kp klen kc],.bool true]) (by simp[results,Tryz.results91,go_sem,y0,y1,y2,y3]) rfl ?_;have A2:=A0.out.below.trans (A4 w.heap.size (by omega));exact⟨A2,k,_,by rw[HF.out]; rfl,(kV.out.under A2).old,fun x h=>by rw[HF.out] at h; cases h; rfl⟩
     |false=>
      obtain⟨r0,r1,r2,r3⟩:=ae A0.out.r;have HS:=aa (bh A0.out.r (.int .i64 7) (.int .i64 n) (.string s) (.slice (some ⟨bl,off,none⟩) 2 c));have f0:∀ o,w3.frozen? ⟨w.heap.size+1,o,none⟩=false:=fun o=>Rw.frozen_of A0.out.r;have HF:=aa (show Co.idle t=none by rw[HD.out,HL.out,HR.out]; rfl);go_wp2_with fail
      obtain⟨A3,A4⟩:=HS.out;generalize World.setCell _ _ _=w9 at *;obtain⟨y0,y1,y2,y3⟩:=ae A3;refine bodyPost_ret (v:=.tuple #[.agg #[.int .i64 7,.int .i64 n,.string s,.slice (some ⟨bl,off,none⟩) 2 c],.bool false]) (by simp[results,Tryz.results91,go_sem,y0,y1,y2,y3]) rfl ?_;have A2:=A0.out.below.trans (A4 w.heap.size (by omega));exact⟨A2,t,_,by rw[HF.out]; rfl,(HV.out.under A2).old,fun x h=>by rw[HF.out] at h; cases h⟩
   by_cases h9:op=9
   ·subst h9;obtain⟨gl,A6⟩:∃ g,Hid ((kop == 1 && kn == 1000000)=g):=⟨_,aa rfl⟩
    obtain⟨gr,A5⟩:∃ g,Hid ((jop == 1 && jn == 1000000)=g):=⟨_,aa rfl⟩
    have HL:=aa (show Co.idleL 9 k j=gl by unfold Co.idleL Co.isNum; rw[A9.out.1,A9.out.2,A6.out]; rfl);have HR:=aa (show Co.idleR 9 k j=gr by unfold Co.idleR Co.isNum; rw[A8.out.1,A8.out.2,A5.out]; rfl);go_wp2_with fail
    refine bj (Below wx.heap.size wx) (by kernel_rfl) (by kernel_rfl) (Below.refl _ _).drew ?_;repeat (first
     |(refine br ?_ ?_
       ·rfl
       simp only[Act.put,List.setIfInBounds_toArray,List.set_cons_zero,List.set_cons_succ])
     |(apply az 137 #[.agg #[.int .i64 jop,.int .i64 jn,.string js,.slice jp jlen jc],.int .i64 1000000]
       ·rfl
       ·(intro w' A1; obtain⟨d0,d1,d2,d3⟩:=ae ((A1.block _ (af HI.out.c)).trans HI.out.c); obtain⟨x0,x1,x2,x3⟩:=ae ((A1.block _ (af HI.out.a)).trans HI.out.a); obtain⟨z0,z1,z2,z3⟩:=ae ((A1.block _ (af HI.out.b)).trans HI.out.b); go_simp; done)
       ·(intro w' A1; refine(jq _ _ 1000000 _ _ _ _ w').mono ?_; rintro e w'' ⟨rfl,b⟩; exact⟨by rw[A5.out],A1.trans (b.mono A1.size)⟩)
       simp only[Act.put,List.setIfInBounds_toArray,List.set_cons_zero,List.set_cons_succ])
     |(apply az 137 #[.agg #[.int .i64 kop,.int .i64 kn,.string ks,.slice kp klen kc],.int .i64 1000000]
       ·rfl
       ·(intro w' A1; obtain⟨d0,d1,d2,d3⟩:=ae ((A1.block _ (af HI.out.c)).trans HI.out.c); obtain⟨x0,x1,x2,x3⟩:=ae ((A1.block _ (af HI.out.a)).trans HI.out.a); obtain⟨z0,z1,z2,z3⟩:=ae ((A1.block _ (af HI.out.b)).trans HI.out.b); go_simp; done)
       ·(intro w' A1; refine(jq _ _ 1000000 _ _ _ _ w').mono ?_; rintro e w'' ⟨rfl,b⟩; exact⟨by rw[A6.out],A1.trans (b.mono A1.size)⟩)
       simp only[Act.put,List.setIfInBounds_toArray,List.set_cons_zero,List.set_cons_succ])
     |(apply cg
       ·rfl
       ·(intro w' A1; obtain⟨d0,d1,d2,d3⟩:=ae ((A1.block _ (af HI.out.c)).trans HI.out.c); obtain⟨x0,x1,x2,x3⟩:=ae ((A1.block _ (af HI.out.a)).trans HI.out.a); obtain⟨z0,z1,z2,z3⟩:=ae ((A1.block _ (af HI.out.b)).trans HI.out.b); first|(go_simp; done)|(go_simp; with_reducible rfl))
       simp only[Act.put,List.setIfInBounds_toArray,List.set_cons_zero,List.set_cons_succ]))
    refine ch ?_;intro w3 A7;have A0:=aa (HI.out.more A7);clear A7 d0 d1 d2 d3 x0 x1 x2 x3 z0 z1 z2 z3;obtain⟨d0,d1,d2,d3⟩:=ae A0.out.c;obtain⟨x0,x1,x2,x3⟩:=ae A0.out.a;obtain⟨z0,z1,z2,z3⟩:=ae A0.out.b;cases gl with
    |true=>
     obtain⟨r0,r1,r2,r3⟩:=ae A0.out.r;have HS:=aa (bh A0.out.r (.int .i64 jop) (.int .i64 jn) (.string js) (.slice jp jlen jc));have f0:∀ o,w3.frozen? ⟨w.heap.size+1,o,none⟩=false:=fun o=>Rw.frozen_of A0.out.r;have HF:=aa (show Co.idle t=some j by rw[HD.out,HL.out,HR.out]; rfl);go_wp2_with fail
     obtain⟨A3,A4⟩:=HS.out;generalize World.setCell _ _ _=w9 at *;obtain⟨y0,y1,y2,y3⟩:=ae A3;refine bodyPost_ret (v:=.tuple #[.agg #[.int .i64 jop,.int .i64 jn,.string js,.slice jp jlen jc],.bool true]) (by simp[results,Tryz.results91,go_sem,y0,y1,y2,y3]) rfl ?_;have A2:=A0.out.below.trans (A4 w.heap.size (by omega));exact⟨A2,j,_,by rw[HF.out]; rfl,(jV.out.under A2).old,fun x h=>by rw[HF.out] at h; cases h; rfl⟩
    |false=>
     cases gr with
     |true=>
      obtain⟨r0,r1,r2,r3⟩:=ae A0.out.r;have HS:=aa (bh A0.out.r (.int .i64 kop) (.int .i64 kn) (.string ks) (.slice kp klen kc));have f0:∀ o,w3.frozen? ⟨w.heap.size+1,o,none⟩=false:=fun o=>Rw.frozen_of A0.out.r;have HF:=aa (show Co.idle t=some k by rw[HD.out,HL.out,HR.out]; rfl);go_wp2_with fail
      obtain⟨A3,A4⟩:=HS.out;generalize World.setCell _ _ _=w9 at *;obtain⟨y0,y1,y2,y3⟩:=ae A3;refine bodyPost_ret (v:=.tuple #[.agg #[.int .i64 kop,.int .i64 kn,.string ks,.slice kp klen kc],.bool true]) (by simp[results,Tryz.results91,go_sem,y0,y1,y2,y3]) rfl ?_;have A2:=A0.out.below.trans (A4 w.heap.size (by omega));exact⟨A2,k,_,by rw[HF.out]; rfl,(kV.out.under A2).old,fun x h=>by rw[HF.out] at h; cases h; rfl⟩
     |false=>
      obtain⟨r0,r1,r2,r3⟩:=ae A0.out.r;have HS:=aa (bh A0.out.r (.int .i64 9) (.int .i64 n) (.string s) (.slice (some ⟨bl,off,none⟩) 2 c));have f0:∀ o,w3.frozen? ⟨w.heap.size+1,o,none⟩=false:=fun o=>Rw.frozen_of A0.out.r;have HF:=aa (show Co.idle t=none by rw[HD.out,HL.out,HR.out]; rfl);go_wp2_with fail
      obtain⟨A3,A4⟩:=HS.out;generalize World.setCell _ _ _=w9 at *;obtain⟨y0,y1,y2,y3⟩:=ae A3;refine bodyPost_ret (v:=.tuple #[.agg #[.int .i64 9,.int .i64 n,.string s,.slice (some ⟨bl,off,none⟩) 2 c],.bool false]) (by simp[results,Tryz.results91,go_sem,y0,y1,y2,y3]) rfl ?_;have A2:=A0.out.below.trans (A4 w.heap.size (by omega));exact⟨A2,t,_,by rw[HF.out]; rfl,(HV.out.under A2).old,fun x h=>by rw[HF.out] at h; cases h⟩
   by_cases B6:op=15
   ·subst B6;obtain⟨gl,A6⟩:∃ g,Hid ((kop == 2 && kn == 1)=g):=⟨_,aa rfl⟩
    obtain⟨gr,A5⟩:∃ g,Hid ((jop == 2 && jn == 1)=g):=⟨_,aa rfl⟩
    have HL:=aa (show Co.idleL 15 k j=gl by unfold Co.idleL Co.isBool; rw[A9.out.1,A9.out.2,A6.out]; rfl);have HR:=aa (show Co.idleR 15 k j=gr by unfold Co.idleR Co.isBool; rw[A8.out.1,A8.out.2,A5.out]; rfl);go_wp2_with fail
    refine bj (Below wx.heap.size wx) (by kernel_rfl) (by kernel_rfl) (Below.refl _ _).drew ?_;repeat (first
     |(refine br ?_ ?_
       ·rfl
       simp only[Act.put,List.setIfInBounds_toArray,List.set_cons_zero,List.set_cons_succ])
     |(apply az 138 #[.agg #[.int .i64 jop,.int .i64 jn,.string js,.slice jp jlen jc],.int .i64 1]
       ·rfl
       ·(intro w' A1; obtain⟨d0,d1,d2,d3⟩:=ae ((A1.block _ (af HI.out.c)).trans HI.out.c); obtain⟨x0,x1,x2,x3⟩:=ae ((A1.block _ (af HI.out.a)).trans HI.out.a); obtain⟨z0,z1,z2,z3⟩:=ae ((A1.block _ (af HI.out.b)).trans HI.out.b); go_simp; done)
       ·(intro w' A1; refine(fh _ _ 1 _ _ _ _ w').mono ?_; rintro e w'' ⟨rfl,b⟩; exact⟨by rw[A5.out],A1.trans (b.mono A1.size)⟩)
       simp only[Act.put,List.setIfInBounds_toArray,List.set_cons_zero,List.set_cons_succ])
     |(apply az 138 #[.agg #[.int .i64 kop,.int .i64 kn,.string ks,.slice kp klen kc],.int .i64 1]
       ·rfl
       ·(intro w' A1; obtain⟨d0,d1,d2,d3⟩:=ae ((A1.block _ (af HI.out.c)).trans HI.out.c); obtain⟨x0,x1,x2,x3⟩:=ae ((A1.block _ (af HI.out.a)).trans HI.out.a); obtain⟨z0,z1,z2,z3⟩:=ae ((A1.block _ (af HI.out.b)).trans HI.out.b); go_simp; done)
       ·(intro w' A1; refine(fh _ _ 1 _ _ _ _ w').mono ?_; rintro e w'' ⟨rfl,b⟩; exact⟨by rw[A6.out],A1.trans (b.mono A1.size)⟩)
       simp only[Act.put,List.setIfInBounds_toArray,List.set_cons_zero,List.set_cons_succ])
     |(apply cg
       ·rfl
       ·(intro w' A1; obtain⟨d0,d1,d2,d3⟩:=ae ((A1.block _ (af HI.out.c)).trans HI.out.c); obtain⟨x0,x1,x2,x3⟩:=ae ((A1.block _ (af HI.out.a)).trans HI.out.a); obtain⟨z0,z1,z2,z3⟩:=ae ((A1.block _ (af HI.out.b)).trans HI.out.b); first|(go_simp; done)|(go_simp; with_reducible rfl))
       simp only[Act.put,List.setIfInBounds_toArray,List.set_cons_zero,List.set_cons_succ]))
    refine ch ?_;intro w3 A7;have A0:=aa (HI.out.more A7);clear A7 d0 d1 d2 d3 x0 x1 x2 x3 z0 z1 z2 z3;obtain⟨d0,d1,d2,d3⟩:=ae A0.out.c;obtain⟨x0,x1,x2,x3⟩:=ae A0.out.a;obtain⟨z0,z1,z2,z3⟩:=ae A0.out.b;cases gl with
    |true=>
     obtain⟨r0,r1,r2,r3⟩:=ae A0.out.r;have HS:=aa (bh A0.out.r (.int .i64 jop) (.int .i64 jn) (.string js) (.slice jp jlen jc));have f0:∀ o,w3.frozen? ⟨w.heap.size+1,o,none⟩=false:=fun o=>Rw.frozen_of A0.out.r;have HF:=aa (show Co.idle t=some j by rw[HD.out,HL.out,HR.out]; rfl);go_wp2_with fail
     obtain⟨A3,A4⟩:=HS.out;generalize World.setCell _ _ _=w9 at *;obtain⟨y0,y1,y2,y3⟩:=ae A3;refine bodyPost_ret (v:=.tuple #[.agg #[.int .i64 jop,.int .i64 jn,.string js,.slice jp jlen jc],.bool true]) (by simp[results,Tryz.results91,go_sem,y0,y1,y2,y3]) rfl ?_;have A2:=A0.out.below.trans (A4 w.heap.size (by omega));exact⟨A2,j,_,by rw[HF.out]; rfl,(jV.out.under A2).old,fun x h=>by rw[HF.out] at h; cases h; rfl⟩
    |false=>
     cases gr with
     |true=>
      obtain⟨r0,r1,r2,r3⟩:=ae A0.out.r;have HS:=aa (bh A0.out.r (.int .i64 kop) (.int .i64 kn) (.string ks) (.slice kp klen kc));have f0:∀ o,w3.frozen? ⟨w.heap.size+1,o,none⟩=false:=fun o=>Rw.frozen_of A0.out.r;have HF:=aa (show Co.idle t=some k by rw[HD.out,HL.out,HR.out]; rfl);go_wp2_with fail
      obtain⟨A3,A4⟩:=HS.out;generalize World.setCell _ _ _=w9 at *;obtain⟨y0,y1,y2,y3⟩:=ae A3;refine bodyPost_ret (v:=.tuple #[.agg #[.int .i64 kop,.int .i64 kn,.string ks,.slice kp klen kc],.bool true]) (by simp[results,Tryz.results91,go_sem,y0,y1,y2,y3]) rfl ?_;have A2:=A0.out.below.trans (A4 w.heap.size (by omega));exact⟨A2,k,_,by rw[HF.out]; rfl,(kV.out.under A2).old,fun x h=>by rw[HF.out] at h; cases h; rfl⟩
     |false=>
      obtain⟨r0,r1,r2,r3⟩:=ae A0.out.r;have HS:=aa (bh A0.out.r (.int .i64 15) (.int .i64 n) (.string s) (.slice (some ⟨bl,off,none⟩) 2 c));have f0:∀ o,w3.frozen? ⟨w.heap.size+1,o,none⟩=false:=fun o=>Rw.frozen_of A0.out.r;have HF:=aa (show Co.idle t=none by rw[HD.out,HL.out,HR.out]; rfl);go_wp2_with fail
      obtain⟨A3,A4⟩:=HS.out;generalize World.setCell _ _ _=w9 at *;obtain⟨y0,y1,y2,y3⟩:=ae A3;refine bodyPost_ret (v:=.tuple #[.agg #[.int .i64 15,.int .i64 n,.string s,.slice (some ⟨bl,off,none⟩) 2 c],.bool false]) (by simp[results,Tryz.results91,go_sem,y0,y1,y2,y3]) rfl ?_;have A2:=A0.out.below.trans (A4 w.heap.size (by omega));exact⟨A2,t,_,by rw[HF.out]; rfl,(HV.out.under A2).old,fun x h=>by rw[HF.out] at h; cases h⟩
   by_cases B5:op=16
   ·subst B5;obtain⟨gl,A6⟩:∃ g,Hid ((kop == 2 && kn == 0)=g):=⟨_,aa rfl⟩
    obtain⟨gr,A5⟩:∃ g,Hid ((jop == 2 && jn == 0)=g):=⟨_,aa rfl⟩
    have HL:=aa (show Co.idleL 16 k j=gl by unfold Co.idleL Co.isBool; rw[A9.out.1,A9.out.2,A6.out]; rfl);have HR:=aa (show Co.idleR 16 k j=gr by unfold Co.idleR Co.isBool; rw[A8.out.1,A8.out.2,A5.out]; rfl);go_wp2_with fail
    refine bj (Below wx.heap.size wx) (by kernel_rfl) (by kernel_rfl) (Below.refl _ _).drew ?_;repeat (first
     |(refine br ?_ ?_
       ·rfl
       simp only[Act.put,List.setIfInBounds_toArray,List.set_cons_zero,List.set_cons_succ])
     |(apply az 138 #[.agg #[.int .i64 jop,.int .i64 jn,.string js,.slice jp jlen jc],.int .i64 0]
       ·rfl
       ·(intro w' A1; obtain⟨d0,d1,d2,d3⟩:=ae ((A1.block _ (af HI.out.c)).trans HI.out.c); obtain⟨x0,x1,x2,x3⟩:=ae ((A1.block _ (af HI.out.a)).trans HI.out.a); obtain⟨z0,z1,z2,z3⟩:=ae ((A1.block _ (af HI.out.b)).trans HI.out.b); go_simp; done)
       ·(intro w' A1; refine(fh _ _ 0 _ _ _ _ w').mono ?_; rintro e w'' ⟨rfl,b⟩; exact⟨by rw[A5.out],A1.trans (b.mono A1.size)⟩)
       simp only[Act.put,List.setIfInBounds_toArray,List.set_cons_zero,List.set_cons_succ])
     |(apply az 138 #[.agg #[.int .i64 kop,.int .i64 kn,.string ks,.slice kp klen kc],.int .i64 0]
       ·rfl
       ·(intro w' A1; obtain⟨d0,d1,d2,d3⟩:=ae ((A1.block _ (af HI.out.c)).trans HI.out.c); obtain⟨x0,x1,x2,x3⟩:=ae ((A1.block _ (af HI.out.a)).trans HI.out.a); obtain⟨z0,z1,z2,z3⟩:=ae ((A1.block _ (af HI.out.b)).trans HI.out.b); go_simp; done)
       ·(intro w' A1; refine(fh _ _ 0 _ _ _ _ w').mono ?_; rintro e w'' ⟨rfl,b⟩; exact⟨by rw[A6.out],A1.trans (b.mono A1.size)⟩)
       simp only[Act.put,List.setIfInBounds_toArray,List.set_cons_zero,List.set_cons_succ])
     |(apply cg
       ·rfl
       ·(intro w' A1; obtain⟨d0,d1,d2,d3⟩:=ae ((A1.block _ (af HI.out.c)).trans HI.out.c); obtain⟨x0,x1,x2,x3⟩:=ae ((A1.block _ (af HI.out.a)).trans HI.out.a); obtain⟨z0,z1,z2,z3⟩:=ae ((A1.block _ (af HI.out.b)).trans HI.out.b); first|(go_simp; done)|(go_simp; with_reducible rfl))
       simp only[Act.put,List.setIfInBounds_toArray,List.set_cons_zero,List.set_cons_succ]))
    refine ch ?_;intro w3 A7;have A0:=aa (HI.out.more A7);clear A7 d0 d1 d2 d3 x0 x1 x2 x3 z0 z1 z2 z3;obtain⟨d0,d1,d2,d3⟩:=ae A0.out.c;obtain⟨x0,x1,x2,x3⟩:=ae A0.out.a;obtain⟨z0,z1,z2,z3⟩:=ae A0.out.b;cases gl with
    |true=>
     obtain⟨r0,r1,r2,r3⟩:=ae A0.out.r;have HS:=aa (bh A0.out.r (.int .i64 jop) (.int .i64 jn) (.string js) (.slice jp jlen jc));have f0:∀ o,w3.frozen? ⟨w.heap.size+1,o,none⟩=false:=fun o=>Rw.frozen_of A0.out.r;have HF:=aa (show Co.idle t=some j by rw[HD.out,HL.out,HR.out]; rfl);go_wp2_with fail
     obtain⟨A3,A4⟩:=HS.out;generalize World.setCell _ _ _=w9 at *;obtain⟨y0,y1,y2,y3⟩:=ae A3;refine bodyPost_ret (v:=.tuple #[.agg #[.int .i64 jop,.int .i64 jn,.string js,.slice jp jlen jc],.bool true]) (by simp[results,Tryz.results91,go_sem,y0,y1,y2,y3]) rfl ?_;have A2:=A0.out.below.trans (A4 w.heap.size (by omega));exact⟨A2,j,_,by rw[HF.out]; rfl,(jV.out.under A2).old,fun x h=>by rw[HF.out] at h; cases h; rfl⟩
    |false=>
     cases gr with
     |true=>
      obtain⟨r0,r1,r2,r3⟩:=ae A0.out.r;have HS:=aa (bh A0.out.r (.int .i64 kop) (.int .i64 kn) (.string ks) (.slice kp klen kc));have f0:∀ o,w3.frozen? ⟨w.heap.size+1,o,none⟩=false:=fun o=>Rw.frozen_of A0.out.r;have HF:=aa (show Co.idle t=some k by rw[HD.out,HL.out,HR.out]; rfl);go_wp2_with fail
      obtain⟨A3,A4⟩:=HS.out;generalize World.setCell _ _ _=w9 at *;obtain⟨y0,y1,y2,y3⟩:=ae A3;refine bodyPost_ret (v:=.tuple #[.agg #[.int .i64 kop,.int .i64 kn,.string ks,.slice kp klen kc],.bool true]) (by simp[results,Tryz.results91,go_sem,y0,y1,y2,y3]) rfl ?_;have A2:=A0.out.below.trans (A4 w.heap.size (by omega));exact⟨A2,k,_,by rw[HF.out]; rfl,(kV.out.under A2).old,fun x h=>by rw[HF.out] at h; cases h; rfl⟩
     |false=>
      obtain⟨r0,r1,r2,r3⟩:=ae A0.out.r;have HS:=aa (bh A0.out.r (.int .i64 16) (.int .i64 n) (.string s) (.slice (some ⟨bl,off,none⟩) 2 c));have f0:∀ o,w3.frozen? ⟨w.heap.size+1,o,none⟩=false:=fun o=>Rw.frozen_of A0.out.r;have HF:=aa (show Co.idle t=none by rw[HD.out,HL.out,HR.out]; rfl);go_wp2_with fail
      obtain⟨A3,A4⟩:=HS.out;generalize World.setCell _ _ _=w9 at *;obtain⟨y0,y1,y2,y3⟩:=ae A3;refine bodyPost_ret (v:=.tuple #[.agg #[.int .i64 16,.int .i64 n,.string s,.slice (some ⟨bl,off,none⟩) 2 c],.bool false]) (by simp[results,Tryz.results91,go_sem,y0,y1,y2,y3]) rfl ?_;have A2:=A0.out.below.trans (A4 w.heap.size (by omega));exact⟨A2,t,_,by rw[HF.out]; rfl,(HV.out.under A2).old,fun x h=>by rw[HF.out] at h; cases h⟩
   by_cases h8:op=8
   ·subst h8;obtain⟨gl,A6⟩:∃ g,Hid (false=g):=⟨_,aa rfl⟩
    obtain⟨gr,A5⟩:∃ g,Hid ((jop == 1 && jn == 0)=g):=⟨_,aa rfl⟩
    have HL:=aa (show Co.idleL 8 k j=gl by rw[←A6.out]; rfl);have HR:=aa (show Co.idleR 8 k j=gr by unfold Co.idleR Co.isNum; rw[A8.out.1,A8.out.2,A5.out]; rfl);go_wp2_with fail
    refine(jq _ _ 0 _ _ _ _ _).mono ?_;rintro e w3 ⟨rfl,b3⟩;rw[A5.out];have A0:=aa (HI.out.more b3);clear b3 d0 d1 d2 d3 x0 x1 x2 x3 z0 z1 z2 z3;obtain⟨d0,d1,d2,d3⟩:=ae A0.out.c;obtain⟨x0,x1,x2,x3⟩:=ae A0.out.a;obtain⟨z0,z1,z2,z3⟩:=ae A0.out.b;obtain rfl:=A6.out;cases gr with
    |true=>
     obtain⟨r0,r1,r2,r3⟩:=ae A0.out.r;have HS:=aa (bh A0.out.r (.int .i64 kop) (.int .i64 kn) (.string ks) (.slice kp klen kc));have f0:∀ o,w3.frozen? ⟨w.heap.size+1,o,none⟩=false:=fun o=>Rw.frozen_of A0.out.r;have HF:=aa (show Co.idle t=some k by rw[HD.out,HL.out,HR.out]; rfl);go_wp2_with fail
     obtain⟨A3,A4⟩:=HS.out;generalize World.setCell _ _ _=w9 at *;obtain⟨y0,y1,y2,y3⟩:=ae A3;refine bodyPost_ret (v:=.tuple #[.agg #[.int .i64 kop,.int .i64 kn,.string ks,.slice kp klen kc],.bool true]) (by simp[results,Tryz.results91,go_sem,y0,y1,y2,y3]) rfl ?_;have A2:=A0.out.below.trans (A4 w.heap.size (by omega));exact⟨A2,k,_,by rw[HF.out]; rfl,(kV.out.under A2).old,fun x h=>by rw[HF.out] at h; cases h; rfl⟩
    |false=>
     obtain⟨r0,r1,r2,r3⟩:=ae A0.out.r;have HS:=aa (bh A0.out.r (.int .i64 8) (.int .i64 n) (.string s) (.slice (some ⟨bl,off,none⟩) 2 c));have f0:∀ o,w3.frozen? ⟨w.heap.size+1,o,none⟩=false:=fun o=>Rw.frozen_of A0.out.r;have HF:=aa (show Co.idle t=none by rw[HD.out,HL.out,HR.out]; rfl);go_wp2_with fail
     obtain⟨A3,A4⟩:=HS.out;generalize World.setCell _ _ _=w9 at *;obtain⟨y0,y1,y2,y3⟩:=ae A3;refine bodyPost_ret (v:=.tuple #[.agg #[.int .i64 8,.int .i64 n,.string s,.slice (some ⟨bl,off,none⟩) 2 c],.bool false]) (by simp[results,Tryz.results91,go_sem,y0,y1,y2,y3]) rfl ?_;have A2:=A0.out.below.trans (A4 w.heap.size (by omega));exact⟨A2,t,_,by rw[HF.out]; rfl,(HV.out.under A2).old,fun x h=>by rw[HF.out] at h; cases h⟩
   by_cases B7:op=10
   ·subst B7;obtain⟨gl,A6⟩:∃ g,Hid (false=g):=⟨_,aa rfl⟩
    obtain⟨gr,A5⟩:∃ g,Hid ((jop == 1 && jn == 1000000)=g):=⟨_,aa rfl⟩
    have HL:=aa (show Co.idleL 10 k j=gl by rw[←A6.out]; rfl);have HR:=aa (show Co.idleR 10 k j=gr by unfold Co.idleR Co.isNum; rw[A8.out.1,A8.out.2,A5.out]; rfl);go_wp2_with fail
    refine(jq _ _ 1000000 _ _ _ _ _).mono ?_;rintro e w3 ⟨rfl,b3⟩;rw[A5.out];have A0:=aa (HI.out.more b3);clear b3 d0 d1 d2 d3 x0 x1 x2 x3 z0 z1 z2 z3;obtain⟨d0,d1,d2,d3⟩:=ae A0.out.c;obtain⟨x0,x1,x2,x3⟩:=ae A0.out.a;obtain⟨z0,z1,z2,z3⟩:=ae A0.out.b;obtain rfl:=A6.out;cases gr with
    |true=>
     obtain⟨r0,r1,r2,r3⟩:=ae A0.out.r;have HS:=aa (bh A0.out.r (.int .i64 kop) (.int .i64 kn) (.string ks) (.slice kp klen kc));have f0:∀ o,w3.frozen? ⟨w.heap.size+1,o,none⟩=false:=fun o=>Rw.frozen_of A0.out.r;have HF:=aa (show Co.idle t=some k by rw[HD.out,HL.out,HR.out]; rfl);go_wp2_with fail
     obtain⟨A3,A4⟩:=HS.out;generalize World.setCell _ _ _=w9 at *;obtain⟨y0,y1,y2,y3⟩:=ae A3;refine bodyPost_ret (v:=.tuple #[.agg #[.int .i64 kop,.int .i64 kn,.string ks,.slice kp klen kc],.bool true]) (by simp[results,Tryz.results91,go_sem,y0,y1,y2,y3]) rfl ?_;have A2:=A0.out.below.trans (A4 w.heap.size (by omega));exact⟨A2,k,_,by rw[HF.out]; rfl,(kV.out.under A2).old,fun x h=>by rw[HF.out] at h; cases h; rfl⟩
    |false=>
     obtain⟨r0,r1,r2,r3⟩:=ae A0.out.r;have HS:=aa (bh A0.out.r (.int .i64 10) (.int .i64 n) (.string s) (.slice (some ⟨bl,off,none⟩) 2 c));have f0:∀ o,w3.frozen? ⟨w.heap.size+1,o,none⟩=false:=fun o=>Rw.frozen_of A0.out.r;have HF:=aa (show Co.idle t=none by rw[HD.out,HL.out,HR.out]; rfl);go_wp2_with fail
     obtain⟨A3,A4⟩:=HS.out;generalize World.setCell _ _ _=w9 at *;obtain⟨y0,y1,y2,y3⟩:=ae A3;refine bodyPost_ret (v:=.tuple #[.agg #[.int .i64 10,.int .i64 n,.string s,.slice (some ⟨bl,off,none⟩) 2 c],.bool false]) (by simp[results,Tryz.results91,go_sem,y0,y1,y2,y3]) rfl ?_;have A2:=A0.out.below.trans (A4 w.heap.size (by omega));exact⟨A2,t,_,by rw[HF.out]; rfl,(HV.out.under A2).old,fun x h=>by rw[HF.out] at h; cases h⟩
   by_cases B3:op=27
   ·subst B3;obtain⟨gl,A6⟩:∃ g,Hid ((kop == 23)=g):=⟨_,aa rfl⟩
    obtain⟨gr,A5⟩:∃ g,Hid ((jop == 23)=g):=⟨_,aa rfl⟩
    have HL:=aa (show Co.idleL 27 k j=gl by unfold Co.idleL; rw[A9.out.1,A6.out]; rfl);have HR:=aa (show Co.idleR 27 k j=gr by unfold Co.idleR; rw[A8.out.1,A5.out]; rfl);have kl:=A6.out;have kr:=A5.out;go_wp2_with fail
    refine bj (Below wx.heap.size wx) (by kernel_rfl) (by kernel_rfl) (Below.refl _ _).drew ?_;repeat (first
     |(refine br ?_ ?_
       ·rfl
       simp only[Act.put,List.setIfInBounds_toArray,List.set_cons_zero,List.set_cons_succ])
     |(apply cg
       ·rfl
       ·(intro w' A1; obtain⟨d0,d1,d2,d3⟩:=ae ((A1.block _ (af HI.out.c)).trans HI.out.c); obtain⟨x0,x1,x2,x3⟩:=ae ((A1.block _ (af HI.out.a)).trans HI.out.a); obtain⟨z0,z1,z2,z3⟩:=ae ((A1.block _ (af HI.out.b)).trans HI.out.b); first|(go_simp; done)|(go_simp; with_reducible rfl))
       simp only[Act.put,List.setIfInBounds_toArray,List.set_cons_zero,List.set_cons_succ]))
    refine ch ?_;intro w3 A7;have A0:=aa (HI.out.more A7);clear A7 d0 d1 d2 d3 x0 x1 x2 x3 z0 z1 z2 z3 kl kr;obtain⟨d0,d1,d2,d3⟩:=ae A0.out.c;obtain⟨x0,x1,x2,x3⟩:=ae A0.out.a;obtain⟨z0,z1,z2,z3⟩:=ae A0.out.b;cases gl with
    |true=>
     obtain⟨r0,r1,r2,r3⟩:=ae A0.out.r;have HS:=aa (bh A0.out.r (.int .i64 jop) (.int .i64 jn) (.string js) (.slice jp jlen jc));have f0:∀ o,w3.frozen? ⟨w.heap.size+1,o,none⟩=false:=fun o=>Rw.frozen_of A0.out.r;have HF:=aa (show Co.idle t=some j by rw[HD.out,HL.out,HR.out]; rfl);go_wp2_with fail
     obtain⟨A3,A4⟩:=HS.out;generalize World.setCell _ _ _=w9 at *;obtain⟨y0,y1,y2,y3⟩:=ae A3;refine bodyPost_ret (v:=.tuple #[.agg #[.int .i64 jop,.int .i64 jn,.string js,.slice jp jlen jc],.bool true]) (by simp[results,Tryz.results91,go_sem,y0,y1,y2,y3]) rfl ?_;have A2:=A0.out.below.trans (A4 w.heap.size (by omega));exact⟨A2,j,_,by rw[HF.out]; rfl,(jV.out.under A2).old,fun x h=>by rw[HF.out] at h; cases h; rfl⟩
    |false=>
     cases gr with
     |true=>
      obtain⟨r0,r1,r2,r3⟩:=ae A0.out.r;have HS:=aa (bh A0.out.r (.int .i64 kop) (.int .i64 kn) (.string ks) (.slice kp klen kc));have f0:∀ o,w3.frozen? ⟨w.heap.size+1,o,none⟩=false:=fun o=>Rw.frozen_of A0.out.r;have HF:=aa (show Co.idle t=some k by rw[HD.out,HL.out,HR.out]; rfl);go_wp2_with fail
      obtain⟨A3,A4⟩:=HS.out;generalize World.setCell _ _ _=w9 at *;obtain⟨y0,y1,y2,y3⟩:=ae A3;refine bodyPost_ret (v:=.tuple #[.agg #[.int .i64 kop,.int .i64 kn,.string ks,.slice kp klen kc],.bool true]) (by simp[results,Tryz.results91,go_sem,y0,y1,y2,y3]) rfl ?_;have A2:=A0.out.below.trans (A4 w.heap.size (by omega));exact⟨A2,k,_,by rw[HF.out]; rfl,(kV.out.under A2).old,fun x h=>by rw[HF.out] at h; cases h; rfl⟩
     |false=>
      obtain⟨r0,r1,r2,r3⟩:=ae A0.out.r;have HS:=aa (bh A0.out.r (.int .i64 27) (.int .i64 n) (.string s) (.slice (some ⟨bl,off,none⟩) 2 c));have f0:∀ o,w3.frozen? ⟨w.heap.size+1,o,none⟩=false:=fun o=>Rw.frozen_of A0.out.r;have HF:=aa (show Co.idle t=none by rw[HD.out,HL.out,HR.out]; rfl);go_wp2_with fail
      obtain⟨A3,A4⟩:=HS.out;generalize World.setCell _ _ _=w9 at *;obtain⟨y0,y1,y2,y3⟩:=ae A3;refine bodyPost_ret (v:=.tuple #[.agg #[.int .i64 27,.int .i64 n,.string s,.slice (some ⟨bl,off,none⟩) 2 c],.bool false]) (by simp[results,Tryz.results91,go_sem,y0,y1,y2,y3]) rfl ?_;have A2:=A0.out.below.trans (A4 w.heap.size (by omega));exact⟨A2,t,_,by rw[HF.out]; rfl,(HV.out.under A2).old,fun x h=>by rw[HF.out] at h; cases h⟩
   by_cases B4:op=26
   ·subst B4;obtain⟨g1,D7⟩:∃ g,Hid ((kop == 1 && kn == 1000000)=g):=⟨_,aa rfl⟩
    obtain⟨g2,D6⟩:∃ g,Hid ((kop == 1)=g):=⟨_,aa rfl⟩
    obtain⟨g3,D5⟩:∃ g,Hid ((jop == 23)=g):=⟨_,aa rfl⟩
    have B8:=aa (show Co.idleL 26 k j=(g1 || (g2 && g3)) by unfold Co.idleL Co.isNum; rw[A9.out.1,A9.out.2,A8.out.1,D7.out,D6.out,D5.out]; rfl);have HR:=aa (show Co.idleR 26 k j=false from rfl);go_wp2_with fail
    refine(jq _ _ 1000000 _ _ _ _ _).mono ?_;rintro e w3 ⟨rfl,b3⟩;rw[D7.out];have A0:=aa (HI.out.more b3);clear b3 d0 d1 d2 d3 x0 x1 x2 x3 z0 z1 z2 z3;obtain⟨d0,d1,d2,d3⟩:=ae A0.out.c;obtain⟨x0,x1,x2,x3⟩:=ae A0.out.a;obtain⟨z0,z1,z2,z3⟩:=ae A0.out.b;have q2:=D6.out;have q3:=D5.out;cases g1 with
    |true=>
     have HL:=aa (show Co.idleL 26 k j=true from B8.out);obtain⟨r0,r1,r2,r3⟩:=ae A0.out.r;have HS:=aa (bh A0.out.r (.int .i64 jop) (.int .i64 jn) (.string js) (.slice jp jlen jc));have f0:∀ o,w3.frozen? ⟨w.heap.size+1,o,none⟩=false:=fun o=>Rw.frozen_of A0.out.r;have HF:=aa (show Co.idle t=some j by rw[HD.out,HL.out,HR.out]; rfl);go_wp2_with fail
     obtain⟨A3,A4⟩:=HS.out;generalize World.setCell _ _ _=w9 at *;obtain⟨y0,y1,y2,y3⟩:=ae A3;refine bodyPost_ret (v:=.tuple #[.agg #[.int .i64 jop,.int .i64 jn,.string js,.slice jp jlen jc],.bool true]) (by simp[results,Tryz.results91,go_sem,y0,y1,y2,y3]) rfl ?_;have A2:=A0.out.below.trans (A4 w.heap.size (by omega));exact⟨A2,j,_,by rw[HF.out]; rfl,(jV.out.under A2).old,fun x h=>by rw[HF.out] at h; cases h; rfl⟩
    |false=>
     cases g2 with
     |true=>
      cases g3 with
      |true=>
       have HL:=aa (show Co.idleL 26 k j=true from B8.out);obtain⟨r0,r1,r2,r3⟩:=ae A0.out.r;have HS:=aa (bh A0.out.r (.int .i64 jop) (.int .i64 jn) (.string js) (.slice jp jlen jc));have f0:∀ o,w3.frozen? ⟨w.heap.size+1,o,none⟩=false:=fun o=>Rw.frozen_of A0.out.r;have HF:=aa (show Co.idle t=some j by rw[HD.out,HL.out,HR.out]; rfl);go_wp2_with fail
       obtain⟨A3,A4⟩:=HS.out;generalize World.setCell _ _ _=w9 at *;obtain⟨y0,y1,y2,y3⟩:=ae A3;refine bodyPost_ret (v:=.tuple #[.agg #[.int .i64 jop,.int .i64 jn,.string js,.slice jp jlen jc],.bool true]) (by simp[results,Tryz.results91,go_sem,y0,y1,y2,y3]) rfl ?_;have A2:=A0.out.below.trans (A4 w.heap.size (by omega));exact⟨A2,j,_,by rw[HF.out]; rfl,(jV.out.under A2).old,fun x h=>by rw[HF.out] at h; cases h; rfl⟩
      |false=>
       have HL:=aa (show Co.idleL 26 k j=false from B8.out);obtain⟨r0,r1,r2,r3⟩:=ae A0.out.r;have HS:=aa (bh A0.out.r (.int .i64 26) (.int .i64 n) (.string s) (.slice (some ⟨bl,off,none⟩) 2 c));have f0:∀ o,w3.frozen? ⟨w.heap.size+1,o,none⟩=false:=fun o=>Rw.frozen_of A0.out.r;have HF:=aa (show Co.idle t=none by rw[HD.out,HL.out,HR.out]; rfl);go_wp2_with fail
       obtain⟨A3,A4⟩:=HS.out;generalize World.setCell _ _ _=w9 at *;obtain⟨y0,y1,y2,y3⟩:=ae A3;refine bodyPost_ret (v:=.tuple #[.agg #[.int .i64 26,.int .i64 n,.string s,.slice (some ⟨bl,off,none⟩) 2 c],.bool false]) (by simp[results,Tryz.results91,go_sem,y0,y1,y2,y3]) rfl ?_;have A2:=A0.out.below.trans (A4 w.heap.size (by omega));exact⟨A2,t,_,by rw[HF.out]; rfl,(HV.out.under A2).old,fun x h=>by rw[HF.out] at h; cases h⟩
     |false=>
      have HL:=aa (show Co.idleL 26 k j=false from B8.out);obtain⟨r0,r1,r2,r3⟩:=ae A0.out.r;have HS:=aa (bh A0.out.r (.int .i64 26) (.int .i64 n) (.string s) (.slice (some ⟨bl,off,none⟩) 2 c));have f0:∀ o,w3.frozen? ⟨w.heap.size+1,o,none⟩=false:=fun o=>Rw.frozen_of A0.out.r;have HF:=aa (show Co.idle t=none by rw[HD.out,HL.out,HR.out]; rfl);go_wp2_with fail
      obtain⟨A3,A4⟩:=HS.out;generalize World.setCell _ _ _=w9 at *;obtain⟨y0,y1,y2,y3⟩:=ae A3;refine bodyPost_ret (v:=.tuple #[.agg #[.int .i64 26,.int .i64 n,.string s,.slice (some ⟨bl,off,none⟩) 2 c],.bool false]) (by simp[results,Tryz.results91,go_sem,y0,y1,y2,y3]) rfl ?_;have A2:=A0.out.below.trans (A4 w.heap.size (by omega));exact⟨A2,t,_,by rw[HF.out]; rfl,(HV.out.under A2).old,fun x h=>by rw[HF.out] at h; cases h⟩
   have HL:=aa (show Co.idleL op k j=false by unfold Co.idleL; simp[h7,h9,B6,B5,h8,B7,B3,B4]);have HR:=aa (show Co.idleR op k j=false by unfold Co.idleR; simp[h7,h9,B6,B5,h8,B7,B3,B4]);have q7:(op == 7)=false:=by simpa using h7
   have q9:(op == 9)=false:=by simpa using h9
   have E5:(op == 15)=false:=by simpa using B6
   have E4:(op == 16)=false:=by simpa using B5
   have q8:(op == 8)=false:=by simpa using h8
   have E6:(op == 10)=false:=by simpa using B7
   have E2:(op == 27)=false:=by simpa using B3
   have E3:(op == 26)=false:=by simpa using B4
   clear h7 h9 B6 B5 h8 B7 B3 B4;have A0:=HI;obtain⟨r0,r1,r2,r3⟩:=ae A0.out.r;have HS:=aa (bh A0.out.r (.int .i64 op) (.int .i64 n) (.string s) (.slice (some ⟨bl,off,none⟩) 2 c));have f0:∀ o,wx.frozen? ⟨w.heap.size+1,o,none⟩=false:=fun o=>Rw.frozen_of A0.out.r;have HF:=aa (show Co.idle t=none by rw[HD.out,HL.out,HR.out]; rfl);go_wp2_with fail
   obtain⟨A3,A4⟩:=HS.out;generalize World.setCell _ _ _=w9 at *;obtain⟨y0,y1,y2,y3⟩:=ae A3;refine bodyPost_ret (v:=.tuple #[.agg #[.int .i64 op,.int .i64 n,.string s,.slice (some ⟨bl,off,none⟩) 2 c],.bool false]) (by simp[results,Tryz.results91,go_sem,y0,y1,y2,y3]) rfl ?_;have A2:=A0.out.below.trans (A4 w.heap.size (by omega));exact⟨A2,t,_,by rw[HF.out]; rfl,(HV.out.under A2).old,fun x h=>by rw[HF.out] at h; cases h⟩
 ·have HF:=aa (show Co.idle t=none by unfold Co.idle; rw[C3.out]; exact if_neg h2);have g2:((ln:Int) != 2)=true:=by simp; omega
  clear h2;have HS:=aa (bh B2.out (.int .i64 op) (.int .i64 n) (.string s) (.slice (some ⟨bl,off,none⟩) ln c));obtain⟨r0,r1,r2,r3⟩:=ae B2.out;have f0:∀ o,w1.frozen? ⟨w.heap.size+1,o,none⟩=false:=fun o=>Rw.frozen_of B2.out;go_wp2_with fail
  obtain⟨A3,A4⟩:=HS.out;generalize World.setCell _ _ _=w9 at *;obtain⟨y0,y1,y2,y3⟩:=ae A3;refine bodyPost_ret (v:=.tuple #[.agg #[.int .i64 op,.int .i64 n,.string s,.slice (some ⟨bl,off,none⟩) ln c],.bool false]) (by simp[results,Tryz.results91,go_sem,y0,y1,y2,y3]) rfl ?_;have A2:=B9.out.trans (A4 w.heap.size (by omega));exact⟨A2,t,_,by rw[HF.out]; rfl,(HV.out.under A2).old,fun x h=>by rw[HF.out] at h; cases h⟩
end
section
open Go.RowKit
set_option maxRecDepth 100000
theorem zkx {ok:Nat→Prop}{w9:World}{b:Nat}{k:Co.T}{n:Int}{kop kn:Int}{ks:ByteArray}{kp:Option Addr}{klen kc:Nat}(hb:w9.heap[b]? = some (.cells #[.int .i64 kop,.int .i64 kn,.string ks,.slice kp klen kc,.int .i64 23,.int .i64 0,.string ⟨#[]⟩,.slice none 0 0] 24 (0,0)))
  (hk:CoreIn ok w9.drew k (.agg #[.int .i64 kop,.int .i64 kn,.string ks,.slice kp klen kc])) (hn:I64 n) (A0:ok b):CoreIn ok w9.drew (.mk 30 n ⟨#[]⟩ [k,Co.leaf 23 0]) (.agg #[.int .i64 30,.int .i64 n,.string ⟨#[]⟩,.slice (some ⟨b,0,none⟩) 2 2]):=by
 have hl:=af hb;have hc:∀(i:Nat) (v:Value),(#[.int .i64 kop,.int .i64 kn,.string ks,.slice kp klen kc,.int .i64 23,.int .i64 0,.string ⟨#[]⟩,.slice none 0 0]:Array Value)[i]? = some v→w9.drew.cell? ⟨b,i,none⟩=some v:=by
  intro i v h;show w9.cell? _=_
  unfold World.cell?;simp only[hb];exact h
 refine CoreIn.close (ks:=[k,Co.leaf 23 0]) ⟨Nat.le_refl 2,by decide⟩ (by unfold I64; omega) hn (by decide) (fun i j hj=>?_);match i with
 |0=>
  obtain rfl:k=j:=by simpa using hj
  exact⟨_,⟨b,0,_,_,_,_,rfl,A0,rfl,hc 0 _ rfl,hc 1 _ rfl,hc 2 _ rfl,hc 3 _ rfl⟩,hk⟩
 |1=>
  obtain rfl:Co.leaf 23 0=j:=by simpa using hj
  exact⟨_,⟨b,0,_,_,_,_,rfl,A0,rfl,hc 4 _ rfl,hc 5 _ rfl,hc 6 _ rfl,hc 7 _ rfl⟩,rz (by unfold I64; omega) (by unfold I64; omega)⟩
 |_+2=>simp at hj
theorem Co.never_kid {t:Co.T}(e:t.op=30)(hx:t.letter≠0):∃ j,t.ks[1]? = some j:=by
 obtain⟨h1, -, -⟩:=Co.open_kids (t:=t) (by rw[e]; decide) (by rw[e]; exact Co.want_30) hx;obtain⟨k,j,A0, -⟩:=Co.two_kids h1;exact⟨j,by rw[A0]; rfl⟩
set_option maxHeartbeats 4000000 in
theorem ziz (ok:Nat→Prop)(t:Co.T)(v:Value)(w:World)(hv:CoreIn ok w t v)(hx:t.letter≠0)(h0:0<t.ks.length):
  Calls Tryz.prog 95 #[v] w (lg ok (Co.never t) w):=by
 obtain⟨op,n,s,p,ln,c,rfl,C5,hn,hs,C6⟩:=dw hv;have HV:=aa hv;obtain⟨bl,off,rfl,A2⟩:=nc hv h0;have C8:=heap_alloc_new w (.cells #[.int .i64 op,.int .i64 n,.string s,.slice (some ⟨bl,off,none⟩) ln c] 24);have B9:=heap_alloc_new (w.alloc (.cells #[.int .i64 op,.int .i64 n,.string s,.slice (some ⟨bl,off,none⟩) ln c] 24)) (.cells #[.int .i64 0,.int .i64 0,.string ⟨#[]⟩,.slice none 0 0] 24);simp only[World.size_alloc] at B9;have C2:Below w.heap.size w ((w.alloc (.cells #[.int .i64 op,.int .i64 n,.string s,.slice (some ⟨bl,off,none⟩) ln c] 24)).alloc (.cells #[.int .i64 0,.int .i64 0,.string ⟨#[]⟩,.slice none 0 0] 24)):=((Below.refl w.heap.size w).alloc (Nat.le_refl _) _).alloc (by simp) _;have C7:=(((Below.refl _ (w.alloc (.cells #[.int .i64 op,.int .i64 n,.string s,.slice (some ⟨bl,off,none⟩) ln c] 24))).alloc (Nat.le_refl _) (.cells #[.int .i64 0,.int .i64 0,.string ⟨#[]⟩,.slice none 0 0] 24)).block w.heap.size (by simp)).trans C8;have j0:(0:Int)<(ln:Int):=by omega
 have C3:=aa C5;have HN:=aa hn;have D2:=aa C6;have A4:=aa A2;have HX:=aa hx;have H0:=aa h0;clear C8 C5 hn hs C6 A2 hx h0 hv;go_enter Tryz.func95,Tryz.ntmps95;go_upto_region 1 with(fail)
 generalize World.alloc _ _=w1 at *;have B8:=aa C2;have A6:=aa B9;have B3:=aa C7;obtain⟨k,kat⟩:∃ k,t.ks[0]? = some k:=⟨_,List.getElem?_eq_getElem H0.out⟩
 obtain⟨kop,kn,ks,kp,klen,kc,kH⟩:=A4.out 0 k kat;have kK:=aa (kH.below C2);have kV:=aa kH.val;have kLT:=aa kH.lt;clear kH;clear B9 C2;obtain⟨d0,d1,d2,d3⟩:=ae B3.out;have D1:=aa kat;clear C7 kat;have B0:=kK.out.x0;have A9:=kK.out.x1;have A8:=kK.out.x2;have A7:=kK.out.x3;simp only[Nat.zero_mul,Nat.add_zero,Nat.one_mul] at B0 A9 A8 A7;have eK:t.kid 0=k:=by unfold Co.T.kid; rw[D1.out]; rfl
 by_cases h:op=30
 ·subst h;obtain⟨j,hj⟩:=Co.never_kid C3.out HX.out;have eJ:t.kid 1=j:=by unfold Co.T.kid; rw[hj]; rfl
  have C0:2≤ln:=by rw[←D2.out]; exact(List.getElem?_eq_some_iff.1 hj).1
  obtain⟨jop,jn,js,jp,jlen,jc,jH⟩:=A4.out 1 j hj;have jK:=aa (jH.below B8.out);have jV:=aa jH.val;clear jH;have B7:=jK.out.x0;have B6:=jK.out.x1;have B5:=jK.out.x2;have B4:=jK.out.x3;simp only[Nat.zero_mul,Nat.add_zero,Nat.one_mul] at B7 B6 B5 B4;have HD:=aa (show Co.never t=if(kop == 2 && kn == 0)=true∧jop≠23 then some (.mk 30 n ⟨#[]⟩ [k,Co.leaf 23 0]) else none by
   unfold Co.never Co.isBool;rw[eK,eJ,C3.out,HN.out,kK.out.op',kK.out.n',jK.out.op'];by_cases h:(kop == 2 && kn == 0)=true∧jop≠23
   ·rw[if_pos h,if_pos ⟨rfl,h⟩]
   ·rw[if_neg h,if_neg (fun h'=>h h'.2)])
  have j1:(1:Int)<(ln:Int):=by omega
  clear eK eJ hj C0;cases hg:(kop == 2 && kn == 0) with
  |false=>
   have HF:=aa (show Co.never t=none by rw[HD.out,hg]; simp);go_wp2_with fail
   refine(fh _ _ 0 _ _ _ _ _).mono ?_;rintro e w2 ⟨rfl,b2⟩;rw[hg];have B1:=aa (Below.more B8.out b2);have A0:=aa ((b2.block _ (af A6.out)).trans A6.out);have C4:=aa ((b2.block _ (af B3.out)).trans B3.out);clear b2 d0 d1 d2 d3;obtain⟨d0,d1,d2,d3⟩:=ae C4.out;have HS:=aa (bh A0.out (.int .i64 30) (.int .i64 n) (.string s) (.slice (some ⟨bl,off,none⟩) ln c));obtain⟨r0,r1,r2,r3⟩:=ae A0.out;have f0:∀ o,w2.frozen? ⟨w.heap.size+1,o,none⟩=false:=fun o=>Rw.frozen_of A0.out;go_wp2_with fail
   obtain⟨A5,A3⟩:=HS.out;generalize World.setCell _ _ _=w9 at *;obtain⟨y0,y1,y2,y3⟩:=ae A5;refine bodyPost_ret (v:=.tuple #[.agg #[.int .i64 30,.int .i64 n,.string s,.slice (some ⟨bl,off,none⟩) ln c],.bool false]) (by simp[results,Tryz.results95,go_sem,y0,y1,y2,y3]) rfl ?_;have A1:=B1.out.trans (A3 w.heap.size (by omega));exact⟨A1,t,_,by rw[HF.out]; rfl,(HV.out.under A1).old,fun x h=>by rw[HF.out] at h; cases h⟩
  |true=>
   go_wp2_with fail
   refine(fh _ _ 0 _ _ _ _ _).mono ?_;rintro e w2 ⟨rfl,b2⟩;rw[hg];have B1:=aa (Below.more B8.out b2);have A0:=aa ((b2.block _ (af A6.out)).trans A6.out);have C4:=aa ((b2.block _ (af B3.out)).trans B3.out);have kK2:=aa (kK.out.below b2);have jK2:=aa (jK.out.below b2);clear b2 d0 d1 d2 d3 B0 A9 A8 A7 B7 B6 B5 B4;obtain⟨d0,d1,d2,d3⟩:=ae C4.out;have B0:=kK2.out.x0;have A9:=kK2.out.x1;have A8:=kK2.out.x2;have A7:=kK2.out.x3;simp only[Nat.zero_mul,Nat.add_zero,Nat.one_mul] at B0 A9 A8 A7;have B7:=jK2.out.x0;have B6:=jK2.out.x1;have B5:=jK2.out.x2;have B4:=jK2.out.x3;simp only[Nat.zero_mul,Nat.add_zero,Nat.one_mul] at B7 B6 B5 B4;by_cases B2:jop=23
   ·have HF:=aa (show Co.never t=none by rw[HD.out,hg]; simp[B2]);subst B2;have HS:=aa (bh A0.out (.int .i64 30) (.int .i64 n) (.string s) (.slice (some ⟨bl,off,none⟩) ln c));obtain⟨r0,r1,r2,r3⟩:=ae A0.out;have f0:∀ o,w2.frozen? ⟨w.heap.size+1,o,none⟩=false:=fun o=>Rw.frozen_of A0.out;go_wp2_with fail
    obtain⟨A5,A3⟩:=HS.out;generalize World.setCell _ _ _=w9 at *;obtain⟨y0,y1,y2,y3⟩:=ae A5;refine bodyPost_ret (v:=.tuple #[.agg #[.int .i64 30,.int .i64 n,.string s,.slice (some ⟨bl,off,none⟩) ln c],.bool false]) (by simp[results,Tryz.results95,go_sem,y0,y1,y2,y3]) rfl ?_;have A1:=B1.out.trans (A3 w.heap.size (by omega));exact⟨A1,t,_,by rw[HF.out]; rfl,(HV.out.under A1).old,fun x h=>by rw[HF.out] at h; cases h⟩
   ·have HF:=aa (show Co.never t=some (.mk 30 n ⟨#[]⟩ [k,Co.leaf 23 0]) by rw[HD.out,hg]; simp[B2]);have D3:(jop == 23)=false:=by simpa using B2
    clear B2;go_wp2_with fail
    obtain⟨r0,r1,r2,r3⟩:=ae A0.out;have f0:∀ o,w2.frozen? ⟨w.heap.size+1,o,none⟩=false:=fun o=>Rw.frozen_of A0.out;have n0:=World.new_ne w2 _ d1;have n1:=World.new_ne w2 _ d3;have n2:=World.new_ne w2 _ B0;have n3:=World.new_ne w2 _ A9;have n4:=World.new_ne w2 _ A8;have n5:=World.new_ne w2 _ A7;have n6:=World.new_ne w2 _ r0;have n7:bl≠w.heap.size+1:=by have:=kLT.out; omega
    have n8:w.heap.size+1≠bl:=fun e=>n7 e.symm;have n9:(w.heap.size+1=bl)=False:=eq_false n8;have j0n:0<ln:=by omega
    have HA:=fun (ob:Obj)=>((Below.refl w2.heap.size w2).alloc (Nat.le_refl _) ob).block (w.heap.size+1) (af A0.out) |>.trans A0.out
    have f1:∀(ob:Obj) o,(w2.alloc ob).frozen? ⟨w.heap.size+1,o,none⟩=false:=fun ob o=>Rw.frozen_of (HA ob);have f2:∀(ob:Obj) o,(w2.alloc ob).drew.frozen? ⟨w.heap.size+1,o,none⟩=false:=fun ob o=>Rw.frozen_of (HA ob);have g0:∀(ob:Obj),(w2.alloc ob).cell? ⟨w.heap.size+1,0,none⟩=some (.int .i64 0):=fun ob=>(ae (HA ob)).1;have g1:∀(ob:Obj),(w2.alloc ob).cell? ⟨w.heap.size+1,1,none⟩=some (.int .i64 0):=fun ob=>(ae (HA ob)).2.1;have g2:∀(ob:Obj),(w2.alloc ob).cell? ⟨w.heap.size+1,2,none⟩=some (.string ⟨#[]⟩):=fun ob=>(ae (HA ob)).2.2.1;have g3:∀(ob:Obj),(w2.alloc ob).cell? ⟨w.heap.size+1,3,none⟩=some (.slice none 0 0):=fun ob=>(ae (HA ob)).2.2.2;have C9:=aa HA;clear HA;go_region_held3 (fun w'=>w'.cell? ⟨w.heap.size,1,none⟩=some (.int .i64 n)∧w'.cell? ⟨w.heap.size,3,none⟩=some (.slice (some ⟨bl,off,none⟩) ln c)∧w'.cell? ⟨bl,off,none⟩=some (.int .i64 kop)∧w'.cell? ⟨bl,off+1,none⟩=some (.int .i64 kn)∧w'.cell? ⟨bl,off+2,none⟩=some (.string ks)∧w'.cell? ⟨bl,off+3,none⟩=some (.slice kp klen kc))
     (first|exact⟨ez d1,ez d3,ez B0,ez A9,ez A8,ez A7⟩|go_keep|simp[*]) (fail)
    all_goals go_wp2_with fail
    clear f1 f2 g0 g1 g2 g3;have HS:=bh (C9.out (.cells #[.int .i64 kop,.int .i64 kn,.string ks,.slice kp klen kc,.int .i64 23,.int .i64 0,.string ⟨#[]⟩,.slice none 0 0] 24)) (.int .i64 30) (.int .i64 n) (.string ⟨#[]⟩) (.slice (some ⟨w2.heap.size,0,none⟩) 2 2);have HG:=(jv (w2.alloc (.cells #[.int .i64 kop,.int .i64 kn,.string ks,.slice kp klen kc,.int .i64 23,.int .i64 0,.string ⟨#[]⟩,.slice none 0 0] 24)) (w.heap.size+1) (.int .i64 30) (.int .i64 n) (.string ⟨#[]⟩) (.slice (some ⟨w2.heap.size,0,none⟩) 2 2)).block w2.heap.size (by simp) (fun e=>by simp at e; have:=af A0.out; omega);rw[heap_alloc_new] at HG;have D0:Below w2.heap.size w2 (w2.alloc (.cells #[.int .i64 kop,.int .i64 kn,.string ks,.slice kp klen kc,.int .i64 23,.int .i64 0,.string ⟨#[]⟩,.slice none 0 0] 24)):=(Below.refl _ _).alloc (Nat.le_refl _) _;obtain⟨A5,A3⟩:=HS;have C1:=B1.out.trans ((D0.mono B1.out.size).trans (A3 w.heap.size (by omega)));clear A3 D0 C9;generalize World.setCell _ _ _=w9 at *;have A1:Below w.heap.size w w9.drew:=C1.drew;obtain⟨y0,y1,y2,y3⟩:=ae A5;refine bodyPost_ret (v:=.tuple #[.agg #[.int .i64 30,.int .i64 n,.string ⟨#[]⟩,.slice (some ⟨w2.heap.size,0,none⟩) 2 2],.bool true]) (by simp[results,Tryz.results95,go_sem,y0,y1,y2,y3]) rfl ?_;refine⟨A1,_,_,by rw[HF.out]; rfl,?_,fun x h=>by rw[HF.out] at h; cases h; rfl⟩;exact zkx HG ((kV.out.under A1).old) (by obtain⟨-, -, -, -, -,h, -⟩:=HV.out.open; rw[HN.out] at h; exact h) (.inr B1.out.size)
 ·have HF:=aa (show Co.never t=none by unfold Co.never; rw[C3.out]; exact if_neg (fun h'=>h h'.1));have gk:(op != 30)=true:=by simpa using h
  clear h eK;have HS:=aa (bh A6.out (.int .i64 op) (.int .i64 n) (.string s) (.slice (some ⟨bl,off,none⟩) ln c));obtain⟨r0,r1,r2,r3⟩:=ae A6.out;have f0:∀ o,w1.frozen? ⟨w.heap.size+1,o,none⟩=false:=fun o=>Rw.frozen_of A6.out;go_wp2_with fail
  obtain⟨A5,A3⟩:=HS.out;generalize World.setCell _ _ _=w9 at *;obtain⟨y0,y1,y2,y3⟩:=ae A5;refine bodyPost_ret (v:=.tuple #[.agg #[.int .i64 op,.int .i64 n,.string s,.slice (some ⟨bl,off,none⟩) ln c],.bool false]) (by simp[results,Tryz.results95,go_sem,y0,y1,y2,y3]) rfl ?_;have A1:=B8.out.trans (A3 w.heap.size (by omega));exact⟨A1,t,_,by rw[HF.out]; rfl,(HV.out.under A1).old,fun x h=>by rw[HF.out] at h; cases h⟩
end
section
open Go.RowKit
set_option maxRecDepth 100000
def zj (i:Nat):Nat:=match i with
 |0=>89
 |1=>90
 |2=>91
 |3=>92
 |4=>93
 |5=>94
 |_=>95
def lz (i:Nat):Value:=.func (.func (zj i)) #[] #[]
structure RuleAsk (t:Co.T):Prop where
 letter:t.letter≠0
 some':0<t.ks.length
theorem Co.kids_len {t:Co.T}(h:t.letter≠0):t.ks.length≤3:=by
 obtain⟨op,n,s,ks⟩:=t;by_cases A0:op=22
 ·subst A0;obtain⟨a,b,c,rfl, -⟩:=(Co.letter_22 h).1 rfl;exact Nat.le_refl 3
 ·obtain⟨hw, -⟩:=Co.letter_inv rfl h A0;have hl:ks.length=(ks.map Co.T.letter).length:=(List.length_map ..).symm;show ks.length≤3
  rw[hl];generalize ks.map Co.T.letter=l at *;generalize (Co.T.mk op n s ks).letter=x at *;rcases Co.op_cases (Co.want_in hw) with rfl|rfl|rfl|rfl|rfl|rfl|rfl|rfl|rfl|rfl|rfl|rfl|rfl|rfl|rfl|rfl|rfl|rfl|rfl|rfl|rfl|rfl|rfl|rfl|rfl|rfl|rfl|rfl|rfl|rfl|rfl;all_goals simp only[Co.want_1,Co.want_2,Co.want_3,Co.want_4,Co.want_5,Co.want_6,Co.want_7,Co.want_8,Co.want_9,Co.want_10,Co.want_11,Co.want_12,Co.want_13,Co.want_14,Co.want_15,Co.want_16,Co.want_17,Co.want_18,Co.want_19,Co.want_20,Co.want_21,Co.want_22,Co.want_23,Co.want_24,Co.want_25,Co.want_26,Co.want_27,Co.want_28,Co.want_29,Co.want_30,Co.want_31,Option.some.injEq,Prod.mk.injEq] at hw
  all_goals
   obtain⟨rfl, -⟩:=hw;decide
theorem Co.n_range {t:Co.T}(h:t.letter≠0) : -1000000000000000≤t.n∧t.n≤1000000000000000:=by
 obtain⟨op,n,s,ks⟩:=t;by_cases A0:op=22
 ·subst A0;obtain⟨a,b,c,rfl, -, -, -, -,hf⟩:=(Co.letter_22 h).1 rfl;exact Co.fields_range hf
 ·exact Co.fields_range (Co.letter_inv rfl h A0).2
theorem ztq (ok:Nat→Prop)(i:Nat)(hi:i<7)(t:Co.T)(v:Value)(w:World)(hv:CoreIn ok w t v)(h:RuleAsk t):Calls Tryz.prog (zj i) #[v] w (lg ok (Co.rule i t) w):=by
 rcases(by omega:i=0∨i=1∨i=2∨i=3∨i=4∨i=5∨i=6) with rfl|rfl|rfl|rfl|rfl|rfl|rfl
 ·exact zkv ok t v w hv (Co.kids_len h.letter) (fun k hk=>Co.n_range (by obtain⟨o,n,s,ks⟩:=t; exact Co.kids_ne h.letter k hk))
 ·exact zix ok t v w hv h.letter h.some'
 ·exact zku ok t v w hv h.letter h.some'
 ·exact zfq ok t v w hv h.letter h.some'
 ·exact zja ok t v w hv h.letter h.some'
 ·exact zht ok t v w hv h.letter h.some'
 ·exact ziz ok t v w hv h.letter h.some'
def zhz:Array Value:=#[.int .i64 1,lz 0,.int .i64 2,lz 1,.int .i64 2,lz 2,.int .i64 2,lz 3,.int .i64 2,lz 4,.int .i64 4,lz 5,.int .i64 4,lz 6]
def zcs (W:World)(b:Nat):Prop:=W.heap[b]? = some (.cells zhz 131 (0,0))
theorem zpf (w:World):Calls Tryz.prog 46 #[] w fun e w'=>e=.returned (.slice (some ⟨w.heap.size,0,none⟩) 7 7)∧Below w.heap.size w w'∧zcs w' w.heap.size:=by
 go_enter Tryz.func46,Tryz.ntmps46;go_wp2_with fail
 go_ret;refine⟨rfl,(Below.refl _ _).alloc (Nat.le_refl _) _,heap_alloc_new w _⟩
theorem zmg (p:Int)(i:Nat)(hi:i<7)(hp:0≤p∧p≤15):(bits BinOp.and IntKind.i64 p (Co.bit i) == 0) = !Co.on p i:=by
 obtain⟨h1,h2⟩:=hp;rcases(by omega:p=0∨p=1∨p=2∨p=3∨p=4∨p=5∨p=6∨p=7∨p=8∨p=9∨p=10∨p=11∨p=12∨p=13∨p=14∨p=15) with rfl|rfl|rfl|rfl|rfl|rfl|rfl|rfl|rfl|rfl|rfl|rfl|rfl|rfl|rfl|rfl;all_goals
  rcases(by omega:i=0∨i=1∨i=2∨i=3∨i=4∨i=5∨i=6) with rfl|rfl|rfl|rfl|rfl|rfl|rfl;all_goals kernel_rfl
set_option maxHeartbeats 4000000 in
theorem zlm (ok:Nat→Prop)(i:Nat)(hi:i<7)(pass p:Int)(A0:pass=Co.bit i)(hp:0≤p∧p≤15)(t:Co.T)(v:Value)(pb:Nat)(w:World)(A9:∀ b,ok b→b<w.heap.size)(hv:CoreIn ok w t v)(h:RuleAsk t)(hb:w.cell? ⟨pb,0,none⟩=some (.int .i64 p)):
  Calls Tryz.prog 88 #[.agg #[.int .i64 pass,lz i],v,.pointer (some ⟨pb,0,none⟩)] w (lg ok (Co.try1 p i t) w):=by
 obtain⟨op,n,s,q,ln,c,rfl,B5,hn,hs,B6⟩:=dw hv;have HV:=aa hv;have A7:=(((Below.refl _ w).alloc (Nat.le_refl _) (.cells #[.int .i64 pass,lz i] 131)))
 have A6:=A7.alloc (by simp) (.cells #[.int .i64 op,.int .i64 n,.string s,.slice q ln c] 24);have A2:=A6.alloc (by simp; omega) (.cells #[.int .i64 0,.int .i64 0,.string ⟨#[]⟩,.slice none 0 0] 24);have y0:=heap_alloc_new w (.cells #[.int .i64 pass,lz i] 131);have y1:=heap_alloc_new (w.alloc (.cells #[.int .i64 pass,lz i] 131)) (.cells #[.int .i64 op,.int .i64 n,.string s,.slice q ln c] 24);have y2:=heap_alloc_new ((w.alloc (.cells #[.int .i64 pass,lz i] 131)).alloc (.cells #[.int .i64 op,.int .i64 n,.string s,.slice q ln c] 24)) (.cells #[.int .i64 0,.int .i64 0,.string ⟨#[]⟩,.slice none 0 0] 24);have z1:∀(W:World) (o:Obj) (k:Nat) (x:Obj),W.heap[k]? = some x→(W.alloc o).heap[k]? = some x:=fun W o k x h=>(((Below.refl W.heap.size W).alloc (Nat.le_refl _) o).block k (af h)).trans h;replace y0:=z1 _ (.cells #[.int .i64 0,.int .i64 0,.string ⟨#[]⟩,.slice none 0 0] 24) _ _ (z1 _ (.cells #[.int .i64 op,.int .i64 n,.string s,.slice q ln c] 24) _ _ y0);replace y1:=z1 _ (.cells #[.int .i64 0,.int .i64 0,.string ⟨#[]⟩,.slice none 0 0] 24) _ _ y1;simp only[World.size_alloc] at y1 y2;have B4:=(A2.cell (p:=⟨pb,0,none⟩) (World.block_lt_of_cell? w _ hb)).trans hb;have HP:=aa A0;have B2:=aa hp;have HA:=aa h;clear A7 A6 z1 A0 hp h B5 hn hs B6 hv hb;go_enter Tryz.func88,Tryz.ntmps88;go_upto_region 1 with(fail)
 generalize World.alloc _ _=w1 at *;have HY:=aa (And.intro y0 (And.intro y1 y2));have HX:=aa A2;have r0:w1.cell? ⟨w.heap.size,0,none⟩=some (.int .i64 pass):=by simp[World.cell?,y0]
 have r1:w1.cell? ⟨w.heap.size,1,none⟩=some (lz i):=by simp[World.cell?,y0]
 obtain⟨c0,c1,c2,c3⟩:=ae y1;obtain⟨e0,e1,e2,e3⟩:=ae y2;have f0:∀ o,w1.frozen? ⟨w.heap.size+1+1,o,none⟩=false:=fun o=>Rw.frozen_of HY.out.2.2;have HS:=aa (bh HY.out.2.2 (.int .i64 op) (.int .i64 n) (.string s) (.slice q ln c));clear y0 y1 y2 A2;cases hon:Co.on p i with
 |false=>
  have g0:(bits BinOp.and IntKind.i64 p pass == 0)=true:=by rw[HP.out,zmg p i hi B2.out,hon]; rfl
  have HF:=aa (show Co.try1 p i t=none by unfold Co.try1; rw[hon]; rfl);go_wp2_with fail
  obtain⟨A3,A4⟩:=HS.out;generalize World.setCell _ _ _=w9 at *;obtain⟨y0,y1,y2,y3⟩:=ae A3;refine bodyPost_ret (v:=.tuple #[.agg #[.int .i64 op,.int .i64 n,.string s,.slice q ln c],.bool false]) (by simp[results,Tryz.results88,go_sem,y0,y1,y2,y3]) rfl ?_;have B1:=HX.out.trans (A4 w.heap.size (by omega));exact⟨B1,t,_,by rw[HF.out]; rfl,(HV.out.under B1).old,fun x h=>by rw[HF.out] at h; cases h⟩
 |true=>
  have g0:(bits BinOp.and IntKind.i64 p pass == 0)=false:=by rw[HP.out,zmg p i hi B2.out,hon]; rfl
  have HF:=aa (show Co.try1 p i t=Co.rule i t by unfold Co.try1; rw[hon]; rfl);have A1:=aa (fun W (hb:Below w.heap.size w W)=>ztq ok i hi t _ W (HV.out.under hb) HA.out);obtain⟨ro,B3⟩:∃ ro,Hid (Co.rule i t=ro):=⟨_,aa rfl⟩
  rw[B3.out] at A1 HF;have B8:=aa A9;clear HS A9;rcases(by omega:i=0∨i=1∨i=2∨i=3∨i=4∨i=5∨i=6) with rfl|rfl|rfl|rfl|rfl|rfl|rfl;all_goals
   simp only[lz,zj] at r1;go_wp2_with fail
   refine(A1.out _ HX.out).mono ?_;rintro e w5 ⟨b5,u,vv,rfl,hu,A8⟩;obtain⟨uop,un,us,up,ul,uc,rfl, -, -, -, -⟩:=dw hu;have A5:=aa ((b5.block _ (af HY.out.2.2)).trans HY.out.2.2);have B9:=aa (HX.out.trans (b5.mono HX.out.size));have HU:=aa hu;have B7:=aa A8;clear r0 r1 c0 c1 c2 c3 e0 e1 e2 e3 f0 B4;obtain⟨e0,e1,e2,e3⟩:=ae A5.out;have f0:∀ o,w5.frozen? ⟨w.heap.size+1+1,o,none⟩=false:=fun o=>Rw.frozen_of A5.out;have HS:=aa (And.intro (bh A5.out (.int .i64 uop) (.int .i64 un) (.string us) (.slice up ul uc)) (jv w5 (w.heap.size+1+1) (.int .i64 uop) (.int .i64 un) (.string us) (.slice up ul uc)));clear b5 hu A8;obtain⟨bo,B0⟩:∃ bo,Hid (ro.isSome=bo):=⟨_,aa rfl⟩
   rw[B0.out];go_wp2_with fail
   obtain⟨⟨A3,A4⟩,hg⟩:=HS.out;generalize World.setCell _ _ _=w9 at *;obtain⟨y0,y1,y2,y3⟩:=ae A3;refine bodyPost_ret (v:=.tuple #[.agg #[.int .i64 uop,.int .i64 un,.string us,.slice up ul uc],.bool bo]) (by simp[results,Tryz.results88,go_sem,y0,y1,y2,y3]) rfl ?_;refine⟨B9.out.trans (A4 w.heap.size (by omega)),u,_,by rw[HF.out,B0.out],HU.out.keep (fun b hb hl=>⟨?_,hg.block b hl (fun e=>?_)⟩),fun x h=>B7.out x (by rw[←HF.out]; exact h)⟩
   ·exact hb.imp id (fun h=>Nat.le_trans HX.out.size h)
   ·obtain rfl:w.heap.size+1+1=b:=by simpa using e.symm
    rcases hb with hb|hb
    ·have:=B8.out _ hb; omega
    ·have:=af HY.out.2.2; omega
end
section
open Go.RowKit
set_option maxRecDepth 100000
attribute [local go_sem] dp
theorem ztr (i:Nat)(hi:i<7):zhz[i * 2]? = some (.int .i64 (Co.bit i))∧zhz[i * 2+1]? = some (lz i):=by
 rcases(by omega:i=0∨i=1∨i=2∨i=3∨i=4∨i=5∨i=6) with rfl|rfl|rfl|rfl|rfl|rfl|rfl;all_goals exact⟨rfl,rfl⟩
structure FirstIt (w:World)(C:Array Value)(p:Int)(t:Co.T)(F:Option Co.T)(i:Nat)(wr:World):Prop where
 below:Below w.heap.size w wr
 c:wr.heap[w.heap.size]? = some (.cells C 24 (0,0))
 r:wr.heap[w.heap.size+1]? = some (.cells #[.int .i64 0,.int .i64 0,.string ⟨#[]⟩,.slice none 0 0] 24 (0,0))
 rest:Co.fitFrom p t (7 - i) i=F
theorem FirstIt.more {w:World}{C:Array Value}{p:Int}{t:Co.T}{F:Option Co.T}{i j:Nat}{W W':World}(h:FirstIt w C p t F i W)(hb:Below W.heap.size W W')(hr:Co.fitFrom p t (7 - j) j=F):FirstIt w C p t F j W':=
 ⟨h.below.trans (hb.mono h.below.size),(hb.block _ (af h.c)).trans h.c,(hb.block _ (af h.r)).trans h.r,hr⟩
set_option maxHeartbeats 4000000 in
theorem zrd (ok:Nat→Prop)(t:Co.T)(v:Value)(rb pb:Nat)(p:Int)(w:World)(C2:∀ b,ok b→b<w.heap.size)(hv:CoreIn ok w t v)(h:RuleAsk t)(hp:0≤p∧p≤15)(hb:w.cell? ⟨pb,0,none⟩=some (.int .i64 p))(hr:zcs w rb):
  Calls Tryz.prog 87 #[.slice (some ⟨rb,0,none⟩) 7 7,v,.func (.func 88) #[] #[.pointer (some ⟨pb,0,none⟩)]] w (lg ok (Co.fit p t) w):=by
 obtain⟨op,n,s,q,ln,c,rfl,D2,hn,hs,D3⟩:=dw hv;have HV:=aa hv;obtain⟨F,hF⟩:∃ F,Hid (Co.fit p t=F):=⟨_,aa rfl⟩
 rw[hF.out];have B9:=((Below.refl _ w).alloc (Nat.le_refl _) (.cells #[.int .i64 op,.int .i64 n,.string s,.slice q ln c] 24))
 have B8:=B9.alloc (by simp) (.cells #[.int .i64 0,.int .i64 0,.string ⟨#[]⟩,.slice none 0 0] 24);have y0:=heap_alloc_new w (.cells #[.int .i64 op,.int .i64 n,.string s,.slice q ln c] 24);have y1:=heap_alloc_new (w.alloc (.cells #[.int .i64 op,.int .i64 n,.string s,.slice q ln c] 24)) (.cells #[.int .i64 0,.int .i64 0,.string ⟨#[]⟩,.slice none 0 0] 24);have z1:∀(W:World) (o:Obj) (k:Nat) (x:Obj),W.heap[k]? = some x→(W.alloc o).heap[k]? = some x:=fun W o k x h=>(((Below.refl W.heap.size W).alloc (Nat.le_refl _) o).block k (af h)).trans h;replace y0:=z1 _ (.cells #[.int .i64 0,.int .i64 0,.string ⟨#[]⟩,.slice none 0 0] 24) _ _ y0;simp only[World.size_alloc] at y1;have HI:=aa (FirstIt.mk (p:=p) (t:=t) (F:=F) (i:=0) B8 y0 y1 hF.out);have C7:=aa C2;have HA:=aa h;have HP:=aa hp;have C6:=aa hb;have C3:=aa hr;clear B9 B8 y0 y1 z1 C2 h hp hb hr D2 hn hs D3 hv;go_enter Tryz.func87,Tryz.ntmps87;go_upto_region 1 with(fail)
 generalize World.alloc _ _=w1 at *;go_wp2_with fail
 go_loopw [15] (fun iv wr=>∃(i:Nat),iv=.int .i64 (i:Int)∧i≤7∧Hid (FirstIt w #[.int .i64 op,.int .i64 n,.string s,.slice q ln c] p t F i wr)) (fun iv _=>7 - (intOf iv).toNat)
 case atStart=>exact⟨0,rfl,by omega,HI⟩
 case round=>
  obtain⟨i,rfl,hi,HJ⟩:=hrel;by_cases B1:i<7
  ·have g0:decide ((i:Int)<7)=true:=by simp; omega
   have j1:(0:Int)≤(i:Int):=by omega
   have j2:(i:Int)<7:=by omega
   have D6:IntKind.i64.wrap ((i:Int)+1)=(i:Int)+1:=IntWalk.i64_in _ (by omega);obtain⟨q0,q1⟩:=ztr i B1;have B6:wr.heap[rb]? = some (.cells zhz 131 (0,0)):=(HJ.out.below.block rb (af C3.out)).trans C3.out;have r0:wr.cell? ⟨rb,i * 2,none⟩=some (.int .i64 (Co.bit i)):=by unfold World.cell?; simp only[B6]; exact q0
   have r1:wr.cell? ⟨rb,i * 2+1,none⟩=some (.func (.func (zj i)) #[] #[]):=by unfold World.cell?; simp only[B6]; exact q1
   obtain⟨c0,c1,c2,c3⟩:=ae HJ.out.c;clear q0 q1 B6;go_upto_region 4 with(fail)
   have A8:=(Below.refl wr.heap.size wr).alloc (Nat.le_refl _) (.cells #[.int .i64 (Co.bit i),.func (.func (zj i)) #[] #[]] 131);have A9:=heap_alloc_new wr (.cells #[.int .i64 (Co.bit i),.func (.func (zj i)) #[] #[]] 131);obtain⟨kb,B0⟩:∃ kb,kb=wr.heap.size:=⟨_,rfl⟩
   rw[←B0] at A9 ⊢;have D7:=aa B0;have C4:=aa A9;have B7:=aa ((A8.block _ (af HJ.out.c)).trans HJ.out.c);have B5:=aa ((A8.block _ (af HJ.out.r)).trans HJ.out.r);have A4:=aa (HJ.out.below.trans (A8.mono HJ.out.below.size));have D1:=aa A8;clear A8 A9 B0 r0 r1 c0 c1 c2 c3;generalize World.alloc wr _=w2 at *;have r0:w2.cell? ⟨kb,0,none⟩=some (.int .i64 (Co.bit i)):=by simp[World.cell?,C4.out]
   have r1:w2.cell? ⟨kb,1,none⟩=some (.func (.func (zj i)) #[] #[]):=by simp[World.cell?,C4.out]
   obtain⟨c0,c1,c2,c3⟩:=ae B7.out;go_wp2_with fail
   have A7:=(A4.out.cell (p:=⟨pb,0,none⟩) (World.block_lt_of_cell? w _ C6.out)).trans C6.out;refine(zlm ok i B1 _ p rfl HP.out t _ pb w2 (fun b h=>Nat.lt_of_lt_of_le (C7.out b h) A4.out.size) (HV.out.under A4.out) HA.out A7).mono ?_;rintro e w5 ⟨b5,u,vv,rfl,hu,C0⟩;obtain⟨uop,un,us,up,ul,uc,rfl, -, -, -, -⟩:=dw hu;have A0:Co.fitFrom p t (7 - i) i=(match Co.try1 p i t with|some u=>some u|none=>Co.fitFrom p t (7 - (i+1)) (i+1)):=by
    rw[show 7 - i=(7 - (i+1))+1 by omega,Co.fitFrom];cases Co.try1 p i t<;>rfl
   rw[HJ.out.rest] at A0;have A2:=aa A0;have A5:=aa (And.intro b5 (And.intro hu C0));have C1:=(b5.block _ (af B5.out)).trans B5.out;have C5:=aa C1;have D0:=aa ((b5.block _ (af B7.out)).trans B7.out);clear b5 hu C0 A7 A0 C1 r0 r1 c0 c1 c2 c3;obtain⟨bo,B3⟩:∃ bo,Hid ((Co.try1 p i t).isSome=bo):=⟨_,aa rfl⟩
   rw[B3.out];have A1:=(Below.refl w5.heap.size w5).alloc (Nat.le_refl _) (.cells #[.int .i64 uop,.int .i64 un,.string us,.slice up ul uc] 24);have A6:=aa A1;have A3:=aa ((A1.block _ (af C5.out)).trans C5.out);have D8:=aa ((A1.block _ (af D0.out)).trans D0.out);have D5:=aa (heap_alloc_new w5 (.cells #[.int .i64 uop,.int .i64 un,.string us,.slice up ul uc] 24));clear A1;cases bo with
   |true=>
    obtain⟨x,hx⟩:∃ x,Co.try1 p i t=some x:=Option.isSome_iff_exists.1 B3.out;have C8:=aa (show F=some x by rw[A2.out,hx]);obtain rfl:u=x:=A5.out.2.2 x hx;have HS:=aa (And.intro (bh A3.out (.int .i64 uop) (.int .i64 un) (.string us) (.slice up ul uc)) (jv (w5.alloc (.cells #[.int .i64 uop,.int .i64 un,.string us,.slice up ul uc] 24)) (w.heap.size+1) (.int .i64 uop) (.int .i64 un) (.string us) (.slice up ul uc)));obtain⟨e0,e1,e2,e3⟩:=ae A3.out;obtain⟨n0,n1,n2,n3⟩:=ae D5.out;have f0:∀ o,(w5.alloc (.cells #[.int .i64 uop,.int .i64 un,.string us,.slice up ul uc] 24)).frozen? ⟨w.heap.size+1,o,none⟩=false:=fun o=>Rw.frozen_of A3.out;clear hx;go_wp2_with fail
    obtain⟨⟨B2,B4⟩,hg⟩:=HS.out;generalize World.setCell _ _ _=w9 at *;obtain⟨y0,y1,y2,y3⟩:=ae B2;refine bodyPost_ret (v:=.tuple #[.agg #[.int .i64 uop,.int .i64 un,.string us,.slice up ul uc],.bool true]) (by simp[results,Tryz.results87,go_sem,y0,y1,y2,y3]) rfl ?_;refine⟨((A4.out.trans (A5.out.1.mono A4.out.size)).trans (A6.out.mono (Nat.le_trans A4.out.size A5.out.1.size))).trans (B4 w.heap.size (by omega)),u,_,by rw[C8.out]; rfl,A5.out.2.1.keep (fun b hb hl=>⟨?_,(hg.block b ?_ (fun e=>?_)).trans (A6.out.block b hl)⟩),fun x h=>by rw[C8.out] at h; cases h; rfl⟩
    ·exact hb.imp id (fun h=>Nat.le_trans A4.out.size h)
    ·exact Nat.lt_of_lt_of_le hl A6.out.size
    ·obtain rfl:w.heap.size+1=b:=by simpa using e.symm
     rcases hb with hb|hb
     ·have:=C7.out _ hb; omega
     ·have:=af B5.out; omega
   |false=>
    have hx:Co.try1 p i t=none:=by simpa using B3.out
    have D4:=aa (HJ.out.more (D1.out.trans ((A5.out.1.trans (A6.out.mono A5.out.1.size)).mono D1.out.size)) (j:=i+1) (by rw[A2.out,hx]));clear hx;go_wp2_with fail
    go_roundw;case rel=>exact⟨i+1,by go_num,by omega,D4⟩
    case measure=>simp only[intOf]; omega
  ·obtain rfl:i=7:=by omega
   have C9:=aa (show F=none by rw[←HJ.out.rest]; rfl);have A1:=(Below.refl wr.heap.size wr).alloc (Nat.le_refl _) (.cells #[.int .i64 0,.int .i64 0,.string ⟨#[]⟩,.slice none 0 0] 24);have A6:=aa A1;have A3:=aa ((A1.block _ (af HJ.out.r)).trans HJ.out.r);have HS:=aa (bh A3.out (.int .i64 0) (.int .i64 0) (.string ⟨#[]⟩) (.slice none 0 0));obtain⟨e0,e1,e2,e3⟩:=ae A3.out;have f0:∀ o,(wr.alloc (.cells #[.int .i64 0,.int .i64 0,.string ⟨#[]⟩,.slice none 0 0] 24)).frozen? ⟨w.heap.size+1,o,none⟩=false:=fun o=>Rw.frozen_of A3.out;clear A1 B1;go_wp2_with fail
   obtain⟨B2,B4⟩:=HS.out;generalize World.setCell _ _ _=w9 at *;obtain⟨y0,y1,y2,y3⟩:=ae B2;refine bodyPost_ret (v:=.tuple #[.agg #[.int .i64 0,.int .i64 0,.string ⟨#[]⟩,.slice none 0 0],.bool false]) (by simp[results,Tryz.results87,go_sem,y0,y1,y2,y3]) rfl ?_;exact⟨(HJ.out.below.trans (A6.out.mono HJ.out.below.size)).trans (B4 w.heap.size (by omega)),Co.leaf 0 0,_,by rw[C9.out]; rfl,rz (by unfold I64; omega) (by unfold I64; omega),fun x h=>by rw[C9.out] at h; cases h⟩
end
end Go.Proofs.YtanlmbbalamgkaaGreatDoor

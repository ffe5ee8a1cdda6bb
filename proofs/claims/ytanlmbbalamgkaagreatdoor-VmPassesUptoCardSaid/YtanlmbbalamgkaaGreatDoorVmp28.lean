/- Proved: lemmas and contracts of the functions that the law reaches, part 28 of 35: GfReck. Conditions: as each states. -/
import Derived.Shelf.SlMaps.Clone
import Derived.Test.YtanlmbbalamgkaaGreatDoorVmp23
namespace Go.Proofs.YtanlmbbalamgkaaGreatDoor
set_option linter.unusedVariables false
set_option linter.unusedSimpArgs false
section
open Go.RowKit
open Rw
set_option maxRecDepth 100000
namespace Gf
structure UnkAt (mb ub:Nat)(u:List Nat)(W:World):Prop where
 at':∃ vu fs,W.heap[ub]? = some (.cells #[vu] 141 (0,0))∧W.ownsRow (mb+1) 1 1 vu u.length fs∧∀(i:Nat) p,u[i]? = some p→∃ f,fs[i]? = some f∧JumpFn mb W f p
 lt:mb<ub
def UnkO (mb:Nat)(ub:Option Nat)(u:List Nat)(W:World):Prop:=∀ b,ub=some b→UnkAt mb b u W
def my (ub:Option Nat):Value:=match ub with|none=>.pointer none|some b=>.pointer (some ⟨b,0,none⟩)
theorem am {mb:Nat}{u:List Nat}{W:World}:UnkO mb none u W:=fun b e=>by cases e
theorem UnkO.below {mb:Nat}{ub:Option Nat}{u:List Nat}{W W':World}(h:UnkO mb ub u W)(b:Below W.heap.size W W'):UnkO mb ub u W':=by
 intro k hk;obtain⟨⟨vu,fs,h1,h2,h3⟩,h4⟩:=h k hk;exact⟨⟨vu,fs,ag b h1,World.ownsRow.kept h2 (grown_of_below b none) (by cases hv:vu.ownBlock<;>simp),fun i p hp=>by obtain⟨f,hf,hj⟩:=h3 i p hp; exact⟨f,hf,hj.below b⟩⟩,h4⟩
theorem UnkO.kp {mb kb:Nat}{ub:Option Nat}{u:List Nat}{W W':World}(h:UnkO mb ub u W)(k:KpG mb kb none W W'):UnkO mb ub u W':=by
 intro b hb;obtain⟨⟨vu,fs,h1,h2,h3⟩,h4⟩:=h b hb;refine⟨⟨vu,fs,k.box (by omega) (fun u e=>by cases e) (by decide) (by decide) (by decide) h1,⟨h2.1,?_⟩,fun i p hp=>?_⟩,h4⟩
 ·rcases h2.2 with h5|⟨g,cap,cur,e1,e2,e3,e4⟩
  ·exact .inl h5
  ·exact .inr ⟨g,cap,cur,e1,e2,k.box (by omega) (fun u e=>by cases e) (by decide) (by decide) (by decide) e3,e4⟩
 ·obtain⟨f,hf,hj⟩:=h3 i p hp;exact⟨f,hf,hj.kp k (fun u e=>by cases e)⟩
theorem UnkO.box {mb:Nat}{ub:Option Nat}{u:List Nat}{W:World}(h:UnkO mb ub u W):∀ b,ub=some b→∃ cur,W.heap[b]? = some (.cells cur 141 (0,0)):=fun b e=>by
 obtain⟨⟨vu,fs,h1, -⟩, -⟩:=h b e;exact⟨_,h1⟩
set_option maxHeartbeats 2000000 in
theorem zru (b n:Nat)(k:Val→Option Int)(w:World)(h:Kn w b n k):
  Calls Tryz.prog 171 #[.map (some b)] w fun e w'=>e=.returned (.map (some w.heap.size))∧Kn w' w.heap.size n k∧Below w.heap.size w w':=by
 have A2:=h.lt;obtain⟨D,⟨es,clock,hb,F,hs,hD⟩,hk⟩:=h;have hq:=fun w=>run_eql_map_nil_sl (P:=Tryz.prog) w 64 _ _ (some b) Tryz.underlying64;have A0:∀ w':World,w'=w.alloc (.map es clock)→Kn w' w.heap.size n k∧Below w.heap.size w w':=by
  rintro w' rfl;exact⟨⟨D,⟨es,clock,(MapKept.heap_alloc w _).1,F,hs,hD⟩,hk⟩,(Below.refl _ w).alloc (Nat.le_refl _) _⟩
 have HF:=aa A0;have A1:=aa hb;clear A0 hb F hs hD hk;go_enter Tryz.func171,Tryz.ntmps171;go_wp2_with fail
 rw[run_callFunc_extern Tryz.func181 (by kernel_rfl) (by kernel_rfl) (by kernel_rfl) (e:=Extern.MapsClone.clone) (by kernel_rfl),run_maps_clone_sl w 64 A1.out];simp only[Result.andThen];rw[Oper.upon_value];go_wp2_with fail
 rw[run_typeAssert_map_sl _ 64 20 _ _ _ Tryz.underlying64];simp only[Result.andThen];rw[Oper.upon_value];go_wp2_with fail
 go_ret;exact⟨rfl,HF.out _ rfl⟩
def Does (mb kb:Nat)(ub:Option Nat)(sh:Bool)(m:Mk)(u:List Nat)(w:World)(e:Ending)(w':World):Prop:=(∃ r,e=.returned r)∧Lays mb kb ub sh m w w'∧UnkO mb ub u w'
set_option maxHeartbeats 2000000 in
theorem om (mb kb:Nat)(ub:Option Nat)(sh:Bool)(m m2:Mk)(u2:List Nat)(vw vi vj:Value)(f:FuncId)(caps:Array Value)(w:World)(h:MkAt mb sh m vw vi vj kb w)
  (A9:∀ w,(callFunc f caps).run Tryz.prog w=.ok (.enter f caps) w) (hm:m.puts≤m2.puts)
  (hd:∀ w2,Below w.heap.size w w2→Calls Tryz.prog f caps w2 (Does mb kb ub sh m2 u2 w2)):
  Calls Tryz.prog 147 #[.pointer (some ⟨mb,0,none⟩),.func (.func f) #[] caps] w (Does mb kb ub sh (m2.back m.known) u2 w):=by
 obtain⟨n,A5,A2⟩:=h.kn;have c6:=ab h.box 6 _ rfl;have B2:=aa (zru kb n m.known w A2);have HD:=aa hd;have B3:=aa A9;have HH:=aa h;have HN:=aa (Nat.le_trans A5 hm);have B1:=aa A2.lt;clear h A5 A2 hd hm;go_enter Tryz.func147,Tryz.ntmps147;go_wp2_with fail
 refine B2.out.mono ?_;rintro e w2 ⟨rfl,A6,b2⟩;have B0:=aa A6;have A7:=aa b2;clear A6 b2 c6;go_wp2_with fail
 refine(HD.out w2 A7.out).mono ?_;rintro e w3 ⟨⟨r,rfl⟩,⟨⟨vw',vi',vj',kb',h3,A8⟩,A1⟩,A4⟩;have A3:=aa (show Kn w3 w.heap.size n m.known by
  obtain⟨D,⟨es,clock,e1,e2⟩,e3⟩:=B0.out;exact Kn.same ⟨D,⟨es,clock,e1,e2⟩,e3⟩ (A1.map _ es clock (by have:=B1.out; omega) e1))
 have c6:=ab h3.box 6 _ rfl;have f6:=frozen_of (o:=6) h3.box;have HF:=aa (MkAt.reset (m':=m2.back m.known) (kb':=w.heap.size) 6 (.map (some w.heap.size)) h3.box rfl h3.rw h3.ri h3.rj ⟨n,HN.out,A3.out⟩ HH.out.lt);have A0:=aa (And.intro ((KpG.of (mb:=mb) (kb:=kb) (ub:=ub) A7.out (Nat.le_of_lt HH.out.lt)).trans A1 (.inl rfl)) (And.intro A4 (zbr (kb:=kb) (ub:=none) 6 (.map (some w.heap.size)) h3.box (by rintro _ (rfl|rfl)<;>rfl))));clear h3 A8 A1 A4;go_wp2_with fail
 refine bodyPost_end (results_none rfl _ _ _) rfl ?_;exact⟨⟨_,rfl⟩,⟨⟨_,_,_,_,HF.out,.inr (Nat.le_refl _)⟩,A0.out.1.trans (A0.out.2.2.wk) (.inl rfl)⟩,A0.out.2.1.kp A0.out.2.2⟩
def zni (i:Nat):Int:=if(6≤i∧i≤14) then(i:Int) - 2 else if(17≤i∧i≤21) then(i:Int) - 4 else 0
def plains:Array Value:=((List.range 22).map fun i=>Value.int .i64 (zni i)).toArray
theorem zkr:plains.size=22:=by simp[plains]
theorem zng:plains.all (·.oneCell')=true:=by simp[plains,Value.oneCell']
theorem zks (i:Nat)(hi:i<22):plains[i]? = some (.int .i64 (zni i)):=by simp[plains,hi]
theorem zpw (k:Nat)(h:(6≤k∧k≤14)∨(17≤k∧k≤21)):plains[k]? = some (.int .i64 (ai k)):=by
 rw[zks k (by omega)];congr 2
 unfold zni ai;rcases h with h|h
 ·rw[if_pos h,if_pos (by omega)]
 ·rw[if_neg (by omega),if_pos h,if_neg (by omega)]
set_option maxHeartbeats 2000000 in
theorem zgr (op:Int)(w:World)(h:(6≤op∧op≤14)∨(17≤op∧op≤21)):Calls Tryz.prog 146 #[.int .i64 op] w (ar (.int .i64 (ai op)) w):=by
 obtain⟨k,rfl⟩:∃ k:Nat,op=k:=⟨op.toNat,by omega⟩
 have hk:(6≤k∧k≤14)∨(17≤k∧k≤21):=by omega
 have hc:=zpw k hk;have g3:(0:Int)≤(k:Int)∧(k:Int)<22:=by omega
 have g4:k<22:=by omega
 obtain⟨r,hr⟩:∃ r,Hid (ai k=r):=⟨_,aa rfl⟩
 rw[hr.out] at hc ⊢;clear h hk;go_enter Tryz.func146,Tryz.ntmps146;go_wp2_with (first|(refine wpList_build rfl 182 _ rfl (by kernel_rfl) ?_; refine zag ?_)|fail)
 refine aa ?_;generalize hg:Option.getD (Program.built _ _ _) _=cs;obtain rfl:cs=plains:=by
  rw[←hg];kernel_rfl
 clear hg;go_wp2_with fail
 rw[ma w plains _ _ 22 zkr rfl zng];generalize hs:World.setRow _ _ _=ws;have hb:=aa (show Below w.heap.size w ws by rw[←hs]; exact mz w _ _);have A0:ws.cell? ⟨w.heap.size,k,none⟩=some (.int .i64 r):=by rw[←hs,zk]; exact hc
 clear hs hc;go_wp2_with fail
 go_ret;exact⟨rfl,hb.out⟩
end Gf
end
end Go.Proofs.YtanlmbbalamgkaaGreatDoor

/- Proved: lemmas and contracts of the functions that the law reaches, part 30 of 36: GfReck. Conditions: as each states. -/
import Derived.Shelf.SlMaps.Clone
import Derived.Test.YtanlmbbalamgkaaGreatDoorVmi23
namespace Go.Proofs.YtanlmbbalamgkaaGreatDoor
set_option linter.unusedVariables false
set_option linter.unusedSimpArgs false
section
open Go.RowKit
open Rw
set_option maxRecDepth 100000
namespace Gf
structure UnkAt (mb ub:Nat)(u:List Nat)(W:World):Prop where
 at':∃ vu fs,W.heap[ub]? = some (.cells #[vu] 141 (0,0))∧W.ownsRow (mb+1) 1 1 vu u.length fs∧∀(i:Nat) p,u[i]? = some p→∃ f,fs[i]? = some f∧JumpFn mb W f p
 lt:mb<ub
def UnkO (mb:Nat)(ub:Option Nat)(u:List Nat)(W:World):Prop:=∀ b,ub=some b→UnkAt mb b u W
def uptr (ub:Option Nat):Value:=match ub with|none=>.pointer none|some b=>.pointer (some ⟨b,0,none⟩)
theorem zag {mb:Nat}{u:List Nat}{W:World}:UnkO mb none u W:=fun b e=>by cases e
theorem UnkO.below {mb:Nat}{ub:Option Nat}{u:List Nat}{W W':World}(h:UnkO mb ub u W)(b:Below W.heap.size W W'):UnkO mb ub u W':=by
 intro k hk
 obtain⟨⟨vu,fs,h1,h2,h3⟩,h4⟩:=h k hk
 exact⟨⟨vu,fs,zad b h1,World.ownsRow.kept h2 (grown_of_below b none) (by cases hv:vu.ownBlock<;>simp),fun i p hp=>by obtain⟨f,hf,hj⟩:=h3 i p hp; exact⟨f,hf,hj.below b⟩⟩,h4⟩
theorem UnkO.kp {mb kb:Nat}{ub:Option Nat}{u:List Nat}{W W':World}(h:UnkO mb ub u W)(k:KpG mb kb none W W'):UnkO mb ub u W':=by
 intro b hb
 obtain⟨⟨vu,fs,h1,h2,h3⟩,h4⟩:=h b hb
 refine⟨⟨vu,fs,k.box (by omega) (fun u e=>by cases e) (by decide) (by decide) (by decide) h1,⟨h2.1,?_⟩,fun i p hp=>?_⟩,h4⟩
 ·rcases h2.2 with h5|⟨g,cap,cur,e1,e2,e3,e4⟩
  ·exact .inl h5
  ·exact .inr ⟨g,cap,cur,e1,e2,k.box (by omega) (fun u e=>by cases e) (by decide) (by decide) (by decide) e3,e4⟩
 ·obtain⟨f,hf,hj⟩:=h3 i p hp
  exact⟨f,hf,hj.kp k (fun u e=>by cases e)⟩
theorem UnkO.box {mb:Nat}{ub:Option Nat}{u:List Nat}{W:World}(h:UnkO mb ub u W):∀ b,ub=some b→∃ cur,W.heap[b]? = some (.cells cur 141 (0,0)):=fun b e=>by
 obtain⟨⟨vu,fs,h1, -⟩, -⟩:=h b e
 exact⟨_,h1⟩
set_option maxHeartbeats 2000000 in
theorem qam (b n:Nat)(k:Val→Option Int)(w:World)(h:Kn w b n k):
  Calls Tryz.prog 171 #[.map (some b)] w fun e w'=>e=.returned (.map (some w.heap.size))∧Kn w' w.heap.size n k∧Below w.heap.size w w':=by
 have hlt:=h.lt
 obtain⟨D,⟨es,clock,hb,F,hs,hD⟩,hk⟩:=h
 have hq:=fun w=>run_eql_map_nil_sl (P:=Tryz.prog) w 64 _ _ (some b) Tryz.underlying64
 have hfin:∀ w':World,w'=w.alloc (.map es clock)→Kn w' w.heap.size n k∧Below w.heap.size w w':=by
  rintro w' rfl
  exact⟨⟨D,⟨es,clock,(MapKept.heap_alloc w _).1,F,hs,hD⟩,hk⟩,(Below.refl _ w).alloc (Nat.le_refl _) _⟩
 have HF:=hid' hfin
 have HBK:=hid' hb
 clear hfin hb F hs hD hk
 go_enter Tryz.func171,Tryz.ntmps171
 go_wp2_with fail
 rw[run_callFunc_extern Tryz.func181 (by kernel_rfl) (by kernel_rfl) (by kernel_rfl) (e:=Extern.MapsClone.clone) (by kernel_rfl),run_maps_clone_sl w 64 HBK.out]
 simp only[Result.andThen]
 rw[Oper.upon_value]
 go_wp2_with fail
 rw[run_typeAssert_map_sl _ 64 20 _ _ _ Tryz.underlying64]
 simp only[Result.andThen]
 rw[Oper.upon_value]
 go_wp2_with fail
 go_ret
 exact⟨rfl,HF.out _ rfl⟩
def Does (mb kb:Nat)(ub:Option Nat)(sh:Bool)(m:Mk)(u:List Nat)(w:World)(e:Ending)(w':World):Prop:=(∃ r,e=.returned r)∧Lays mb kb ub sh m w w'∧UnkO mb ub u w'
set_option maxHeartbeats 2000000 in
theorem zfp (mb kb:Nat)(ub:Option Nat)(sh:Bool)(m m2:Mk)(u2:List Nat)(vw vi vj:Value)(f:FuncId)(caps:Array Value)(w:World)(h:MkAt mb sh m vw vi vj kb w)
  (hen:∀ w,(callFunc f caps).run Tryz.prog w=.ok (.enter f caps) w) (hm:m.puts≤m2.puts)
  (hd:∀ w2,Below w.heap.size w w2→Calls Tryz.prog f caps w2 (Does mb kb ub sh m2 u2 w2)):
  Calls Tryz.prog 147 #[.pointer (some ⟨mb,0,none⟩),.func (.func f) #[] caps] w (Does mb kb ub sh (m2.back m.known) u2 w):=by
 obtain⟨n,hn1,hn2⟩:=h.kn
 have c6:=zaa h.box 6 _ rfl
 have HCL:=hid' (qam kb n m.known w hn2)
 have HD:=hid' hd
 have HEN:=hid' hen
 have HH:=hid' h
 have HN:=hid' (Nat.le_trans hn1 hm)
 have HKB:=hid' hn2.lt
 clear h hn1 hn2 hd hm
 go_enter Tryz.func147,Tryz.ntmps147
 go_wp2_with fail
 refine HCL.out.mono ?_
 rintro e w2 ⟨rfl,hkc,b2⟩
 have HKC:=hid' hkc
 have HB2:=hid' b2
 clear hkc b2 c6
 go_wp2_with fail
 refine(HD.out w2 HB2.out).mono ?_
 rintro e w3 ⟨⟨r,rfl⟩,⟨⟨vw',vi',vj',kb',h3,hk3⟩,kp3⟩,hu3⟩
 have HKC3:=hid' (show Kn w3 w.heap.size n m.known by
  obtain⟨D,⟨es,clock,e1,e2⟩,e3⟩:=HKC.out
  exact Kn.same ⟨D,⟨es,clock,e1,e2⟩,e3⟩ (kp3.map _ es clock (by have:=HKB.out; omega) e1))
 have c6:=zaa h3.box 6 _ rfl
 have f6:=frozen_of (o:=6) h3.box
 have HF:=hid' (MkAt.reset (m':=m2.back m.known) (kb':=w.heap.size) 6 (.map (some w.heap.size)) h3.box rfl h3.rw h3.ri h3.rj ⟨n,HN.out,HKC3.out⟩ HH.out.lt)
 have HKP:=hid' (And.intro ((KpG.of (mb:=mb) (kb:=kb) (ub:=ub) HB2.out (Nat.le_of_lt HH.out.lt)).trans kp3 (.inl rfl)) (And.intro hu3 (zmh (kb:=kb) (ub:=none) 6 (.map (some w.heap.size)) h3.box (by rintro _ (rfl|rfl)<;>rfl))))
 clear h3 hk3 kp3 hu3
 go_wp2_with fail
 refine bodyPost_end (results_none rfl _ _ _) rfl ?_
 exact⟨⟨_,rfl⟩,⟨⟨_,_,_,_,HF.out,.inr (Nat.le_refl _)⟩,HKP.out.1.trans (HKP.out.2.2.wk) (.inl rfl)⟩,HKP.out.2.1.kp HKP.out.2.2⟩
def zwu (i:Nat):Int:=if(6≤i∧i≤14) then(i:Int) - 2 else if(17≤i∧i≤21) then(i:Int) - 4 else 0
def plains:Array Value:=((List.range 22).map fun i=>Value.int .i64 (zwu i)).toArray
theorem zum:plains.size=22:=by simp[plains]
theorem zws:plains.all (·.oneCell')=true:=by simp[plains,Value.oneCell']
theorem zun (i:Nat)(hi:i<22):plains[i]? = some (.int .i64 (zwu i)):=by simp[plains,hi]
theorem zys (k:Nat)(h:(6≤k∧k≤14)∨(17≤k∧k≤21)):plains[k]? = some (.int .i64 (zah k)):=by
 rw[zun k (by omega)]
 congr 2
 unfold zwu zah
 rcases h with h|h
 ·rw[if_pos h,if_pos (by omega)]
 ·rw[if_neg (by omega),if_pos h,if_neg (by omega)]
set_option maxHeartbeats 2000000 in
theorem zqv (op:Int)(w:World)(h:(6≤op∧op≤14)∨(17≤op∧op≤21)):Calls Tryz.prog 146 #[.int .i64 op] w (zaj (.int .i64 (zah op)) w):=by
 obtain⟨k,rfl⟩:∃ k:Nat,op=k:=⟨op.toNat,by omega⟩
 have hk:(6≤k∧k≤14)∨(17≤k∧k≤21):=by omega
 have hc:=zys k hk
 have g3:(0:Int)≤(k:Int)∧(k:Int)<22:=by omega
 have g4:k<22:=by omega
 obtain⟨r,hr⟩:∃ r,Hid (zah k=r):=⟨_,hid' rfl⟩
 rw[hr.out] at hc ⊢
 clear h hk
 go_enter Tryz.func146,Tryz.ntmps146
 go_wp2_with (first|(refine wpList_build rfl 182 _ rfl (by kernel_rfl) ?_; refine zlc ?_)|fail)
 refine hid' ?_
 generalize hg:Option.getD (Program.built _ _ _) _=cs
 obtain rfl:cs=plains:=by
  rw[←hg]
  kernel_rfl
 clear hg
 go_wp2_with fail
 rw[zem w plains _ _ 22 zum rfl zws]
 generalize hs:World.setRow _ _ _=ws
 have hb:=hid' (show Below w.heap.size w ws by rw[←hs]; exact zez w _ _)
 have hcell:ws.cell? ⟨w.heap.size,k,none⟩=some (.int .i64 r):=by rw[←hs,zko]; exact hc
 clear hs hc
 go_wp2_with fail
 go_ret
 exact⟨rfl,hb.out⟩
end Gf
end
end Go.Proofs.YtanlmbbalamgkaaGreatDoor

/- Proved: lemmas and contracts of the functions that the law reaches, part 9 of 35: GenNum, GenText, GenWait, GenInstr, GenRight, GenRight2. Conditions: as each states. -/
import Derived.Deep.RegionWith
import Derived.StillTailTactics
import Derived.Deep.DeepCutAuto
import Derived.Test.YtanlmbbalamgkaaGreatDoorVmp8
namespace Go.Proofs.YtanlmbbalamgkaaGreatDoor
set_option linter.unusedVariables false
set_option linter.unusedSimpArgs false
section
open Go.RowKit
open Gen
set_option maxRecDepth 100000
def zwo (W:World)(b:Nat)(r:Int)(vw vi:Value):Prop:=W.heap[b]? = some (.cells #[.int .i64 r,vw,vi] 29 (0,0))
def zwl (W:World)(b:Nat)(x:Gen.Ix):Prop:=W.heap[b]? = some (.cells #[.int .i64 x.op,.int .i64 x.a,.int .i64 x.b,.int .i64 x.c,.int .i64 x.n,.string x.s,.int .i64 x.to] 73 (0,0))
theorem zgm (W:World)(o1 o2:Obj):((W.alloc o1).alloc o2).heap[W.heap.size]? = some o1∧((W.alloc o1).alloc o2).heap[(W.alloc o1).heap.size]? = some o2∧Below W.heap.size W ((W.alloc o1).alloc o2):=by
 refine⟨?_,heap_alloc_new _ _,((Below.refl W.heap.size W).alloc (Nat.le_refl _) o1).alloc (by simp) o2⟩;rw[Below.heap_alloc _ _ _ (by simp)];exact heap_alloc_new W o1
theorem ab {W:World}{b:Nat}{xs:Array Value}{t:TypeId}(h:W.heap[b]? = some (.cells xs t (0,0))):∀ i v,xs[i]? = some v→W.cell? ⟨b,i,none⟩=some v:=fun i v hv=>by simp[World.cell?,h,hv]
end
section
open Go.RowKit
open Gen
set_option maxRecDepth 100000
def zzx (W:World)(b:Nat)(x:Gen.Wt):Prop:=W.heap[b]? = some (.cells #[.int .i64 x.entry,.int .i64 x.day,.string x.label,.int .i64 x.first,.int .i64 x.second] 76 (0,0))
theorem ag {W W':World}{b:Nat}{o:Obj}(B:Below W.heap.size W W')(h:W.heap[b]? = some o):W'.heap[b]? = some o:=(B.block b (af h)).trans h
end
section
open Go.RowKit
open Gen
set_option maxRecDepth 100000
structure ISt (w:World)(b0 b1:Nat)(vw vi:Value)(c:Gen.Cd)(x:Gen.Ix)(W:World):Prop where
 bel:Below w.heap.size w W
 cb:zwo W b0 c.regs vw vi
 xb:zwl W b1 x
 cd:CdAt W (.agg #[.int .i64 c.regs,vw,vi]) c
theorem ISt.below {w:World}{b0 b1:Nat}{vw vi:Value}{c:Gen.Cd}{x:Gen.Ix}{W W':World}(h:ISt w b0 b1 vw vi c x W)(B:Below W.heap.size W W'):ISt w b0 b1 vw vi c x W':=
 ⟨Below.more h.bel B,ag B h.cb,ag B h.xb,h.cd.below B⟩
theorem zxp (c:Gen.Cd)(k:Int)(x:Gen.Ix):insOk c k x=(isOp x.op && (fld (eg x.op) x.a c.regs && (fld (fk x.op) x.b c.regs && (fld (gg x.op) x.c c.regs && (el c k x && (bu x && uj c k x)))))):=by
 unfold insOk isOp;generalize decide (1≤x.op)=p1;generalize decide (x.op≤30)=p2;generalize fld (eg x.op) x.a c.regs=p3;generalize fld (fk x.op) x.b c.regs=p4;generalize fld (gg x.op) x.c c.regs=p5;generalize uj c k x=p6;generalize el c k x=p7;generalize bu x=p8;cases p1<;>cases p2<;>cases p3<;>cases p4<;>cases p5<;>cases p6<;>cases p7<;>cases p8<;>rfl
end
section
open Go.RowKit
open Gen
set_option maxRecDepth 100000
structure RSt (w:World)(b0:Nat)(vw vi:Value)(c:Gen.Cd)(W:World):Prop where
 bel:Below w.heap.size w W
 cb:zwo W b0 c.regs vw vi
 cd:CdAt W (.agg #[.int .i64 c.regs,vw,vi]) c
theorem RSt.below {w:World}{b0:Nat}{vw vi:Value}{c:Gen.Cd}{W W':World}(h:RSt w b0 vw vi c W)(B:Below W.heap.size W W'):RSt w b0 vw vi c W':=
 ⟨Below.more h.bel B,ag B h.cb,h.cd.below B⟩
theorem znf {c:Gen.Cd}(h:c.regs<0∨256<c.regs∨250<c.waits.length∨c.ins.length<1∨16384<c.ins.length∨ml c.ins≠30):right c=false:=by
 cases hr:right c with
 |false=>rfl
 |true=>obtain⟨h1,h2,h3,h4,h5,_⟩:=du hr; omega
theorem zne {c:Gen.Cd}{x:Gen.Wt}{i:Nat}(hx:c.waits[i]? = some x)(h:kz c x=false):right c=false:=by
 cases hr:right c with
 |false=>rfl
 |true=>obtain⟨_,_,_,_,_,h6,_⟩:=du hr; rw[h6 x (List.mem_of_getElem? hx)] at h; cases h
theorem zpm {c:Gen.Cd}{x:Gen.Ix}{i:Nat}(hx:c.ins[i]? = some x)(h:insOk c (i:Int) x=false):right c=false:=by
 cases hr:right c with
 |false=>rfl
 |true=>obtain⟨_,_,_,_,_,_,h7⟩:=du hr; rw[h7 i x hx] at h; cases h
theorem zpn {c:Gen.Cd}(h1:0≤c.regs∧c.regs≤256)(h2:c.waits.length≤250)(h3:1≤c.ins.length)(h4:c.ins.length≤16384)(h5:ml c.ins=30)(h6:∀(i:Nat) x,c.waits[i]? = some x→kz c x=true)(h7:∀(i:Nat) x,c.ins[i]? = some x→insOk c (i:Int) x=true):right c=true:=by
 unfold right within;simp only[Bool.and_eq_true,decide_eq_true_eq,List.all_eq_true];refine⟨h1,h2,h3,h4,h5,fun x hx=>?_,fun p hp=>?_⟩
 ·obtain⟨i,hi⟩:=List.getElem?_of_mem hx;exact h6 i x hi
 ·obtain⟨i,hi⟩:=List.getElem?_of_mem hp;rw[List.getElem?_zipIdx] at hi;obtain⟨y,hy,rfl⟩:=Option.map_eq_some_iff.1 hi;simpa using h7 i y hy
theorem zqm {l:List Gen.Ix}{x:Gen.Ix}(h:l[l.length - 1]? = some x):ml l=x.op:=by
 unfold ml; rw[List.getLast?_eq_getElem?,h]
end
section
open Go.RowKit
open Gen
set_option maxRecDepth 100000
theorem CdAt.insCells {W:World}{r:Int}{vw:Value}{pi:Option Addr}{n ci:Nat}{c:Gen.Cd}(h:CdAt W (.agg #[.int .i64 r,vw,.slice pi n ci]) c){i:Nat}{x:Gen.Ix}(hx:c.ins[i]? = some x):∃ b off,pi=some ⟨b,off,none⟩∧W.cell? ⟨b,off+i * 7,none⟩=some (.int .i64 x.op):=by
 obtain⟨vw',vi',e,_,⟨p,cc,e2,_,A0⟩,_⟩:=h;simp only[Value.agg.injEq,Array.mk.injEq,List.cons.injEq,and_true] at e;obtain⟨_,_,e3⟩:=e;rw[e2] at e3;obtain⟨rfl,_,_⟩:=Value.slice.inj e3;obtain⟨b,off,e4,_,⟨h0,_⟩,_⟩:=A0 i x hx;exact⟨b,off,e4,h0⟩
theorem CdAt.waitCells {W:World}{r:Int}{vi:Value}{pw:Option Addr}{n cw:Nat}{c:Gen.Cd}(h:CdAt W (.agg #[.int .i64 r,.slice pw n cw,vi]) c){i:Nat}{x:Gen.Wt}(hx:c.waits[i]? = some x):∃ b off,pw=some ⟨b,off,none⟩∧(W.cell? ⟨b,off+i * 5,none⟩=some (.int .i64 x.entry)∧W.cell? ⟨b,off+i * 5+1,none⟩=some (.int .i64 x.day)∧W.cell? ⟨b,off+i * 5+2,none⟩=some (.string x.label)∧W.cell? ⟨b,off+i * 5+3,none⟩=some (.int .i64 x.first)∧W.cell? ⟨b,off+i * 5+4,none⟩=some (.int .i64 x.second))∧WtFits x:=by
 obtain⟨vw',vi',e,⟨p,cc,e2,_,A1⟩,_,_⟩:=h;simp only[Value.agg.injEq,Array.mk.injEq,List.cons.injEq,and_true] at e;obtain⟨_,e3,_⟩:=e;rw[e2] at e3;obtain⟨rfl,_,_⟩:=Value.slice.inj e3;obtain⟨b,off,e4,_,A0,hf⟩:=A1 i x hx;exact⟨b,off,e4,A0,hf⟩
end
end Go.Proofs.YtanlmbbalamgkaaGreatDoor

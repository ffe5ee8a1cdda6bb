/- Proved: lemmas and contracts of the functions that the law reaches, part 10 of 36: FeedMem. Conditions: as each states. -/
import Derived.Sort.Walk0
import Derived.Test.YtanlmbbalamgkaaGreatDoorVmi8
namespace Go.Proofs.YtanlmbbalamgkaaGreatDoor
set_option linter.unusedVariables false
set_option linter.unusedSimpArgs false
section
open Go.RowKit
namespace Fd
abbrev Feed:=ByteArray × List (Int × Int)
def lt (a b:ByteArray):Bool:=Op.bytesLess a.toList b.toList
theorem lt_trans {a b c:ByteArray}(h:lt a b=true)(h2:lt b c=true):lt a c=true:=by
 unfold lt at *
 rw[bytesLess_eq] at *
 rw[decide_eq_true_eq] at *
 exact List.lt_trans h h2
structure StampOk (l:List (Int × Int))(k:Nat)(s:Int × Int):Prop where
 day:0≤s.1∧s.1≤73048
 up:∀ j,k=j+1→∀ u,l[j]? = some u→u.1<s.1
 num:s.2=Num.clamp s.2
structure FeedOk (F:List Feed)(i:Nat)(f:Feed):Prop where
 name:Led.isName f.1=true
 rise:∀ j,i=j+1→∀ g,F[j]? = some g→lt g.1 f.1=true
 len:f.2.length≤4096
 stamps:∀ k s,f.2[k]? = some s→StampOk f.2 k s
def Ok (F:List Feed):Prop:=F.length≤64∧∀ i f,F[i]? = some f→FeedOk F i f
open Classical in
noncomputable def right (F:List Feed):Bool:=decide (Ok F)
open Classical in
theorem right_yes {F:List Feed}(h:Ok F):right F=true:=by unfold right; exact decide_eq_true h
open Classical in
theorem right_no {F:List Feed}(h:¬Ok F):right F=false:=by unfold right; exact decide_eq_false h
open Classical in
theorem right_ok {F:List Feed}(h:right F=true):Ok F:=by unfold right at h; exact of_decide_eq_true h
def qgj:Feed:=(⟨#[]⟩,[])
def at' (F:List Feed)(i:Nat):Feed:=(F[i]?).getD qgj
def stampAt (l:List (Int × Int))(k:Nat):Int × Int:=(l[k]?).getD (0,0)
theorem rises {F:List Feed}(h:Ok F):∀(b a:Nat),a<b→b<F.length→lt (at' F a).1 (at' F b).1=true:=by
 intro b
 induction b with
 |zero=>intro a h1; omega
 |succ b ih=>
  intro a h1 h2
  have hb:F[b+1]? = some (at' F (b+1)):=by unfold at'; rw[List.getElem?_eq_getElem h2]; rfl
  have hb0:F[b]? = some (at' F b):=by unfold at'; rw[List.getElem?_eq_getElem (by omega)]; rfl
  have hs:=(h.2 _ _ hb).rise b rfl _ hb0
  rcases(by omega:a<b∨a=b) with h3|rfl
  ·exact lt_trans (ih a h3 (by omega)) hs
  ·exact hs
theorem risesK {F:List Feed}{f:Feed}{i:Nat}(h:Ok F)(hi:F[i]? = some f):∀(b a:Nat),a<b→b<f.2.length→(stampAt f.2 a).1<(stampAt f.2 b).1:=by
 intro b
 induction b with
 |zero=>intro a h1; omega
 |succ b ih=>
  intro a h1 h2
  have hb:f.2[b+1]? = some (stampAt f.2 (b+1)):=by unfold stampAt; rw[List.getElem?_eq_getElem h2]; rfl
  have hb0:f.2[b]? = some (stampAt f.2 b):=by unfold stampAt; rw[List.getElem?_eq_getElem (by omega)]; rfl
  have hs:=((h.2 _ _ hi).stamps _ _ hb).up b rfl _ hb0
  rcases(by omega:a<b∨a=b) with h3|rfl
  ·have:=ih a h3 (by omega); omega
  ·exact hs
def place (F:List Feed)(s:ByteArray):Nat:=(List.range F.length).countP fun i=>!(!lt (at' F i).1 s)
def upto (l:List (Int × Int))(d:Int):Nat:=(List.range l.length).countP fun k=>!(decide (d<(stampAt l k).1))
def tells (F:List Feed)(day:Int)(s:ByteArray)(ago:Int):Option Int:=
 match F[place F s]? with
 |none=>none
 |some f=>if f.1=s then(if upto f.2 (day - ago)=0 then none else some (stampAt f.2 (upto f.2 (day - ago) - 1)).2) else none
theorem place_le (F:List Feed)(s:ByteArray):place F s≤F.length:=by
 have:=List.countP_le_length (p:=fun i=>!(!lt (at' F i).1 s)) (l:=List.range F.length)
 rwa [List.length_range] at this
theorem upto_le (l:List (Int × Int))(d:Int):upto l d≤l.length:=by
 have:=List.countP_le_length (p:=fun k=>!(decide (d<(stampAt l k).1))) (l:=List.range l.length)
 rwa [List.length_range] at this
theorem tells_none {F:List Feed}{s:ByteArray}(h:F[place F s]? = none)(day ago:Int):tells F day s ago=none:=by unfold tells; rw[h]
theorem tells_other {F:List Feed}{s:ByteArray}{f:Feed}(h:F[place F s]? = some f)(hn:¬f.1=s)(day ago:Int):tells F day s ago=none:=by unfold tells; rw[h]; exact if_neg hn
theorem tells_early {F:List Feed}{s:ByteArray}{f:Feed}(h:F[place F s]? = some f)(hn:f.1=s){day ago:Int}(hu:upto f.2 (day - ago)=0):tells F day s ago=none:=by unfold tells; rw[h]; show(if f.1=s then _ else _)=_; rw[if_pos hn,if_pos hu]
theorem tells_some {F:List Feed}{s:ByteArray}{f:Feed}(h:F[place F s]? = some f)(hn:f.1=s){day ago:Int}{k:Nat}(hu:upto f.2 (day - ago)=k+1):tells F day s ago=some (stampAt f.2 k).2:=by
 unfold tells; rw[h]; show(if f.1=s then _ else _)=_; rw[if_pos hn,hu,if_neg (by omega)]; rfl
end Fd
def StampsAt (W:World)(v:Value)(l:List (Int × Int)):Prop:=∃ p c,v=.slice p l.length c∧(l.length≤c∧c≤maxLen)∧∀(i:Nat) (x:Int × Int),l[i]? = some x→∃ b off,p=some ⟨b,off,none⟩∧b<W.heap.size∧(W.cell? ⟨b,off+i * 2,none⟩=some (.int .i64 x.1)∧W.cell? ⟨b,off+i * 2+1,none⟩=some (.int .i64 x.2))∧I64 x.1∧I64 x.2
def FeedsAt (W:World)(v:Value)(l:List Fd.Feed):Prop:=∃ p c,v=.slice p l.length c∧(l.length≤c∧c≤maxLen)∧∀(i:Nat) (x:Fd.Feed),l[i]? = some x→∃ b off sv,p=some ⟨b,off,none⟩∧b<W.heap.size∧(W.cell? ⟨b,off+i * 2,none⟩=some (.string x.1)∧W.cell? ⟨b,off+i * 2+1,none⟩=some sv)∧StampsAt W sv x.2∧x.1.size≤2000000
theorem StampsAt.below {W W':World}{v:Value}{l:List (Int × Int)}(h:StampsAt W v l)(B:Below W.heap.size W W'):StampsAt W' v l:=by
 obtain⟨p,c,e,hl,h⟩:=h
 refine⟨p,c,e,hl,fun i x hx=>?_⟩
 obtain⟨b,off,e,hb,⟨h1,h2⟩,h3⟩:=h i x hx
 exact⟨b,off,e,Nat.lt_of_lt_of_le hb B.size,⟨zbf B hb h1,zbf B hb h2⟩,h3⟩
theorem FeedsAt.below {W W':World}{v:Value}{l:List Fd.Feed}(h:FeedsAt W v l)(B:Below W.heap.size W W'):FeedsAt W' v l:=by
 obtain⟨p,c,e,hl,h⟩:=h
 refine⟨p,c,e,hl,fun i x hx=>?_⟩
 obtain⟨b,off,sv,e,hb,⟨h1,h2⟩,h3,h4⟩:=h i x hx
 exact⟨b,off,sv,e,Nat.lt_of_lt_of_le hb B.size,⟨zbf B hb h1,zbf B hb h2⟩,h3.below B,h4⟩
end
end Go.Proofs.YtanlmbbalamgkaaGreatDoor

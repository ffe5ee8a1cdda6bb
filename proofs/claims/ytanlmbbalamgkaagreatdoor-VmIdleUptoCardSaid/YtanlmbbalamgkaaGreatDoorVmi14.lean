/- Proved: lemmas and contracts of the functions that the law reaches, part 14 of 36: CauNames. Conditions: as each states. -/
import Derived.Test.YtanlmbbalamgkaaGreatDoorShelf
import Derived.Shelf.Strings.SlTrimAscii
import Derived.StillTailTactics
import Derived.Test.YtanlmbbalamgkaaGreatDoorVmi5
namespace Go.Proofs.YtanlmbbalamgkaaGreatDoor
set_option linter.unusedVariables false
set_option linter.unusedSimpArgs false
section
open Go.RowKit
namespace Led
def nameSet:List UInt8:=[97,98,99,100,101,102,103,104,105,106,107,108,109,110,111,112,113,114,115,116,117,118,119,120,121,122,48,49,50,51,52,53,54,55,56,57,95]
def curSet:List UInt8:=[65,66,67,68,69,70,71,72,73,74,75,76,77,78,79,80,81,82,83,84,85,86,87,88,89,90]
theorem zyv (p q:UInt8→Bool)(h:∀ n:Fin 256,p (UInt8.ofNat n.val)=q (UInt8.ofNat n.val)):∀ c,p c=q c:=by
 intro c
 have:=h ⟨c.toNat,c.toNat_lt⟩
 simpa using this
theorem znw:∀ c:UInt8,nameSet.contains c=zrz c:=zyv _ _ (by decide +kernel)
theorem zpj:∀ c:UInt8,curSet.contains c=curB c:=zyv _ _ (by decide +kernel)
theorem qbo (set:List UInt8)(p:UInt8→Bool)(hp:∀ c,set.contains c=p c)(l:List UInt8):(Lib.trimS l set=[])↔l.all p=true:=by
 have e:(fun x=>set.contains x)=p:=funext hp
 unfold Lib.trimS Lib.trimLeftS Lib.trimRightS
 rw[e,zhu]
 constructor
 ·intro h
  have h2:(l.reverse.dropWhile p).all p=true:=by simpa using h
  have h3:l.reverse.dropWhile p=[]:=by
   cases hc:l.reverse.dropWhile p with
   |nil=>rfl
   |cons a t=>
    have h4:=List.head?_dropWhile_not p l.reverse
    rw[hc] at h4 h2
    simp at h4 h2
    rw[h2.1] at h4
    cases h4
  rw[zhu] at h3
  simpa using h3
 ·intro h
  have h3:l.reverse.dropWhile p=[]:=by rw[zhu]; simpa using h
  rw[h3]
  rfl
theorem zzg (s:ByteArray)(h:0<s.size):isName s=(decide (s.size≤24) && (lowB s[0] && s.data.toList.all zrz)):=by
 have e:=qfc s h
 have hl:=qfs s
 unfold isName
 cases hc:s.data.toList with
 |nil=>rw[hc] at hl; simp at hl; omega
 |cons c t=>
  rw[hc] at e hl
  have:c=s[0]:=Option.some.inj e
  simp only[List.length_cons] at hl
  simp only[this,hl]
theorem zxb:isName ⟨#[]⟩=false:=rfl
end Led
open Led
theorem zsh (s:ByteArray)(w:World)(hs:s.size≤9223372036854775807):
  Calls Tryz.prog 180 #[.string s,.string ⟨#[97,98,99,100,101,102,103,104,105,106,107,108,109,110,111,112,113,114,115,116,117,118,119,120,121,122,48,49,50,51,52,53,54,55,56,57,95]⟩] w fun e w'=>e=.returned (.string ⟨(Lib.trimS s.data.toList nameSet).toArray⟩)∧Below w.heap.size w w':=
 Any.strings_Trim_laid Tryz.lays160 (by kernel_rfl) s ⟨#[97,98,99,100,101,102,103,104,105,106,107,108,109,110,111,112,113,114,115,116,117,118,119,120,121,122,48,49,50,51,52,53,54,55,56,57,95]⟩ w hs (by decide) (ascii_of_all (by decide))
theorem zui (s:ByteArray)(w:World)(hs:s.size≤9223372036854775807):
  Calls Tryz.prog 180 #[.string s,.string ⟨#[65,66,67,68,69,70,71,72,73,74,75,76,77,78,79,80,81,82,83,84,85,86,87,88,89,90]⟩] w fun e w'=>e=.returned (.string ⟨(Lib.trimS s.data.toList curSet).toArray⟩)∧Below w.heap.size w w':=
 Any.strings_Trim_laid Tryz.lays160 (by kernel_rfl) s ⟨#[65,66,67,68,69,70,71,72,73,74,75,76,77,78,79,80,81,82,83,84,85,86,87,88,89,90]⟩ w hs (by decide) (ascii_of_all (by decide))
theorem zok (set:List UInt8)(p:UInt8→Bool)(hp:∀ c,set.contains c=p c)(l:List UInt8):
  (l.all p=true∧(⟨(Lib.trimS l set).toArray⟩:ByteArray)=⟨#[]⟩)∨(l.all p=false∧∃ t:ByteArray,(⟨(Lib.trimS l set).toArray⟩:ByteArray)=t∧t.toList.isEmpty=false):=by
 have T:=qbo set p hp l
 cases h:l.all p with
 |true=>rw[T.2 h]; exact Or.inl ⟨rfl,rfl⟩
 |false=>
  refine Or.inr ⟨rfl,_,rfl,zbw ?_⟩
  intro e
  have h1:(Lib.trimS l set).toArray=#[]:=congrArg ByteArray.data e
  have h2:Lib.trimS l set=[]:=by simpa using h1
  rw[T.1 h2] at h
  cases h
set_option maxHeartbeats 1000000 in
theorem zkw (s:ByteArray)(w:World)(hs:s.size≤9223372036854775807):Calls Tryz.prog 162 #[.string s] w (zaj (.bool (isName s)) w):=by
 by_cases h0:0<s.size
 ·have hnl:s.toList.isEmpty=false:=zbw (by rintro rfl; simp[ByteArray.size] at h0)
  have E:=hid' (zzg s h0)
  rw[E.out]
  clear E
  by_cases h24:s.size≤24
  ·rw[decide_eq_true h24]
   by_cases hlo:97≤(s[0].toNat:Int)
   ·by_cases hhi:(s[0].toNat:Int)≤122
    ·have hl:lowB s[0]=true:=by unfold lowB; simp; omega
     rw[hl]
     have HT:=hid' (fun w=>zsh s w hs)
     rcases zok nameSet zrz znw s.data.toList with⟨h1,h2⟩|⟨h1,t,h2,h3⟩
     ·rw[h1]
      rw[h2] at HT
      clear h1 h2 hl
      go_enter Tryz.func162,Tryz.ntmps162
      go_wp2_with fail
      refine(HT.out _).mono ?_
      rintro e w1 ⟨rfl,b1⟩
      go_wp2_with fail
      go_ret
      exact⟨rfl,b1⟩
     ·rw[h1]
      rw[h2] at HT
      clear h1 h2 hl
      go_enter Tryz.func162,Tryz.ntmps162
      go_wp2_with fail
      refine(HT.out _).mono ?_
      rintro e w1 ⟨rfl,b1⟩
      go_wp2_with fail
      go_ret
      exact⟨rfl,b1⟩
    ·have hl:lowB s[0]=false:=by unfold lowB; simp; omega
     rw[hl]
     clear hl
     go_enter Tryz.func162,Tryz.ntmps162
     go_wp2_with fail
     go_ret
     exact⟨rfl,Below.refl _ _⟩
   ·have hl:lowB s[0]=false:=by unfold lowB; simp; omega
    rw[hl]
    clear hl
    go_enter Tryz.func162,Tryz.ntmps162
    go_wp2_with fail
    go_ret
    exact⟨rfl,Below.refl _ _⟩
  ·rw[decide_eq_false h24]
   go_enter Tryz.func162,Tryz.ntmps162
   go_wp2_with fail
   go_ret
   exact⟨rfl,Below.refl _ _⟩
 ·obtain rfl:=zur (show s.size=0 by omega)
  rw[zxb]
  go_enter Tryz.func162,Tryz.ntmps162
  go_wp2_with fail
  go_ret
  exact⟨rfl,Below.refl _ _⟩
set_option maxHeartbeats 1000000 in
theorem zrb (s:ByteArray)(w:World)(hs:s.size≤9223372036854775807):Calls Tryz.prog 164 #[.string s] w (zaj (.bool (isCur s)) w):=by
 have E:isCur s=(decide (s.size=3) && s.data.toList.all curB):=rfl
 rw[E]
 clear E
 by_cases h3:s.size=3
 ·rw[decide_eq_true h3]
  have h3':((s.size:Int) == 3)=true:=by rw[beq_iff_eq]; omega
  have HT:=hid' (fun w=>zui s w hs)
  clear h3 hs
  rcases zok curSet curB zpj s.data.toList with⟨h1,h2⟩|⟨h1,t,h2,h3⟩
  ·rw[h1]
   rw[h2] at HT
   clear h1 h2
   go_enter Tryz.func164,Tryz.ntmps164
   go_wp2_with fail
   refine(HT.out _).mono ?_
   rintro e w1 ⟨rfl,b1⟩
   go_wp2_with fail
   go_ret
   exact⟨rfl,b1⟩
  ·rw[h1]
   rw[h2] at HT
   clear h1 h2
   go_enter Tryz.func164,Tryz.ntmps164
   go_wp2_with fail
   refine(HT.out _).mono ?_
   rintro e w1 ⟨rfl,b1⟩
   go_wp2_with fail
   go_ret
   exact⟨rfl,b1⟩
 ·rw[decide_eq_false h3]
  have h3':((s.size:Int) == 3)=false:=by rw[beq_eq_false_iff_ne]; omega
  clear h3
  go_enter Tryz.func164,Tryz.ntmps164
  go_wp2_with fail
  go_ret
  exact⟨rfl,Below.refl _ _⟩
end
end Go.Proofs.YtanlmbbalamgkaaGreatDoor

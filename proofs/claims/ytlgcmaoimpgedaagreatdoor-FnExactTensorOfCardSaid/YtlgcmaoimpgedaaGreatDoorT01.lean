/- Cart Wd Wt OwnK Wo RegApp Refl Wo2 -/
import Derived.Test.YtlgcmaoimpgedaaGreatDoorT00
import Derived.Laws.ResultCell
import Derived.Deep.RegionHeld3
import Derived.Deep.DrawnRows
import Derived.StillTailTactics
import Derived.Deep.Slices
import Derived.Deep.Fields
import Derived.ChangeSame
set_option maxHeartbeats 4000000
set_option maxRecDepth 100000
set_option linter.unusedSimpArgs false
namespace Go.Proofs.YtlgcmaoimpgedaaGreatDoor
open Go.Value renaming slice->qS
section
open Go.RowKit
def ent(c:LL)(i j:Nat):Int:=(c.getD i []).getD j 0
def zcG(c:LL)(i j:Nat):Prop:=if i=j then ent c i j=2 else(-3<=ent c i j/\ent c i j<=0/\(decide (ent c i j=0)=decide (ent c j i=0)))
instance(c:LL)(i j:Nat):Decidable (zcG c i j):=by unfold zcG;infer_instance
def IsC(c:LL):Prop:=1<=c.length/\c.length<=4/\(∀i,i<c.length->(c.getD i []).length=c.length)/\∀i,i<c.length->∀j,j<c.length->zcG c i j
instance(c:LL):Decidable (IsC c):=by unfold IsC;infer_instance
theorem zJe(x y:Int):(!(x==0)==(y==0))=(decide (x=0) != decide (y=0)):=by
 have e1:(x==0)=decide (x=0):=by
  by_cases e:x=0
  ·simp[e]
  ·rw[decide_eq_false e];simpa using e
 have e2:(y==0)=decide (y=0):=by
  by_cases e:y=0
  ·simp[e]
  ·rw[decide_eq_false e];simpa using e
 rw[e1,e2]
 cases decide (x=0) <;> cases decide (y=0) <;> rfl
theorem zdJ(x low pu:Int)(w:World):Calls Tryz.prog 65 #[.int .i64 x,.int .i64 low,.int .i64 pu] w (zap w (.bool (decide (low<=x)&&decide (x<=pu)))):=by
 by_cases h:low<=x
 ·have h':low<=x:=h
  go_enter Tryz.func65,Tryz.ntmps65
  go_wp2;go_ret;exact⟨by simp[h],0,rfl⟩
 ·have hf:decide (low<=x)=false:=by simp[h]
  rw[hf]
  go_enter Tryz.func65,Tryz.ntmps65
  go_wp2;go_ret;exact⟨by simp,0,rfl⟩
theorem zcz(g o n cp:Nat)(c:LL)(w:World)(hn:c.length=n)(hx:c.length<=1099511627776)(an:∀j,j<c.length->(c.getD j []).length<=1099511627776)(hr:zal w g o c):
 Calls Tryz.prog 97 #[(qS (some ⟨g,o,none⟩) n cp)] w (zap w (.bool (decide (IsC c)))):=by
 subst hn;by_cases h1:c.length<1
 ·have hf:decide (IsC c)=false:=by simp[IsC];omega
  rw[hf]
  go_enter Tryz.func97,Tryz.ntmps97
  go_wp2;go_ret;exact⟨rfl,0,rfl⟩
 by_cases h4:4<c.length
 ·have hf:decide (IsC c)=false:=by simp[IsC];omega
  rw[hf]
  go_enter Tryz.func97,Tryz.ntmps97
  go_wp2;go_ret;exact⟨rfl,0,rfl⟩
 go_enter Tryz.func97,Tryz.ntmps97
 go_wp2;go_loopw [19] (fun i wr=>∃k:Nat,k<=c.length/\i= .int .i64 k/\(∀j,j<k->(c.getD j []).length=c.length)/\∃m,wr=w.drewN m) (fun i _=>c.length-(intOf i).toNat)
 case atStart=>exact⟨0,qz _,rfl,by omega,0,rfl⟩
 case round=>
  obtain⟨k,hk,rfl,aE,m,rfl⟩:=hrel;by_cases ac:k<c.length
  ·obtain⟨ga,oa,ca,q1,q2,q3,q4⟩:=hr k ac;have dK:=an k ac;by_cases am:(c.getD k []).length=c.length
   ·rw[am] at q1;go_wp2;go_roundw
    case rel=>
     refine⟨k+1,by omega,by go_num,fun j hj=>?_,(by first|exact⟨_,rfl⟩|exact⟨0,rfl⟩|exact zam _ _ _|exact zan _ _ _ _)⟩;by_cases e:j=k
     ·subst e;exact am
     ·exact aE j (by omega)
    case measure=>simp[intOf];omega
   ·have hf:decide (IsC c)=false:=by
     simp only[decide_eq_false_iff_not];exact fun h=>am (h.2.2.1 k ac)
    rw[hf];generalize (c.getD k []).length=L at*;have mc:(L:Int)≠c.length:=by omega
    go_wp2;go_ret;exact⟨rfl,m,rfl⟩
  ·obtain rfl:k=c.length:=by omega
   go_wp2;go_loopw [29] (fun i wr=>∃k:Nat,k<=c.length/\i= .int .i64 k/\(∀i,i<k->∀j,j<c.length->zcG c i j)/\∃m,wr=w.drewN m) (fun i _=>c.length-(intOf i).toNat)
   case atStart=>exact⟨0,qz _,rfl,by omega,(by first|exact⟨_,rfl⟩|exact⟨0,rfl⟩|exact zam _ _ _|exact zan _ _ _ _)⟩
   case round=>
    obtain⟨a,ha,rfl,nI,m,rfl⟩:=hrel;by_cases ac:a<c.length
    ·go_wp2;obtain⟨ga,oa,ca,q1,q2,q3,q4⟩:=hr a ac;have BI:=aE a ac;rw[BI] at q1;go_loopw [33] (fun i wr=>∃k:Nat,k<=c.length/\i= .int .i64 k/\(∀j,j<k->zcG c a j)/\∃m,wr=w.drewN m) (fun i _=>c.length-(intOf i).toNat)
     case atStart=>exact⟨0,qz _,rfl,by omega,(by first|exact⟨_,rfl⟩|exact⟨0,rfl⟩|exact zam _ _ _|exact zan _ _ _ _)⟩
     case round=>
      obtain⟨b,hb,rfl,aC,m',rfl⟩:=hrel;by_cases lg:b<c.length
      ·obtain⟨gb,ob,cb,p1,p2,p3,p4⟩:=hr b lg;have md:=aE b lg;rw[md] at p1;have ex:=q4 b (by rw[BI];exact lg);have ey:=p4 a (by rw[md];exact ac);have aV:zcG c a b↔if a=b then(c.getD a []).getD b 0=2 else(-3<=(c.getD a []).getD b 0/\(c.getD a []).getD b 0<=0/\(decide ((c.getD a []).getD b 0=0)=decide ((c.getD b []).getD a 0=0))):=Iff.rfl;generalize (c.getD a []).getD b 0=x at ex aV;generalize (c.getD b []).getD a 0=y at ey aV
       have gU:¬zcG c a b->decide (IsC c)=false:=fun h=>by
        simp only[decide_eq_false_iff_not];exact fun h'=>h (h'.2.2.2 a ac b lg)
       by_cases eC:a=b
       ·obtain rfl:=eC;rw[if_pos rfl] at aV;by_cases kh:x=2
        ·have cU:=aV.2 kh;subst kh;go_wp2;go_roundw
         case rel=>
          refine⟨a+1,by omega,by go_num,fun j hj=>?_,(by first|exact⟨_,rfl⟩|exact⟨0,rfl⟩|exact zam _ _ _|exact zan _ _ _ _)⟩;by_cases e:j=a
          ·subst e;exact cU
          ·exact aC j (by omega)
         case measure=>simp[intOf];omega
        ·have aJ:¬zcG c a a:=fun h=>kh (aV.1 h)
         have hf:=gU aJ;go_wp2;go_ret;refine⟨?_,(by first|exact⟨_,rfl⟩|exact⟨0,rfl⟩|exact zam _ _ _|exact zan _ _ _ _)⟩
         first|(rw[hf];rfl)|rfl|simp
       ·rw[if_neg eC] at aV;have rc:¬(a:Int)=b:=by omega
        have Hg:((a:Int)==b)=false:=by simpa using rc
        by_cases SO:x< -3
        ·have aJ:¬zcG c a b:=fun h=>by have:=(aV.1 h).1;omega
         have hf:=gU aJ;go_wp2;go_ret;refine⟨?_,(by first|exact⟨_,rfl⟩|exact⟨0,rfl⟩|exact zam _ _ _|exact zan _ _ _ _)⟩
         first|(rw[hf];rfl)|rfl|simp
        by_cases kj:0<x
        ·have aJ:¬zcG c a b:=fun h=>by have:=(aV.1 h).2.1;omega
         have hf:=gU aJ;go_wp2;go_ret;refine⟨?_,(by first|exact⟨_,rfl⟩|exact⟨0,rfl⟩|exact zam _ _ _|exact zan _ _ _ _)⟩
         first|(rw[hf];rfl)|rfl|simp
        have ao:((a:Int) != (b:Int))=true:=by simpa using rc
        have kP:=zJe x y;by_cases hq:(decide (x=0) != decide (y=0))=true
        ·have aJ:¬zcG c a b:=fun h=>by have:=(aV.1 h).2.2;rw[this] at hq;simp at hq
         clear aV;have hf:=gU aJ;rw[hq] at kP;go_wp2
         all_goals
          go_ret;refine⟨?_,(by first|exact⟨_,rfl⟩|exact⟨0,rfl⟩|exact zam _ _ _|exact zan _ _ _ _)⟩
          first|(rw[hf];rfl)|rfl|simp
        ·have eK:(decide (x=0) != decide (y=0))=false:=by simpa using hq
         have cU:=aV.2 ⟨by omega,by omega,by simpa using eK⟩;clear aV gU hq;rw[eK] at kP;go_wp2;go_roundw
         case rel=>
          refine⟨b+1,by omega,by go_num,fun j hj=>?_,(by first|exact⟨_,rfl⟩|exact⟨0,rfl⟩|exact zam _ _ _|exact zan _ _ _ _)⟩;by_cases e:j=b
          ·subst e;exact cU
          ·exact aC j (by omega)
         case measure=>simp[intOf];omega
      ·obtain rfl:b=c.length:=by omega
       go_wp2;go_roundw
       case rel=>
        refine⟨a+1,by omega,by go_num,fun i hi=>?_,(by first|exact⟨_,rfl⟩|exact⟨0,rfl⟩|exact zam _ _ _|exact zan _ _ _ _)⟩;by_cases e:i=a
        ·subst e;exact aC
        ·exact nI i (by omega)
       case measure=>simp[intOf];omega
    ·obtain rfl:a=c.length:=by omega
     have hf:decide (IsC c)=true:=by
      simp only[decide_eq_true_eq];exact⟨by omega,by omega,aE,nI⟩
     go_wp2;go_ret;refine⟨?_,m,rfl⟩
     first|(rw[hf];rfl)|rfl|simp
theorem zjE(x low pu:Int)(b:Bool)(h:(decide (low<=x)&&decide (x<=pu))=b)(w:World)(m:Nat):
 Hid (∀j,Calls Tryz.prog 65 #[.int .i64 x,.int .i64 low,.int .i64 pu] (w.drewN (m+j)) (zap (w.drewN (m+j)) (.bool b))):=by
 intro j;subst h;exact zdJ x low pu _
theorem zap.quiet4{f:FuncId}{args:Array Value}{w:World}{m n:Nat}{v:Value}(h:Calls Tryz.prog f args (w.drewN (m+n)) (zap (w.drewN (m+n)) v)):
 Calls Tryz.prog f args (w.drewN (m+n)) fun e w''=>e= .returned v/\∃k,w''=w.drewN (m+k):=
 h.mono fun _ _ ⟨he,k,hk⟩=>⟨he,n+k,by rw[hk,World.drewN_drewN,Nat.add_assoc]⟩
theorem zbD(g o n cp:Nat)(c:LL)(w:World)(hn:c.length=n)(hx:c.length<=1099511627776)(an:∀j,j<c.length->(c.getD j []).length<=1099511627776)(hr:zal w g o c):
 Calls Tryz.prog 96 #[(qS (some ⟨g,o,none⟩) n cp)] w (zap w (.bool (decide (IsC c)))):=by
 subst hn
 go_enter Tryz.func96,Tryz.ntmps96
 go_wp2;go_loopw [3] (fun i wr=>∃k:Nat,k<=c.length/\i= .int .i64 k/\(∀j,j<k->(c.getD j []).length=c.length)/\∃m,wr=w.drewN m) (fun i _=>c.length-(intOf i).toNat)
 case atStart=>exact⟨0,qz _,rfl,by omega,(by first|exact⟨_,rfl⟩|exact⟨0,rfl⟩|exact zam _ _ _|exact zan _ _ _ _)⟩
 case round=>
  obtain⟨k,hk,rfl,aE,m,rfl⟩:=hrel;by_cases ac:k<c.length
  ·obtain⟨ga,oa,ca,q1,q2,q3,q4⟩:=hr k ac;have dK:=an k ac;by_cases am:(c.getD k []).length=c.length
   ·rw[am] at q1;go_wp2;go_roundw
    case rel=>
     refine⟨k+1,by omega,by go_num,fun j hj=>?_,(by first|exact⟨_,rfl⟩|exact⟨0,rfl⟩|exact zam _ _ _|exact zan _ _ _ _)⟩;by_cases e:j=k
     ·subst e;exact am
     ·exact aE j (by omega)
    case measure=>simp[intOf];omega
   ·have hf:decide (IsC c)=false:=by
     simp only[decide_eq_false_iff_not];exact fun h=>am (h.2.2.1 k ac)
    rw[hf];generalize (c.getD k []).length=L at*;have mc:(L:Int)≠c.length:=by omega
    go_wp2;go_ret;exact⟨rfl,m,rfl⟩
  ·obtain rfl:k=c.length:=by omega
   go_wp2;go_loopw [4,5] (fun i _ wr=>∃k:Nat,k<=c.length/\i= .int .i64 k/\(∀i,i<k->∀j,j<c.length->zcG c i j)/\∃m,wr=w.drewN m) (fun i _ _=>c.length-(intOf i).toNat)
   case atStart=>exact⟨0,qz _,rfl,by omega,(by first|exact⟨_,rfl⟩|exact⟨0,rfl⟩|exact zam _ _ _|exact zan _ _ _ _)⟩
   case round=>
    obtain⟨a,ha,rfl,nI,m,rfl⟩:=hrel;by_cases ac:a<c.length
    ·go_wp2;obtain⟨ga,oa,ca,q1,q2,q3,q4⟩:=hr a ac;have BI:=aE a ac;rw[BI] at q1;go_loopw [5] (fun i wr=>∃k:Nat,k<=c.length/\i= .int .i64 k/\(∀j,j<k->zcG c a j)/\∃m,wr=w.drewN m) (fun i _=>c.length-(intOf i).toNat)
     case atStart=>exact⟨0,qz _,rfl,by omega,(by first|exact⟨_,rfl⟩|exact⟨0,rfl⟩|exact zam _ _ _|exact zan _ _ _ _)⟩
     case round=>
      obtain⟨b,hb,rfl,aC,m',rfl⟩:=hrel;by_cases lg:b<c.length
      ·obtain⟨gb,ob,cb,p1,p2,p3,p4⟩:=hr b lg;have md:=aE b lg;rw[md] at p1;have ex:=q4 b (by rw[BI];exact lg);have ey:=p4 a (by rw[md];exact ac);have aV:zcG c a b↔if a=b then(c.getD a []).getD b 0=2 else(-3<=(c.getD a []).getD b 0/\(c.getD a []).getD b 0<=0/\(decide ((c.getD a []).getD b 0=0)=decide ((c.getD b []).getD a 0=0))):=Iff.rfl;generalize (c.getD a []).getD b 0=x at ex aV;generalize (c.getD b []).getD a 0=y at ey aV
       have gU:¬zcG c a b->decide (IsC c)=false:=fun h=>by
        simp only[decide_eq_false_iff_not];exact fun h'=>h (h'.2.2.2 a ac b lg)
       by_cases eC:a=b
       ·obtain rfl:=eC;rw[if_pos rfl] at aV;by_cases kh:x=2
        ·have cU:=aV.2 kh;clear aV gU;subst kh;go_wp2;go_quiet (fail)
         go_wp2;go_roundw
         case rel=>
          refine⟨a+1,by omega,by go_num,fun j hj=>?_,(by first|exact⟨_,rfl⟩|exact⟨0,rfl⟩|exact zam _ _ _|exact zan _ _ _ _)⟩;by_cases e:j=a
          ·subst e;exact cU
          ·exact aC j (by omega)
         case measure=>simp[intOf];omega
        ·have aJ:¬zcG c a a:=fun h=>kh (aV.1 h)
         have hf:=gU aJ;have OX:(x != 2)=true:=by simpa using kh
         clear aV gU aJ kh;go_wp2;go_quiet (fail)
         go_wp2;go_ret;refine⟨?_,(by first|exact⟨_,rfl⟩|exact⟨0,rfl⟩|exact zam _ _ _|exact zan _ _ _ _)⟩
         first|(rw[hf];rfl)|rfl|simp
       ·rw[if_neg eC] at aV;have rc:¬(a:Int)=b:=by omega
        have Hg:((a:Int)==b)=false:=by simpa using rc
        have ao:((a:Int) != (b:Int))=true:=by simpa using rc
        have kP:=zJe x y;by_cases bR:(decide (-3<=x)&&decide (x<=0))=true
        ·have oW:=zjE x (-3) 0 true bR w m';by_cases hq:(decide (x=0) != decide (y=0))=true
         ·have aJ:¬zcG c a b:=fun h=>by have:=(aV.1 h).2.2;rw[this] at hq;simp at hq
          clear aV;have hf:=gU aJ;rw[hq] at kP;clear gU aJ eC bR hq;go_wp2;go_quiet ((go_at_call 65;exact zap.quiet4 (oW.out _)))
          go_wp2;go_ret;refine⟨?_,(by first|exact⟨_,rfl⟩|exact⟨0,rfl⟩|exact zam _ _ _|exact zan _ _ _ _)⟩
          first|(rw[hf];rfl)|rfl|simp
         ·have eK:(decide (x=0) != decide (y=0))=false:=by simpa using hq
          have cU:=aV.2 ⟨by simp at bR;omega,by simp at bR;omega,by simpa using eK⟩;rw[eK] at kP;clear aV gU hq bR eK;go_wp2;go_quiet ((go_at_call 65;exact zap.quiet4 (oW.out _)))
          go_wp2;go_roundw
          case rel=>
           refine⟨b+1,by omega,by go_num,fun j hj=>?_,(by first|exact⟨_,rfl⟩|exact⟨0,rfl⟩|exact zam _ _ _|exact zan _ _ _ _)⟩;by_cases e:j=b
           ·subst e;exact cU
           ·exact aC j (by omega)
          case measure=>simp[intOf];omega
        ·have BJ:(decide (-3<=x)&&decide (x<=0))=false:=by simpa using bR
         have oW:=zjE x (-3) 0 false BJ w m';have aJ:¬zcG c a b:=fun h=>by have:=aV.1 h;simp at bR;omega
         have hf:=gU aJ;clear aV gU aJ bR BJ eC kP;go_wp2;go_quiet ((go_at_call 65;exact zap.quiet4 (oW.out _)))
         go_wp2;go_ret;refine⟨?_,(by first|exact⟨_,rfl⟩|exact⟨0,rfl⟩|exact zam _ _ _|exact zan _ _ _ _)⟩
         first|(rw[hf];rfl)|rfl|simp
      ·obtain rfl:b=c.length:=by omega
       go_wp2;go_roundw
       case rel=>
        refine⟨a+1,by omega,by go_num,fun i hi=>?_,(by first|exact⟨_,rfl⟩|exact⟨0,rfl⟩|exact zam _ _ _|exact zan _ _ _ _)⟩;by_cases e:i=a
        ·subst e;exact aC
        ·exact nI i (by omega)
       case measure=>simp[intOf];omega
    ·obtain rfl:a=c.length:=by omega
     have hf:decide (IsC c)=(decide ((1:Int)<=c.length)&&decide ((c.length:Int)<=4)):=by
      rw[<-Bool.decide_and];refine decide_eq_decide.2 ⟨fun h=>by have:=h.1;have:=h.2.1;omega,fun h=>⟨by omega,by omega,aE,nI⟩⟩
     go_wp2_with fail;refine(zdJ _ _ _ _).mono ?_;rintro e w' ⟨rfl,m',rfl⟩;go_wp2_with fail;go_ret;refine⟨?_,(by first|exact⟨_,rfl⟩|exact⟨0,rfl⟩|exact zam _ _ _|exact zan _ _ _ _)⟩
     first|(rw[hf];rfl)|rfl|simp
end
section
open Go.RowKit
theorem ziR(g1 o1 n1 c1 g2 o2 n2 c2:Nat)(xs ys:LI)(w:World)(dL:xs.length=n1)(da:ys.length=n2)(hx:xs.length<=1099511627776)(hy:ys.length<=1099511627776)
 (fh:zag w g1 o1 xs) (gS:zag w g2 o2 ys):
 Calls Tryz.prog 84 #[(qS (some ⟨g1,o1,none⟩) n1 c1),(qS (some ⟨g2,o2,none⟩) n2 c2)] w (zap w (.bool (decide (xs=ys)))):=by
 subst dL;subst da;by_cases hl:ys.length=xs.length
 ·go_enter Tryz.func84,Tryz.ntmps84
  go_wp2;go_loopw [13] (fun i wr=>∃k:Nat,k<=xs.length/\i= .int .i64 k/\xs.take k=ys.take k/\∃n,wr=w.drewN n) (fun i _=>xs.length-(intOf i).toNat)
  case atStart=>exact⟨0,qz _,rfl,rfl,0,rfl⟩
  case round=>
   obtain⟨k,hk,rfl,he,n,rfl⟩:=hrel;have He:=qd he;clear he;have Hl:=qd hl;clear hl;by_cases ac:k<xs.length
   ·have h1:=fh k ac;have h2:=gS k (by rw[Hl.out];omega);have fc:k<ys.length:=by rw[Hl.out];omega
    go_wp2;go_quiet (fail)
    go_wp2
    ·have ht:(xs[k] != ys[k])=true:=by assumption
     go_ret;have ao:xs≠ys:=fun e=>by subst e;simp at ht
     exact⟨zaK (by simp[ao]),(by first|exact⟨_,rfl⟩|exact⟨0,rfl⟩|exact zam _ _ _|exact zan _ _ _ _)⟩
    ·have ht:(xs[k] != ys[k])=false:=by assumption
     go_roundw
     case rel=>exact⟨k+1,by omega,by go_num,ziQ Hl.out.symm ac He.out (by simpa [List.getD,ac,fc] using ht),(by first|exact⟨_,rfl⟩|exact⟨0,rfl⟩|exact zam _ _ _|exact zan _ _ _ _)⟩
     case measure=>simp[intOf];omega
   ·go_wp2;go_ret;refine⟨zaK ?_,n,rfl⟩;have h3:=He.out;rw[qF (by omega),qF (by have:=Hl.out;omega)] at h3;simp[h3]
 ·have hb:((xs.length:Int) != (ys.length:Int))=true:=by rw[bne_iff_ne];omega
  go_enter Tryz.func84,Tryz.ntmps84
  go_wp2;go_ret;exact⟨zaK (by simp;intro e;exact hl (by rw[e])),0,rfl⟩
def zbK:LI->LI->Int
 |x::a,y::b=>if x<y then -1 else if y<x then 1 else zbK a b
 |_,_=>0
def zaU(a b:LI):Int:=if a.length<b.length then -1 else if b.length<a.length then 1 else zbK a b
theorem zyZ{a b:LI}(h:a.length=b.length):zbK a b=0↔a=b:=by
 induction a generalizing b with
 |nil=>cases b with
  |nil=>simp[zbK]
  |cons y b=>simp at h
 |cons x a ih=>cases b with
  |nil=>simp at h
  |cons y b=>
   simp only[zbK];by_cases h1:x<y
   ·rw[if_pos h1];simp;intro e;omega
   ·rw[if_neg h1];by_cases h2:y<x
    ·rw[if_pos h2];simp;intro e;omega
    ·rw[if_neg h2,ih (by simpa using h)];have:x=y:=by omega
     subst this;simp
theorem zlc(a b:LI):(zaU a b==0)=decide (a=b):=by
 unfold zaU;by_cases h1:a.length<b.length
 ·rw[if_pos h1];simp;intro e;subst e;omega
 ·rw[if_neg h1];by_cases h2:b.length<a.length
  ·rw[if_pos h2];simp;intro e;subst e;omega
  ·rw[if_neg h2];have:=zyZ (a:=a) (b:=b) (by omega);by_cases e:a=b
   ·rw[this.2 e];simp[e]
   ·have h3:zbK a b≠0:=fun h=>e (this.1 h)
    simp[e,h3]
theorem zkj{a b:LI}{k:Nat}(h1:k<a.length)(h2:k<b.length):zbK (a.drop k) (b.drop k)=if a[k]<b[k] then -1 else if b[k]<a[k] then 1 else zbK (a.drop (k+1)) (b.drop (k+1)):=by
 have e1:a.drop k=a[k]::a.drop (k+1):=List.drop_eq_getElem_cons h1;have e2:b.drop k=b[k]::b.drop (k+1):=List.drop_eq_getElem_cons h2;rw[e1,e2];rfl
theorem zkD(g1 o1 n1 c1 g2 o2 n2 c2:Nat)(xs ys:LI)(w:World)(dL:xs.length=n1)(da:ys.length=n2)(hx:xs.length<=1099511627776)
 (fh:zag w g1 o1 xs) (gS:zag w g2 o2 ys):
 Calls Tryz.prog 93 #[(qS (some ⟨g1,o1,none⟩) n1 c1),(qS (some ⟨g2,o2,none⟩) n2 c2)] w (zap w (.int .i64 (zaU xs ys))):=by
 subst dL;subst da;by_cases hl:ys.length=xs.length
 ·have e:zaU xs ys=zbK xs ys:=by unfold zaU;rw[if_neg (by omega),if_neg (by omega)]
  rw[e];clear e;have jV:ys.length=xs.length:=hl;have Hl:=qd jV;clear jV;have hb:((xs.length:Int) != (ys.length:Int))=false:=by rw[hl];simp
  clear hl
  go_enter Tryz.func93,Tryz.ntmps93
  go_wp2;go_loopw [5] (fun i wr=>∃k:Nat,k<=xs.length/\i= .int .i64 k/\Hid (zbK xs ys=zbK (xs.drop k) (ys.drop k))/\∃n,wr=w.drewN n) (fun i _=>xs.length-(intOf i).toNat)
  case atStart=>exact⟨0,qz _,rfl,rfl,0,rfl⟩
  case round=>
   obtain⟨k,hk,rfl,he,n,rfl⟩:=hrel;by_cases ac:k<xs.length
   ·have fc:k<ys.length:=by rw[Hl.out];exact ac
    have h1:=fh k ac;have h2:=gS k fc;have hd:=zkj ac fc;have Hd:=qd hd;clear hd;go_wp2;go_quiet (fail)
    go_wp2
    ·have ht:xs[k]<ys[k]:=by assumption
     go_ret;exact⟨zce (by rw[he.out,Hd.out,if_pos ht]),(by first|exact⟨_,rfl⟩|exact⟨0,rfl⟩|exact zam _ _ _|exact zan _ _ _ _)⟩
    ·have ht:ys[k]<=xs[k]:=by assumption
     go_quiet (fail)
     go_wp2
     ·have AO:ys[k]<xs[k]:=by assumption
      go_ret;exact⟨zce (by rw[he.out,Hd.out,if_neg (by omega),if_pos AO]),(by first|exact⟨_,rfl⟩|exact⟨0,rfl⟩|exact zam _ _ _|exact zan _ _ _ _)⟩
     ·have AO:xs[k]<=ys[k]:=by assumption
      go_roundw
      case rel=>exact⟨k+1,by omega,by go_num,by show _=_;rw[he.out,Hd.out,if_neg (by omega),if_neg (by omega)],(by first|exact⟨_,rfl⟩|exact⟨0,rfl⟩|exact zam _ _ _|exact zan _ _ _ _)⟩
      case measure=>simp[intOf];omega
   ·obtain rfl:k=xs.length:=by omega
    go_wp2;go_ret;refine⟨zce ?_,n,rfl⟩;rw[he.out,List.drop_length];rfl
 ·have hb:((xs.length:Int) != (ys.length:Int))=true:=by rw[bne_iff_ne];omega
  by_cases h1:xs.length<ys.length
  ·have e:zaU xs ys=-1:=by unfold zaU;rw[if_pos h1]
   rw[e]
   go_enter Tryz.func93,Tryz.ntmps93
   go_wp2;go_ret;exact⟨rfl,0,rfl⟩
  ·have e:zaU xs ys=1:=by unfold zaU;rw[if_neg h1,if_pos (by omega)]
   rw[e]
   go_enter Tryz.func93,Tryz.ntmps93
   go_wp2;go_ret;exact⟨rfl,0,rfl⟩
theorem zcK(g1 o1 n1 c1 g2 o2 n2 c2:Nat)(xs ys:LI)(w:World)(dL:xs.length=n1)(da:ys.length=n2)(hx:xs.length<=1099511627776)
 (fh:zag w g1 o1 xs) (gS:zag w g2 o2 ys):
 Calls Tryz.prog 48 #[(qS (some ⟨g1,o1,none⟩) n1 c1),(qS (some ⟨g2,o2,none⟩) n2 c2)] w (zap w (.bool (decide (xs=ys)))):=by
 have hw:=zlc xs ys;rw[<-hw];clear hw
 go_enter Tryz.func48,Tryz.ntmps48
 go_wp2_with fail;refine(zkD g1 o1 n1 c1 g2 o2 n2 c2 xs ys _ dL da hx fh gS).mono ?_;rintro e w1 ⟨rfl,m,rfl⟩;go_wp2_with fail;go_ret;exact⟨rfl,m,rfl⟩
end
section
open Go.RowKit
abbrev Wt:=LI × Int
def wOf(l:List Wt)(j:Nat):LI:=(l.getD j ([],0)).1
def ziS(l:List Wt)(j:Nat):Int:=(l.getD j ([],0)).2
def zgo(w:World)(g o:Nat)(l:List Wt):Prop:=
 ∀j,j<l.length->∃gj oj cj,w.cell? ⟨g,o+j*2,none⟩=some (qS (some ⟨gj,oj,none⟩) ((wOf l j).length) cj)/\w.cell? ⟨g,o+j*2+1,none⟩=some (.int .i64 (ziS l j))/\(wOf l j).length<=cj/\gj<w.heap.size/\zag w gj oj (wOf l j)
theorem zgo.below{w w':World}{g o:Nat}{l:List Wt}(h:zgo w g o l)(hb:Below w.heap.size w w')(hg:g<w.heap.size):zgo w' g o l:=fun j hj=>by
 obtain⟨gj,oj,cj,h1,h2,h3,h4,h5⟩:=h j hj;exact⟨gj,oj,cj,(hb.cell (p:=⟨g,o+j*2,none⟩) hg).trans h1,(hb.cell (p:=⟨g,o+j*2+1,none⟩) hg).trans h2,h3,qL h4 hb.size,h5.below hb h4⟩
def zgb(l:List Wt):Prop:=l.length<=1048576/\∀j,j<l.length->(wOf l j).length<=1048576
def zaC:List Wt->LI->Int
 |[],_=>0
 |x::l,v=>if x.1=v then x.2 else zaC l v
theorem zmE(l:List Wt)(v:LI)(k:Nat)(hk:k<l.length):zaC (l.drop k) v=if wOf l k=v then ziS l k else zaC (l.drop (k+1)) v:=by
 have e:l.drop k=l[k]::l.drop (k+1):=List.drop_eq_getElem_cons hk;rw[e];simp[zaC,wOf,ziS,List.getD,hk]
theorem zoX(g o n c g2 o2 n2 c2:Nat)(l:List Wt)(v:LI)(w:World)(hn:l.length=n)(da:v.length=n2)(hf:zgb l)(hv:v.length<=1048576)(hg:g<w.heap.size)(aP:g2<w.heap.size)(hl:zgo w g o l)(iO:zag w g2 o2 v):
 Calls Tryz.prog 59 #[(qS (some ⟨g,o,none⟩) n c),(qS (some ⟨g2,o2,none⟩) n2 c2)] w (zbb w (.int .i64 (zaC l v))):=by
 subst hn;subst da;have BK:=hf.1
 go_enter Tryz.func59,Tryz.ntmps59
 go_wp2;go_loopw [6,9] (fun x i wr=>∃k:Nat,k<=l.length/\i= .int .i64 k/\Hid (zaC l v=zaC (l.drop k) v)/\Below w.heap.size w wr) (fun _ i _=>l.length-(intOf i).toNat)
 case atStart=>exact⟨0,qz _,rfl,rfl,zgu⟩
 case round=>
  obtain⟨k,hk,rfl,hc,hb⟩:=hrel;by_cases ac:k<l.length
  ·obtain⟨gj,oj,cj,q1,q2,q3,q4,q5⟩:=hl.below hb hg k ac;have hw:=hf.2 k ac;have hd:Hid (zaC (l.drop k) v=if wOf l k=v then ziS l k else zaC (l.drop (k+1)) v):=zmE l v k ac;have Hf:=qd hf;clear hf;have uu:=qd (iO.below hb aP);clear iO;generalize wOf l k=V at*;generalize ziS l k=C at*;have FR:∀o:Obj,Below wr.heap.size wr (wr.alloc o):=fun o=>(Below.refl _ _).alloc (qr _) _
   go_wp2_with fail;refine(ziR gj oj _ cj g2 o2 _ c2 V v _ rfl rfl (by omega) (by omega) (q5.below (FR _) q4) (uu.out.below (FR _) (qL aP hb.size))).mono ?_;rintro e w1 ⟨rfl,m1,rfl⟩;by_cases px:V=v
   ·have hT:decide (V=v)=true:=decide_eq_true px;have HV:=qd px;clear px;go_wp2_with fail;go_ret;refine⟨zce ?_,zgu⟩;rw[hc.out,hd.out,if_pos HV.out]
   ·have hT:decide (V=v)=false:=decide_eq_false px;have HV:=qd px;clear px;go_wp2_with fail;go_roundw
    case rel=>exact⟨k+1,by omega,by go_num,by show _=_;rw[hc.out,hd.out,if_neg HV.out],zgu⟩
    case measure=>simp[intOf];omega
  ·obtain rfl:k=l.length:=by omega
   go_wp2;go_ret;refine⟨zce ?_,hb⟩;rw[hc.out,List.drop_length];rfl
theorem ziT(g o n c g2 o2 n2 c2:Nat)(l:List Wt)(v:LI)(w:World)(hn:l.length=n)(da:v.length=n2)(hf:zgb l)(hl:zgo w g o l)(iO:zag w g2 o2 v):
 Calls Tryz.prog 66 #[(qS (some ⟨g,o,none⟩) n c),(qS (some ⟨g2,o2,none⟩) n2 c2)] w (zap w (.int .i64 (zaC l v))):=by
 subst hn;subst da;have BK:=hf.1
 go_enter Tryz.func66,Tryz.ntmps66
 go_wp2;go_loopw [5] (fun i wr=>∃k:Nat,k<=l.length/\i= .int .i64 k/\Hid (zaC l v=zaC (l.drop k) v)/\∃m,wr=w.drewN m) (fun i _=>l.length-(intOf i).toNat)
 case atStart=>exact⟨0,qz _,rfl,rfl,(by first|exact⟨_,rfl⟩|exact⟨0,rfl⟩|exact zam _ _ _|exact zan _ _ _ _)⟩
 case round=>
  obtain⟨k,hk,rfl,hc,m,rfl⟩:=hrel;by_cases ac:k<l.length
  ·obtain⟨gj,oj,cj,q1,q2,q3,q4,q5⟩:=hl k ac;have hw:=hf.2 k ac;have hd:Hid (zaC (l.drop k) v=if wOf l k=v then ziS l k else zaC (l.drop (k+1)) v):=zmE l v k ac;have Hf:=qd hf;clear hf;have uu:=qd iO;clear iO;generalize wOf l k=V at*;generalize ziS l k=C at*;go_wp2_with fail;refine(zcK gj oj _ cj g2 o2 _ c2 V v (w.drewN m) rfl rfl (by omega) q5 uu.out).mono ?_;rintro e w1 ⟨rfl,m1,rfl⟩;by_cases px:V=v
   ·have hT:decide (V=v)=true:=decide_eq_true px;have HV:=qd px;clear px;go_wp2_with fail;go_ret;refine⟨zce ?_,(by first|exact⟨_,rfl⟩|exact⟨0,rfl⟩|exact zam _ _ _|exact zan _ _ _ _)⟩;rw[hc.out,hd.out,if_pos HV.out]
   ·have hT:decide (V=v)=false:=decide_eq_false px;have HV:=qd px;clear px;go_wp2_with fail;go_roundw
    case rel=>exact⟨k+1,by omega,by go_num,by show _=_;rw[hc.out,hd.out,if_neg HV.out],(by first|exact⟨_,rfl⟩|exact⟨0,rfl⟩|exact zam _ _ _|exact zan _ _ _ _)⟩
    case measure=>simp[intOf];omega
  ·obtain rfl:k=l.length:=by omega
   go_wp2;go_ret;refine⟨zce ?_,m,rfl⟩;rw[hc.out,List.drop_length];rfl
end
section
open Go.RowKit
def zaE(w:World)(B:Nat)(E:TypeId)(k g cap n:Nat)(cs:List Value):Prop:=w.ownsRow B E k (qS (some ⟨g,0,none⟩) n cap) n cs
section
variable {w w':World} {B g cap n k:Nat} {E:TypeId} {cs:List Value}
theorem zaE.base(h:zaE w B E k g cap n cs):B<=g:=(World.ownsRow.lt h g rfl).1
theorem zaE.lt(h:zaE w B E k g cap n cs):g<w.heap.size:=(World.ownsRow.lt h g rfl).2
theorem zaE.row(h:zaE w B E k g cap n cs):∃cur,w.heap[g]? =some (.cells cur E (0,0))/\n<=cap/\cap<=maxLen:=by
 rcases h.2 with⟨h',_⟩|⟨g',cap',cur,h',_,hh,hn,hm,_⟩
 ·simp at h'
 ·simp only[Value.slice.injEq,Option.some.injEq,Addr.mk.injEq] at h';obtain⟨⟨rfl,_⟩,_,rfl⟩:=h';exact⟨cur,hh,hn,hm⟩
theorem zaE.capLe(h:zaE w B E k g cap n cs):n<=cap:=by obtain⟨_,_,h,_⟩:=h.row;exact h
theorem zaE.len(h:zaE w B E k g cap n cs):cs.length=n*k:=h.1
theorem zaE.cell(h:zaE w B E k g cap n cs)(j:Nat)(hj:j<cs.length):w.cell? ⟨g,j,none⟩=some cs[j]:=by
 rw[World.ownsRow.cellAt h j (by have:=h.len;omega)];simp[hj]
theorem zaE.frozen(h:zaE w B E k g cap n cs)(j:Nat):w.frozen? ⟨g,j,none⟩=false:=World.ownsRow.frozenAt h j
theorem zaE.mono{B':Nat}(h:zaE w B E k g cap n cs)(hB:B'<=B):zaE w B' E k g cap n cs:=by
 refine⟨h.1,?_⟩
 rcases h.2 with⟨h',_⟩|⟨g',cap',cur,h',hb,r⟩
 ·simp at h'
 ·exact .inr ⟨g',cap',cur,h',by omega,r⟩
theorem zaE.grown{row:Option Nat}(h:zaE w B E k g cap n cs)(hg:w.grownBy w' row)(ao:some g≠row):zaE w' B E k g cap n cs:=World.ownsRow.kept h hg (.inr ao)
theorem zaE.below{B':Nat}(h:zaE w B E k g cap n cs)(hb:Below B' w w')(hg:g<B'):zaE w' B E k g cap n cs:=by
 refine⟨h.1,?_⟩
 rcases h.2 with⟨h',_⟩|⟨g',cap',cur,h',du,hh,r⟩
 ·simp at h'
 ·refine .inr ⟨g',cap',cur,h',du,?_,r⟩;simp only[Value.slice.injEq,Option.some.injEq,Addr.mk.injEq] at h';obtain⟨⟨rfl,_⟩,_⟩:=h';rw[hb.block _ hg];exact hh
theorem zaE.alloc(h:zaE w B E k g cap n cs)(o:Obj):zaE (w.alloc o) B E k g cap n cs:=World.ownsRow.alloc h o
theorem zaE.set(h:zaE w B E k g cap n cs)(j:Nat)(v:Value):zaE (w.setCell ⟨g,j,none⟩ v) B E k g cap n (cs.set j v)/\w.grownBy (w.setCell ⟨g,j,none⟩ v) (some g):=World.ownsRow.stored h j v
theorem zaE.neV{B' g' cap':Nat}{E':TypeId}{vs':List Value}(h:zaE w B E k g cap n cs)(h':zaI w B' E' g' cap' vs')(hE:E≠E'):g≠g':=by
 rintro rfl;obtain⟨c1,e1,_⟩:=h.row;obtain⟨c2,e2,_⟩:=h'.row;rw[e1] at e2;simp at e2;exact hE e2.2
end
theorem ziU{w:World}{S E:TypeId}{z:Value}{k by':Nat}(re:(Tryz.prog.info? E).map (fun i=>(i.zero,i.size,i.bytes))=some (some z,k,by'))(hu:Tryz.prog.underlying S=some (.slice E))(Hw:z.cells.size=k)(hk:0<k)(FT:by'<=1024)
 {B g cap n:Nat} {cs:List Value} (ai:zaE w B E k g cap n cs) (g2 o2 m c2:Nat) (news:List Value) (hl:news.length=m*k) (dp:∀j u,news[j]? =some u->w.cell? ⟨g2,o2+j,none⟩=some u) (h1:∀u∈news,u.oneCell'=true)
 (am:n+m<=1048576) (ty:TypeId):
 ∃g' cap' w',(Builtin.append_ #[S,S] ty #[(qS (some ⟨g,0,none⟩) n cap),(qS (some ⟨g2,o2,none⟩) m c2)]).run Tryz.prog w= .ok (qS (some ⟨g',0,none⟩) (n+m) cap') w'/\zaE w' B E k g' cap' (n+m) (cs++news)/\w.grownBy w' (some g)/\(g'=g∨g'=w.heap.size):=by
 obtain⟨i0,hi,fP,eJ,gK⟩:=info_parts re;have xO:(n+m)*by'<=140737488355328:=qt (Nat.mul_le_mul am FT) (by decide);have nJ:∀j u,news[j]? =some u->w.cell? ((⟨g2,o2,none⟩:Addr).add j)=some u:=fun j u hu=>by rw[Addr.add_lit];exact dp j u hu
 obtain⟨v',w',hr,ho,hg,-⟩:=run_append_own (P:=Tryz.prog) w B S ty E i0 z k by' hu hi fP eJ gK Hw hk _ n _ ai ⟨g2,o2,none⟩ m c2 news hl nJ h1 (by unfold maxLen;omega) xO (by have:=ai.base;have:=ai.lt;omega)
 have fin:∀g' cap',v'=(qS (some ⟨g',0,none⟩) (n+m) cap')->(g'=g∨g'=w.heap.size)->∃g' cap' w',(Builtin.append_ #[S,S] ty #[(qS (some ⟨g,0,none⟩) n cap),(qS (some ⟨g2,o2,none⟩) m c2)]).run Tryz.prog w= .ok (qS (some ⟨g',0,none⟩) (n+m) cap') w'/\zaE w' B E k g' cap' (n+m) (cs++news)/\w.grownBy w' (some g)/\(g'=g∨g'=w.heap.size):=by
  intro g' cap' hv aY;subst hv;exact⟨g',cap',w',hr,ho,hg,aY⟩
 have jV:news.length=m*i0.size:=by rw[eJ];exact hl
 by_cases iM:n+m<=cap
 ·rcases ai.2 with⟨h',_⟩|⟨g1,cap1,cur,hv,hb,hh,hn,hm,hs,bQ⟩
  ·simp at h'
  simp only[Value.slice.injEq,Option.some.injEq,Addr.mk.injEq,and_true,true_and] at hv;obtain⟨rfl,rfl⟩:=hv
  have fJ:n*i0.size+news.length<=cur.size:=by
   rw[eJ,hl,hs,<-Nat.add_mul];exact Nat.mul_le_mul_right _ iM
  have jf:=run_append_room (P:=Tryz.prog) w S ty E i0 hu hi g n cap cur hh ⟨g2,o2,none⟩ m c2 news jV nJ h1 iM fJ;rw[jf] at hr;simp only[Result.ok.injEq] at hr;exact fin g cap hr.1.symm (.inl rfl)
 ·have AP:(n+m)*i0.bytes<=1073741824:=by rw[gK];exact qt (Nat.mul_le_mul am FT) (by decide)
  have jf:=run_append_grow (P:=Tryz.prog) w S ty E i0 z hu hi fP ⟨g,0,none⟩ n cap cs (by rw[eJ];exact ai.1) (World.ownsRow.cells ai rfl) ⟨g2,o2,none⟩ m c2 news jV nJ (by omega) (by omega) (growslice_fits (by omega) (by omega));rw[jf] at hr;simp only[Result.ok.injEq] at hr;exact fin _ _ hr.1.symm (.inr rfl)
theorem zfs{w:World}{S E:TypeId}{z:Value}{k by':Nat}(re:(Tryz.prog.info? E).map (fun i=>(i.zero,i.size,i.bytes))=some (some z,k,by'))(hu:Tryz.prog.underlying S=some (.slice E))(Hw:z.cells.size=k)(hk:0<k)(FT:by'<=1024)
 {ops:Array Oper} {rest:List Oper} {o:Oper} {a:Act} {Q:Exit->Act->World->Prop} (dH:o.guard=none) (s x:Operand)
 (ho:o.op= .call {callee:= .builtin .append,args:=#[s,x],argTypes:=#[S,S]})
 (B g cap n:Nat) (cs:List Value) (ai:zaE w B E k g cap n cs) (g2 o2 m c2:Nat) (news:List Value) (hl:news.length=m*k) (dp:∀j u,news[j]? =some u->w.cell? ⟨g2,o2+j,none⟩=some u) (h1:∀u∈news,u.oneCell'=true)
 (hs:a.eval s=(qS (some ⟨g,0,none⟩) n cap)) (hx:a.eval x=(qS (some ⟨g2,o2,none⟩) m c2)) (am:n+m<=1048576)
 (h:∀g' cap' w',zaE w' B E k g' cap' (n+m) (cs++news)->w.grownBy w' (some g)->(g'=g∨g'=w.heap.size)->wpList Tryz.prog ops Q rest (a.put o.dst (qS (some ⟨g',0,none⟩) (n+m) cap')) w'):
 wpList Tryz.prog ops Q (o::rest) a w:=by
 obtain⟨g',cap',w',hr,h2,h3,h4⟩:=ziU re hu Hw hk FT ai g2 o2 m c2 news hl dp h1 am o.type;refine wpList_plain dH fun K hK=>?_
 unfold Oper.wp execOp;simp only[ho,resolve,invoke,builtin,Sem.run_bind,Sem.run_pure,Result.andThen_ok,List.map_toArray,List.map_cons,List.map_nil,hs,hx,hr];exact hK _ _ (h g' cap' w' h2 h3 h4)
end
section
open Go.RowKit
abbrev WRef:=RowRef × Int
def zby(rs:List WRef):List Value:=rs.flatMap fun r=>[zah r.1,.int .i64 r.2]
def zaz(rs:List WRef):List Wt:=rs.map fun r=>(r.1.2.2,r.2)
theorem ziV(rs:List WRef):(zaz rs).length=rs.length:=by simp[zaz]
theorem zdS(rs:List WRef):(zby rs).length=rs.length*2:=by
 induction rs with
 |nil=>rfl
 |cons r rs ih=>simp only[zby,List.flatMap_cons,qA,List.length_cons,List.length_nil] at*;rw[ih];omega
theorem zfB(a b:List WRef):zby (a++b)=zby a++zby b:=by simp[zby]
theorem zza(r:WRef):zby [r]=[zah r.1,.int .i64 r.2]:=rfl
theorem ziW(rs:List WRef)(zs:List Value)(j:Nat)(hj:j<rs.length):(zby rs++zs)[j*2]? =some (zah rs[j].1)/\(zby rs++zs)[j*2+1]? =some (.int .i64 rs[j].2):=by
 have e:rs=rs.take j++[rs[j]]++rs.drop (j+1):=by
  have h1:rs.drop j=rs[j]::rs.drop (j+1):=List.drop_eq_getElem_cons hj;rw[List.append_assoc,List.singleton_append,<-h1,List.take_append_drop]
 have hl:(zby (rs.take j)).length=j*2:=by rw[zdS,List.length_take];omega
 have e2:zby rs++zs=zby (rs.take j)++(zah rs[j].1:: .int .i64 rs[j].2::(zby (rs.drop (j+1))++zs)):=by
  conv=>lhs;rw[e,zfB,zfB,zza]
  simp
 rw[e2];constructor
 ·rw[List.getElem?_append_right (by omega),hl];simp
 ·rw[List.getElem?_append_right (by omega),hl,show j*2+1-j*2=1 by omega];simp
def zas(w:World)(B g cap:Nat)(rs:List WRef):Prop:=zaE w B 36 2 g cap rs.length (zby rs)/\zcS w B (rs.map (·.1))
theorem zas.base{w:World}{B g cap:Nat}{rs:List WRef}(h:zas w B g cap rs):B<=g:=h.1.base
theorem zas.lt{w:World}{B g cap:Nat}{rs:List WRef}(h:zas w B g cap rs):g<w.heap.size:=h.1.lt
theorem zas.below{w w':World}{B g cap:Nat}{rs:List WRef}(h:zas w B g cap rs)(hb:Below w.heap.size w w'):zas w' B g cap rs:=⟨h.1.below hb h.1.lt,h.2.below hb⟩
theorem zas.mono{w:World}{B B' g cap:Nat}{rs:List WRef}(h:zas w B g cap rs)(hB:B'<=B):zas w B' g cap rs:=⟨h.1.mono hB,h.2.mono hB⟩
theorem zBC(rs:List WRef)(j:Nat)(hj:j<rs.length):wOf (zaz rs) j=rs[j].1.2.2/\ziS (zaz rs) j=rs[j].2:=by
 simp[wOf,ziS,zaz,List.getD,hj]
theorem zas.wrows{w:World}{B g cap:Nat}{rs:List WRef}(h:zas w B g cap rs):zgo w g 0 (zaz rs):=by
 intro j hj;rw[ziV] at hj;obtain⟨e1,e2⟩:=zBC rs j hj;have ho:=h.2.1 rs[j].1 (List.mem_map_of_mem (List.getElem_mem hj));have hl:=zdS rs;have hf:=ziW rs [] j hj;rw[List.append_nil] at hf;rw[e1,e2];refine⟨rs[j].1.1,0,rs[j].1.2.1,?_,?_,ho.capLe,ho.lt,ho.cells⟩
 ·rw[Nat.zero_add,h.1.cell (j*2) (by omega),<-List.getElem?_eq_getElem];rw[hf.1];rfl
 ·rw[Nat.zero_add,h.1.cell (j*2+1) (by omega),<-List.getElem?_eq_getElem];exact hf.2
end
section
open Go.RowKit
theorem zcH{ops:Array Oper}{w:World}{o:Oper}{a:Act}{K:Act->World->Prop}{Q:Exit->Act->World->Prop}{E:Prop}(dH:o.guard=none)(s x:Operand)
 (ho:o.op= .call {callee:= .builtin .append,args:=#[s,x],argTypes:=#[25,25]})
 (B g cap n H:Nat) (xs:LI) (z:Int) (W:World) (hn:xs.length=n) (hW:W=w.alloc (.cells #[.int .i64 z] 3)) (hH:w.heap.size=H) (ai:Own w B g cap xs) (hs:a.eval s=(qS (some ⟨g,0,none⟩) n cap)) (hx:a.eval x=(qS (some ⟨H,0,none⟩) 1 1)) (am:n+1<=1099511627776)
 (h:∀g' cap' w',Own w' B g' cap' (xs++[z])->w.grownBy w' (some g)->(g'=g∨w.heap.size<g')->K (a.put o.dst (qS (some ⟨g',0,none⟩) (n+1) cap')) w'):
 if Region.wanted o (yielded ops a.tmps)=true then Oper.wp Tryz.prog o a W K Q else E:=by
 subst hn;subst hH;subst hW;have hw:Region.wanted o (yielded ops a.tmps)=true:=by simp[Region.wanted,dH]
 rw[if_pos hw];obtain⟨g',cap',w',hr,h1,h2,h3⟩:=zfr (ai.alloc (.cells #[.int .i64 z] 3)) (Own.new (B:=w.heap.size) z (qr _)).cells (c2:=1) am o.type;have bn:w.grownBy w' (some g):=⟨h2.os,h2.tape,h2.output,qt (by simp) h2.size,fun k hk ao=>(h2.block k (by simp;omega) ao).trans (Below.heap_alloc _ _ _ hk)⟩;have tS:a.eval x=(qS (some ⟨w.heap.size,0,none⟩) ([z].length) 1):=hx;unfold Oper.wp execOp;simp only[ho,resolve,invoke,builtin,Sem.run_bind,Sem.run_pure,Result.andThen_ok,List.map_toArray,List.map_cons,List.map_nil,hs,tS,hr];exact h g' cap' w' h1 bn (h3.imp id (by simp;omega))
end
section
open Go.RowKit
def zdT(c:LL)(i:Nat)(v:LI)(k:Nat):Int:=wrap64 (v.getD k 0-wrap64 (v.getD i 0*ent c k i))
def refl(c:LL)(i:Nat)(v:LI):LI:=(List.range v.length).map (zdT c i v)
def zeI(c:LL)(i:Nat)(v:LI)(k:Nat):LI:=(List.range k).map (zdT c i v)++v.drop k
theorem zcf(c:LL)(i:Nat)(v:LI):(refl c i v).length=v.length:=by simp[refl]
theorem zsC{c:LL}{i:Nat}{v:LI}{k:Nat}(hk:k<=v.length):(zeI c i v k).length=v.length:=by simp[zeI];omega
theorem zzb{c:LL}{i:Nat}{v:LI}{k:Nat}(_hk:k<v.length):(zeI c i v k).getD k 0=v.getD k 0:=by
 simp[zeI,List.getD,List.getElem?_append_right]
theorem zvJ{c:LL}{i:Nat}{v:LI}{k:Nat}(hk:k<v.length):(zeI c i v k).set k (zdT c i v k)=zeI c i v (k+1):=by
 unfold zeI;rw[List.set_append_right _ _ (by simp)];have e:v.drop k=v[k]::v.drop (k+1):=List.drop_eq_getElem_cons hk;rw[List.length_map,List.length_range,Nat.sub_self,e,List.set_cons_zero,List.range_succ,List.map_append,List.append_assoc];rfl
theorem zvK(c:LL)(i:Nat)(v:LI):zeI c i v 0=v:=by simp[zeI]
theorem zxE(c:LL)(i:Nat)(v:LI):zeI c i v v.length=refl c i v:=by simp[zeI,refl]
theorem zej(w0:World)(gc oc n cc g cap i m:Nat)(c:LL)(v:LI)(w:World)(hn:c.length=n)(hm:v.length=m)(hv:v.length=c.length)(bZ:c.length<=4)(an:∀j,j<c.length->(c.getD j []).length=c.length)
 (hi:i<c.length) (ah:gc<w0.heap.size) (hr:zal w0 gc oc c) (hb:Below w0.heap.size w0 w) (ai:Own w w0.heap.size g cap v):
 Calls Tryz.prog 171 #[(qS (some ⟨gc,oc,none⟩) n cc),.int .i64 i,(qS (some ⟨g,0,none⟩) m cap)] w (fun e w'=>e= .returned (.tuple #[])/\Own w' w0.heap.size g cap (refl c i v)/\w.grownBy w' (some g)):=by
 subst hn;subst hm;have OY:i<v.length:=by omega
 have FU:=ai.cell i OY;generalize hx:v.getD i 0=x at FU;have Hx:=qd hx;clear hx;have dq:v.length<=4:=by omega
 have Hv:=qd hv;clear hv
 go_enter Tryz.func171,Tryz.ntmps171
 go_wp2;go_loopw [14] (fun k wr=>∃t:Nat,t<=v.length/\k= .int .i64 t/\Own wr w0.heap.size g cap (zeI c i v t)/\w.grownBy wr (some g)) (fun k _=>v.length-(intOf k).toNat)
 case atStart=>exact⟨0,qz _,rfl,by rw[zvK];exact ai,World.grownBy.refl _ _⟩
 case round=>
  obtain⟨t,ht,rfl,ho,bn⟩:=hrel;by_cases ac:t<v.length
  ·have nK:t<c.length:=by have:=Hv.out;omega
   have hl:=zsC (c:=c) (i:=i) ht;have ae:Below w0.heap.size w0 wr:=hb.grown bn hb.size (by intro j hj;cases hj;exact ai.base);obtain⟨ga,oa,ca,q1,q2,q3,q4⟩:=hr.below ae ah t nK;have fe:=an t nK;have e2:=q4 i (by rw[fe];exact hi);have f1:=ho.cell t (by rw[hl];exact ac);rw[zzb ac] at f1;have f2:=ho.frozen t;rw[fe] at q1;have he:zdT c i v t=wrap64 (v.getD t 0-wrap64 (x*ent c t i)):=by rw[<-Hx.out];rfl
   have dI:(c.getD t []).getD i 0=ent c t i:=rfl;rw[dI] at e2;generalize ent c t i=y at*;generalize v.getD t 0=z at*;have me:w.grownBy wr.drew (some g):=zpL bn;have ar:Own wr.drew w0.heap.size g cap (zeI c i v t):=ho.drew;have f2':wr.drew.frozen? ⟨g,t,none⟩=false:=f2;have f1':wr.drew.cell? ⟨g,t,none⟩=some (.int .i64 z):=f1;clear bn fe dI;go_wp2
   set_option maxRecDepth 10000 in go_still_tail 14,(by kernel_rfl)
   change wpList _ _ _ _ _ wr.drew
   generalize wr.drew=w2 at*;go_wp2;go_roundw
   case rel=>
    have hs:=ar.set t (zdT c i v t);rw[zvJ ac,he] at hs;exact⟨t+1,by omega,by go_num,hs.1,World.grownBy.trans' me hs.2⟩
   case measure=>simp[intOf];omega
  ·obtain rfl:t=v.length:=by omega
   go_wp2
   go_end0
   rw[zxE] at ho;exact⟨rfl,ho,bn⟩
theorem zto{c:LL}{i:Nat}{v:LI}{k:Nat}:(List.range (k+1)).map (zdT c i v)=(List.range k).map (zdT c i v)++[zdT c i v k]:=by
 rw[List.range_succ,List.map_append];rfl
attribute [local go_sem ↓] Go.wp_at_zero Go.wp_at_succ
theorem zfC(gc oc n cc g o m cv i:Nat)(c:LL)(v:LI)(w:World)(hn:c.length=n)(hm:v.length=m)(dq:v.length<=c.length)(hx:c.length<=4)
 (an:∀j,j<c.length->(c.getD j []).length=c.length) (hi:i<v.length) (ah:gc<w.heap.size) (hg:g<w.heap.size) (hr:zal w gc oc c) (hv:zag w g o v):
 Calls Tryz.prog 112 #[(qS (some ⟨gc,oc,none⟩) n cc),.int .i64 i,(qS (some ⟨g,o,none⟩) m cv)] w (zav w (refl c i v)):=by
 subst hn;subst hm
 go_enter Tryz.func112,Tryz.ntmps112
 go_wp2;go_loopw [7,8] (fun s k wr=>∃t g' c':Nat,t<=v.length/\k= .int .i64 t/\s=(qS (some ⟨g',0,none⟩) t c')/\Own wr w.heap.size g' c' ((List.range t).map (zdT c i v))/\Below w.heap.size w wr) (fun _ k _=>v.length-(intOf k).toNat)
 case atStart=>exact⟨0,_,_,qz _,rfl,rfl,Own.empty (qr _),(Below.refl _ _).alloc (qr _) _⟩
 case round=>
  obtain⟨t,g',c',ht,rfl,rfl,ho,hb⟩:=hrel;by_cases ac:t<v.length
  ·have nK:t<c.length:=by omega
   obtain⟨ga,oa,ca,q1,q2,q3,q4⟩:=hr t nK
   replace q1:=(hb.cell (p:=⟨gc,oc+t,none⟩) ah).trans q1
   replace q4:=q4.below hb q3
   have fe:=an t nK;have nL:i<c.length:=by omega
   have e2:=q4 i (by rw[fe];exact nL);have e3:=hv.below hb hg t ac;have e4:=hv.below hb hg i hi;rw[fe] at q1;have he:zdT c i v t=IntKind.i64.wrap (v.getD t 0-IntKind.i64.wrap (v.getD i 0*ent c t i)):=by unfold zdT;simp only[wrap64,IntKind.wrap_i64]
   have dI:(c.getD t []).getD i 0=ent c t i:=rfl;rw[dI] at e2;generalize ent c t i=y at*;generalize v.getD t 0=z at*;generalize v.getD i 0=x at*;have jg:=qd dq;clear dq fe dI;go_wp2;have lZ:=ho.base;have ne1:some gc≠some g':=by intro e;cases e;omega
   have ne2:some ga≠some g':=by intro e;cases e;omega
   have ne3:some g≠some g':=by intro e;cases e;omega
   have fc:((List.range t).map (zdT c i v)).length=t:=by simp
   generalize AQ:(List.range t).map (zdT c i v)=ys at ho fc;have OZ:=qd AQ;clear AQ
   go_region_held3 (fun W=>W.cell? ⟨gc,oc+t,none⟩=some (.slice (some ⟨ga,oa,none⟩) c.length ca)/\W.cell? ⟨ga,oa+i,none⟩=some (.int .i64 y)/\W.cell? ⟨g,o+t,none⟩=some (.int .i64 z)/\W.cell? ⟨g,o+i,none⟩=some (.int .i64 x))
    (first|go_keep|exact⟨aK.cell (a:=⟨gc,oc+t,none⟩) q1 ne1,aK.cell (a:=⟨ga,oa+i,none⟩) e2 ne2,aK.cell (a:=⟨g,o+t,none⟩) e3 ne3,aK.cell (a:=⟨g,o+i,none⟩) e4 ne3⟩)
    ((refine zcH (w:=wr.drew) (by rfl) _ _ (by rfl) w.heap.size g' c' t wr.heap.size ys (IntKind.i64.wrap (z-IntKind.i64.wrap (x*y))) _ fc (by rfl) (by rfl) ho.drew (by rfl) (by rfl) (by omega) ?_;intro g3 c3 w3 al aK aY))
   go_wp2;go_roundw
   case rel=>
    rw[<-he,<-OZ.out,<-zto] at al;exact⟨t+1,g3,c3,by omega,by go_num,rfl,al,(Below.drew hb).grown aK hb.size (by intro j hj;cases hj;exact ho.base)⟩
   case measure=>simp[intOf];omega
  ·obtain rfl:t=v.length:=by omega
   go_wp2;go_ret;exact zav.mk' g' c' (zcf _ _ _) ho hb
end
section
open Go.RowKit
end
section
open Go.RowKit
attribute [local go_sem ↓] Go.wp_at_zero Go.wp_at_succ
theorem zpQ(g1 o1 c1 g2 o2 c2:Nat)(V:LI)(C:Int)(w:World)(hV:V.length<=1048576)(bm:g1<w.heap.size)(aP:g2<w.heap.size)(h1:zag w g1 o1 V)(h2:zag w g2 o2 V):
 Calls Tryz.prog 68 #[.agg #[(qS (some ⟨g1,o1,none⟩) V.length c1),.int .i64 C],.agg #[(qS (some ⟨g2,o2,none⟩) V.length c2),.int .i64 C]] w (zbb w (.bool true)):=by
 have k1:Hid (∀W,Below w.heap.size w W->Calls Tryz.prog 31 #[(qS (some ⟨g1,o1,none⟩) V.length c1),(qS (some ⟨g2,o2,none⟩) V.length c2)] W (zap W (.bool true))):=fun W hW=>zkh g1 o1 _ c1 g2 o2 _ c2 V W rfl rfl (by omega) (h1.below hW bm) (h2.below hW aP)
 clear h1 h2
 go_enter Tryz.func68,Tryz.ntmps68
 go_wp2_with fail;refine(k1.out _ zgu).mono ?_;rintro e w1 ⟨rfl,m1,rfl⟩;go_wp2_with fail;go_ret;exact⟨rfl,zgu⟩
theorem zoY(g1 o1 n1 c1 g2 o2 n2 c2:Nat)(l:List Wt)(w:World)(dL:l.length=n1)(da:l.length=n2)(hf:zgb l)(bm:g1<w.heap.size)(aP:g2<w.heap.size)(h1:zgo w g1 o1 l)(h2:zgo w g2 o2 l):
 Calls Tryz.prog 32 #[(qS (some ⟨g1,o1,none⟩) n1 c1),(qS (some ⟨g2,o2,none⟩) n2 c2)] w (zbb w (.bool true)):=by
 subst dL;subst da;have BK:=hf.1
 go_enter Tryz.func32,Tryz.ntmps32
 go_wp2;go_loopw [5] (fun i wr=>∃k:Nat,k<=l.length/\i= .int .i64 k/\Below w.heap.size w wr) (fun i _=>l.length-(intOf i).toNat)
 case atStart=>exact⟨0,qz _,rfl,Below.refl _ _⟩
 case round=>
  obtain⟨k,hk,rfl,hb⟩:=hrel;by_cases ac:k<l.length
  ·obtain⟨ga,oa,ca,p1,p2,p3,p4,p5⟩:=h1 k ac;obtain⟨gb,ob,cb,q1,q2,q3,q4,q5⟩:=h2 k ac;have FV:=hf.2 k ac;generalize wOf l k=V at*;generalize ziS l k=C at*
   have kk:Hid (∀W,Below w.heap.size w W->Calls Tryz.prog 68 #[.agg #[(qS (some ⟨ga,oa,none⟩) V.length ca),.int .i64 C],.agg #[(qS (some ⟨gb,ob,none⟩) V.length cb),.int .i64 C]] W (zbb W (.bool true))):=fun W hW=>
    zpQ ga oa ca gb ob cb V C W FV (qL p4 hW.size) (qL q4 hW.size) (p5.below hW p4) (q5.below hW q4)
   have hB:Below w.heap.size w wr.drew:=Below.drew hb;have u1:wr.drew.cell? ⟨g1,o1+k*2,none⟩=some (qS (some ⟨ga,oa,none⟩) V.length ca):=(hB.cell (p:=⟨g1,o1+k*2,none⟩) bm).trans p1;have u2:wr.drew.cell? ⟨g1,o1+k*2+1,none⟩=some (.int .i64 C):=(hB.cell (p:=⟨g1,o1+k*2+1,none⟩) bm).trans p2;have u3:wr.drew.cell? ⟨g2,o2+k*2,none⟩=some (qS (some ⟨gb,ob,none⟩) V.length cb):=(hB.cell (p:=⟨g2,o2+k*2,none⟩) aP).trans q1;have u4:wr.drew.cell? ⟨g2,o2+k*2+1,none⟩=some (.int .i64 C):=(hB.cell (p:=⟨g2,o2+k*2+1,none⟩) aP).trans q2;clear p1 p2 p3 q1 q2 q3 p5 q5 h1 h2 hf;go_wp2_with fail
   go_region_held3 (fun W=>Below w.heap.size w W/\W.cell? ⟨g1,o1+k*2,none⟩=some (qS (some ⟨ga,oa,none⟩) V.length ca)/\W.cell? ⟨g1,o1+k*2+1,none⟩=some (.int .i64 C)/\W.cell? ⟨g2,o2+k*2,none⟩=some (qS (some ⟨gb,ob,none⟩) V.length cb)/\W.cell? ⟨g2,o2+k*2+1,none⟩=some (.int .i64 C))
    (first|exact⟨hB,u1,u2,u3,u4⟩|exact⟨hB.trans (bT.mono hB.size),zaB bT u1,zaB bT u2,zaB bT u3,zaB bT u4⟩)
    ((go_at_call 68;refine(kk.out _ hB).mono ?_;rintro e wA ⟨rfl,bT⟩))
   have qG:=hB.trans (bT.mono hB.size);clear u1 u2 u3 u4 kk;go_wp2;go_roundw
   case rel=>exact⟨k+1,by omega,by go_num,qG⟩
   case measure=>simp[intOf];omega
  ·obtain rfl:k=l.length:=by omega
   go_wp2;go_ret;exact⟨rfl,hb⟩
end
section
open Go.Joins Go.ChangeShapes Go.WideShapes Go.RowKit Go.Deep
theorem zvL{α:Type}(d:α)(n:Nat)(Q:Nat->α->Prop)(h:∀i,i<n->∃p,Q i p):∃l:List α,l.length=n/\∀i,i<n->Q i (l.getD i d):=by
 induction n with
 |zero=>exact⟨[],rfl,by omega⟩
 |succ n ih=>
  obtain⟨l,hl,hq⟩:=ih (fun i hi=>h i (by omega));obtain⟨p,hp⟩:=h n (by omega);refine⟨l++[p],by simp[hl],fun i hi=>?_⟩;by_cases e:i=n
  ·subst e;simpa [List.getD,hl] using hp
  ·have:=hq i (by omega);have kl:i<l.length:=by omega
   simpa [List.getD,List.getElem?_append_left kl] using this
section
variable {H:Type} {enc:TypeId × Value->H} {w:World} {base:Nat}
end
end
end Go.Proofs.YtlgcmaoimpgedaaGreatDoor

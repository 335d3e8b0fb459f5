/- SyS SyO MulS -/
import Derived.Test.YtlgcmaoimpgedaaGreatDoorT44
set_option maxHeartbeats 4000000
set_option maxRecDepth 100000
set_option linter.unusedSimpArgs false
namespace Go.Proofs.YtlgcmaoimpgedaaGreatDoor
open Go.Value renaming slice->qS
section
open Go.RowKit Game
structure zkd(n:Nat)(o:LI):Prop where
 len:o.length=n
 box:∀j,j<n→-1000<=o.getD j 0/\o.getD j 0<=1000
theorem zkd.set{n:Nat}{o:LI}(h:zkd n o)(j:Nat){z:Int}(hz:-1000<=z/\z<=1000):zkd n (o.set j z):=
 ⟨by rw[List.length_set];exact h.len,fun k hk=>by
  rw[zqL]
  split
  ·exact hz
  ·exact h.box k hk⟩
theorem zyM(n:Nat):zkd n (List.replicate n 0):=⟨by simp,fun j hj=>by simp[List.getD,hj]⟩
section
variable {c:LL}
theorem zvw{i k:Nat}{o o':LI}(h:scK c i k o=some o'):
 (¬(0<o.getD i 0/\o.getD k 0=0/\i≠k/\ent c i k≠0/\(o.getD i 0*ent c i k).tmod (ent c k i)=0)/\o'=o)∨
 ((0<o.getD i 0/\o.getD k 0=0/\i≠k/\ent c i k≠0/\(o.getD i 0*ent c i k).tmod (ent c k i)=0)/\∃z,z=(o.getD i 0*ent c i k).tdiv (ent c k i)∧-1000<=z/\z<=1000/\o'=o.set k z):=by
 unfold scK at h
 split at h
 ·rename_i h0
  split at h
  ·rename_i h1
   cases h
   exact .inr ⟨h0,_,rfl,h1.1,h1.2,rfl⟩
  ·cases h
 ·rename_i h0
  cases h
  exact .inl ⟨h0,rfl⟩
theorem zqM{i t:Nat}{o S:LI}(h:zgr c i (t+1) o=some S):∃o',zgr c i t o=some o'/\scK c i t o'=some S:=by
 unfold zgr at h
 split at h
 ·cases h
 ·rename_i o' e;exact⟨o',e,h⟩
theorem zqN{t:Nat}{o S:LI}(h:zgs c (t+1) o=some S):∃o',zgs c t o=some o'/\zgr c t c.length o'=some S:=by
 unfold zgs at h
 split at h
 ·cases h
 ·rename_i o' e;exact⟨o',e,h⟩
theorem zqO{t:Nat}{o S:LI}(h:zhZ c (t+1) o=some S):∃o',zhZ c t o=some o'/\zgs c c.length o'=some S:=by
 unfold zhZ at h
 split at h
 ·cases h
 ·rename_i o' e;exact⟨o',e,h⟩
theorem zsr{i:Nat}{o S:LI}:∀{n:Nat} (t:Nat),t<n->zgr c i n o=some S->∃o1 o2,zgr c i t o=some o1/\scK c i t o1=some o2/\zgr c i (t+1) o=some o2
 |0,t,h,_=>by omega
 |n+1,t,h,e=>by
  obtain⟨o',e1,e2⟩:=zqM e;by_cases ht:t=n
  ·subst ht;exact⟨o',S,e1,e2,e⟩
  ·exact zsr t (by omega) e1
theorem zss{o S:LI}:∀{n:Nat} (t:Nat),t<n->zgs c n o=some S->∃o1 o2,zgs c t o=some o1/\zgr c t c.length o1=some o2/\zgs c (t+1) o=some o2
 |0,t,h,_=>by omega
 |n+1,t,h,e=>by
  obtain⟨o',e1,e2⟩:=zqN e;by_cases ht:t=n
  ·subst ht;exact⟨o',S,e1,e2,e⟩
  ·exact zss t (by omega) e1
theorem zst{o S:LI}:∀{n:Nat} (t:Nat),t<n->zhZ c n o=some S->∃o1 o2,zhZ c t o=some o1/\zgs c c.length o1=some o2/\zhZ c (t+1) o=some o2
 |0,t,h,_=>by omega
 |n+1,t,h,e=>by
  obtain⟨o',e1,e2⟩:=zqO e;by_cases ht:t=n
  ·subst ht;exact⟨o',S,e1,e2,e⟩
  ·exact zst t (by omega) e1
end
theorem zpF(gc oc n cc g1 o1 n1 c1:Nat)(c:LL)(p:List Nat)(d:Int)(S:LI)(w:World)(hn:c.length=n)(hC:IsC c)(dL:p.length=n1)(ls:1<=p.length)(tV:p.length<=4)(um:∀q∈p,q<c.length)(hd:0<=d/\d<=3)(hS:zoa c p d=some S)
 (ah:gc<w.heap.size) (bm:g1<w.heap.size) (hr:zal w gc oc c) (aI:zag w g1 o1 (zae p)):
 Calls Tryz.prog 180 #[(qS (some ⟨gc,oc,none⟩) n cc),(qS (some ⟨g1,o1,none⟩) n1 c1),.int .i64 d] w (zav w S):=by
 subst hn;subst dL;have aR:=hC.2.1;have dY:=qd hC.2.2.1;have zS:=qd (fun i j (hi:i<c.length) (hj:j<c.length) (ao:i≠j)=>(zbS hC).off i j hi hj ao)
 have eH:=qd (fun i j (hi:i<c.length) (hj:j<c.length)=>show -3<=ent c i j/\ent c i j<=3 from by
  by_cases e:i=j
  ·subst e;rw[(zbS hC).two i hi];omega
  ·have:=(zbS hC).off i j hi hj e;omega)
 obtain⟨p0,pf⟩:∃p0,p.getD 0 0=p0:=⟨_,rfl⟩;have vI:p0<c.length:=by rw[<-pf];exact um _ (by simp[List.getD,show 0<p.length by omega])
 have k0:=aI 0 (by rw[zai];omega);rw[zbB _ _ (by omega),pf,Nat.add_zero] at k0;unfold zoa at hS;rw[pf] at hS;have HS:=qd hS;clear hS pf um hC
 go_enter Tryz.func180,Tryz.ntmps180
 go_wp2_with (at_make;refine zbF rfl _ _ rfl w.heap.size c.length _ rfl rfl rfl (by omega) (qr _) ?_);intro w2 ar aP;have az:Below w.heap.size w w2:=(Below.refl _ _).grown aP (qr _) (by intro j hj;cases hj);have k0':=(az.cell (p:=⟨g1,o1,none⟩) bm).trans k0;have lu:w.heap.size<=w.heap.size:=qr _;obtain⟨gO,lu⟩:∃gO,w.heap.size=gO:=⟨_,rfl⟩;rw[lu] at ar;have EI:w.heap.size<=gO:=by omega
 have x0:=ar.cell p0 (by simpa using vI);have y0:=ar.frozen p0;obtain⟨s1,s2⟩:=ar.set p0 d;have ap:=az.grown s2 az.size (by intro j hj;cases hj;exact EI);have aN:zkd c.length ((List.replicate c.length 0).set p0 d):=(zyM _).set p0 (by omega);have Dc:=qd lu;rw[lu];clear lu ar aP az k0 s2;go_wp2_with fail;generalize (List.replicate c.length 0).set p0 d=o0 at*;clear x0 y0 k0';go_loopw [8] (fun kv wr=>∃(t:Nat) (o:LI),t<=p.length/\kv= .int .i64 t/\Hid (zhZ c t o0=some o)/\Hid (zkd c.length o)/\Own wr w.heap.size gO c.length o/\Below w.heap.size w wr) (fun kv _=>p.length-(intOf kv).toNat)
 case atStart=>exact⟨0,o0,qz _,rfl,rfl,aN,by rw[Dc.out];exact s1,ap⟩
 case round=>
  clear s1 ap aN;obtain⟨t,oa,ht,rfl,Ah,bE,ho,hb⟩:=hrel;by_cases bU:t<p.length
  ·obtain⟨oa',ob,e1,e2,e3⟩:=zst t bU HS.out;obtain rfl:oa=oa':=by rw[Ah.out] at e1;exact Option.some.inj e1
   have vc:=qd e2;have EJ:=qd e3;clear e1 e2 e3 Ah;go_wp2_with fail;go_loopw [9] (fun iv wi=>∃(i:Nat) (o:LI),i<=c.length/\iv= .int .i64 i/\Hid (zgs c i oa=some o)/\Hid (zkd c.length o)/\Own wi w.heap.size gO c.length o/\Below w.heap.size w wi) (fun iv _=>c.length-(intOf iv).toNat)
   case atStart=>exact⟨0,oa,qz _,rfl,rfl,bE,ho,hb⟩
   case round=>
    clear bE ho hb;obtain⟨i,o1,hi,rfl,aE,bE,ho,hb⟩:=hrel;by_cases bG:i<c.length
    ·obtain⟨o1',o2,e1,e2,e3⟩:=zss i bG vc.out;obtain rfl:o1=o1':=by rw[aE.out] at e1;exact Option.some.inj e1
     have EK:=qd e2;have Ai:=qd e3;clear e1 e2 e3 aE;go_wp2_with fail;go_loopw [10] (fun kv wi=>∃(k:Nat) (o:LI),k<=c.length/\kv= .int .i64 k/\Hid (zgr c i k o1=some o)/\Hid (zkd c.length o)/\Own wi w.heap.size gO c.length o/\Below w.heap.size w wi) (fun kv _=>c.length-(intOf kv).toNat)
     case atStart=>exact⟨0,o1,qz _,rfl,rfl,bE,ho,hb⟩
     case round=>
      clear bE ho hb;obtain⟨k,oo,hk,rfl,aC,bE,ho,hb⟩:=hrel;by_cases pC:k<c.length
      ·obtain⟨oo',on,e1,e2,e3⟩:=zsr k pC EK.out;obtain rfl:oo=oo':=by rw[aC.out] at e1;exact Option.some.inj e1
       have iF:=qd e3;have lJ:=zvw e2;clear e1 e2 e3 aC;have xi:=ho.cell i (by rw[bE.out.len];exact bG);have xk:=ho.cell k (by rw[bE.out.len];exact pC);have bX:=bE.out.box i bG;have qo:=hr.below hb ah;obtain⟨g2,o2,c2,a1,-,a3,a4⟩:=qo i bG;obtain⟨g3,o3,c3,b1,-,b3,b4⟩:=qo k pC;rw[dY.out i bG] at a1;rw[dY.out k pC] at b1;have a5:=a4 k (by rw[dY.out i bG];exact pC);have b5:=b4 i (by rw[dY.out k pC];exact bG);have ea:(c.getD i []).getD k 0=ent c i k:=rfl;have eb:(c.getD k []).getD i 0=ent c k i:=rfl;rw[ea] at a5;rw[eb] at b5;have bh:=eH.out i k bG pC;have zV:=zS.out i k bG pC;have ky:i≠k->ent c i k≠0->ent c k i≠0:=fun h1 h2 e=>h2 ((zV h1).2.2.2 e)
       have qp:=ho.frozen k;have bK:=fun z=>(ho.set k z)
       have kn:=fun z hz=>bE.out.set k (z:=z) hz
       clear a4 b4 ea eb zV qo;have kg:=qd bK;have Sp:=qd kn;have zM:=qd ky;clear bK kn ky;generalize oo.getD i 0=oi at*;generalize oo.getD k 0=ok at*;generalize ent c i k=eik at*;generalize ent c k i=eki at*
       have hm:-3000<=oi*eik/\oi*eik<=3000:=by
        have h1:(oi*eik).natAbs<=1000*3:=by
         rw[Int.natAbs_mul];exact Nat.mul_le_mul (by omega) (by omega)
        omega
       have w1:wrap64 (oi*eik)=oi*eik:=IntWalk.wrap64_in _ ⟨by omega,by omega⟩;have w1':IntKind.i64.wrap (oi*eik)=oi*eik:=IntWalk.i64_in _ ⟨by omega,by omega⟩;by_cases hA:0<oi
       ·by_cases hB:ok=0
        ·by_cases GP:i=k
         ·have Sr:((i:Int) != (k:Int))=false:=by rw[GP];simp
          obtain rfl:on=oo:=by
           rcases lJ with⟨-,h⟩|⟨h,-⟩
           ·exact h
           ·exact absurd h (by rintro ⟨q1,q2,q3,q4,q5⟩;exact q3 GP)
          clear lJ;go_wp2_with fail;go_quiet (fail)
          clear xi xk a1 a3 a5 b1 b3 b5 qp;go_wp2_with fail;go_roundw
          case rel=>exact⟨k+1,on,by omega,by go_num,iF,bE,ho.still ⟨nq,rfl⟩,zaf hb ⟨nq,rfl⟩⟩
          case measure=>simp[intOf];omega
         ·have Sr:((i:Int) != (k:Int))=true:=by rw[bne_iff_ne];omega
          by_cases hD:eik=0
          ·have JJ:(eik != 0)=false:=by rw[hD];rfl
           obtain rfl:on=oo:=by
            rcases lJ with⟨-,h⟩|⟨h,-⟩
            ·exact h
            ·exact absurd h (by rintro ⟨q1,q2,q3,q4,q5⟩;exact q4 hD)
           clear lJ;go_wp2_with fail;go_quiet (fail)
           clear xi xk a1 a3 a5 b1 b3 b5 qp;go_wp2_with fail;go_roundw
           case rel=>exact⟨k+1,on,by omega,by go_num,iF,bE,ho.still ⟨nq,rfl⟩,zaf hb ⟨nq,rfl⟩⟩
           case measure=>simp[intOf];omega
          ·have JJ:(eik != 0)=true:=by rw[bne_iff_ne];exact hD
           have Tv:=zM.out GP hD;by_cases hE:(oi*eik).tmod eki=0
           ·obtain⟨z,hz,eJ,gK,rfl⟩:∃z,z=(oi*eik).tdiv eki∧-1000<=z/\z<=1000/\on=oo.set k z:=by
             rcases lJ with⟨h,-⟩|⟨-,h⟩
             ·exact absurd ⟨hA,hB,GP,hD,hE⟩ h
             ·exact h
            have w2:wrap64 ((oi*eik).tdiv eki)=z:=by rw[<-hz];exact IntWalk.wrap64_in _ ⟨by omega,by omega⟩
            have w2':IntKind.i64.wrap ((oi*eik).tdiv eki)=z:=by rw[<-hz];exact IntWalk.i64_in _ ⟨by omega,by omega⟩
            have HZ:=qd (kg.out z);have Ss:=qd (Sp.out z ⟨eJ,gK⟩);clear lJ hz;go_wp2_with fail;go_quiet (fail)
            have q1:(wr.drewN nq).cell? ⟨gO,i,none⟩=_:=xi;have q2:(wr.drewN nq).cell? ⟨gO,k,none⟩=_:=xk;have q3:(wr.drewN nq).cell? ⟨gc,oc+i,none⟩=_:=a1;have q4:(wr.drewN nq).cell? ⟨g2,o2+k,none⟩=_:=a5;have q5:(wr.drewN nq).cell? ⟨gc,oc+k,none⟩=_:=b1;have q6:(wr.drewN nq).cell? ⟨g3,o3+i,none⟩=_:=b5;have q7:(wr.drewN nq).frozen? ⟨gO,k,none⟩=false:=qp
            have gX:Own ((wr.drewN nq).setCell ⟨gO,k,none⟩ (.int .i64 z)).drew w.heap.size gO c.length (oo.set k z):=by
             have h:=(ho.still ⟨nq,rfl⟩:Own (wr.drewN nq) _ _ _ _).set k z;exact h.1.still ⟨1,rfl⟩
            have dt:Below w.heap.size w ((wr.drewN nq).setCell ⟨gO,k,none⟩ (.int .i64 z)).drew:=by
             have h:=(ho.still ⟨nq,rfl⟩:Own (wr.drewN nq) _ _ _ _).set k z;have eV:=zaf hb ⟨nq,rfl⟩;exact Below.drew (eV.grown h.2 eV.size (by intro j hj;cases hj;exact EI))
            have Su:=qd gX;have Sv:=qd dt;clear xi xk a1 a5 b1 b5 qp ho hb gX dt HZ;generalize wr.drewN nq=w5 at*;go_wp2_with fail
            go_region
            clear q1 q2 q3 q4 q5 q6 q7;have gX:=Su.out;have dt:=Sv.out;go_wp2_with fail;go_roundw
            case rel=>exact⟨k+1,_,by omega,by go_num,iF,Ss,gX,dt⟩
            case measure=>simp[intOf];omega
           ·have Tw:decide ((oi*eik).tmod eki=0)=false:=decide_eq_false hE;have Sw:((oi*eik).tmod eki==0)=false:=by simpa using hE
            obtain rfl:on=oo:=by
             rcases lJ with⟨-,h⟩|⟨h,-⟩
             ·exact h
             ·exact absurd h (by rintro ⟨q1,q2,q3,q4,q5⟩;exact hE q5)
            clear lJ;go_wp2_with fail;go_quiet (fail)
            clear xi xk a1 a3 a5 b1 b3 b5 qp;go_wp2_with fail;go_roundw
            case rel=>exact⟨k+1,on,by omega,by go_num,iF,bE,ho.still ⟨nq,rfl⟩,zaf hb ⟨nq,rfl⟩⟩
            case measure=>simp[intOf];omega
        ·have Tx:decide (ok=0)=false:=decide_eq_false hB;have Sx:(ok==0)=false:=by simpa using hB
         obtain rfl:on=oo:=by
          rcases lJ with⟨-,h⟩|⟨h,-⟩
          ·exact h
          ·exact absurd h (by rintro ⟨q1,q2,q3,q4,q5⟩;exact hB q2)
         clear lJ;go_wp2_with fail;go_quiet (fail)
         clear xi xk a1 a3 a5 b1 b3 b5 qp;go_wp2_with fail;go_roundw
         case rel=>exact⟨k+1,on,by omega,by go_num,iF,bE,ho.still ⟨nq,rfl⟩,zaf hb ⟨nq,rfl⟩⟩
         case measure=>simp[intOf];omega
       ·have Ty:decide (0<oi)=false:=decide_eq_false hA;have Sy:decide (oi>0)=false:=decide_eq_false hA
        obtain rfl:on=oo:=by
         rcases lJ with⟨-,h⟩|⟨h,-⟩
         ·exact h
         ·exact absurd h (by rintro ⟨q1,q2,q3,q4,q5⟩;exact hA q1)
        clear lJ;go_wp2_with fail;go_quiet (fail)
        clear xi xk a1 a3 a5 b1 b3 b5 qp;go_wp2_with fail;go_roundw
        case rel=>exact⟨k+1,on,by omega,by go_num,iF,bE,ho.still ⟨nq,rfl⟩,zaf hb ⟨nq,rfl⟩⟩
        case measure=>simp[intOf];omega
      ·obtain rfl:k=c.length:=by omega
       obtain rfl:oo=o2:=by have h:=EK.out;rw[aC.out] at h;exact Option.some.inj h
       go_wp2_with fail;go_roundw
       case rel=>exact⟨i+1,oo,by omega,by go_num,Ai,bE,ho,hb⟩
       case measure=>simp[intOf];omega
    ·obtain rfl:i=c.length:=by omega
     obtain rfl:o1=ob:=by have h:=vc.out;rw[aE.out] at h;exact Option.some.inj h
     go_wp2_with fail;go_roundw
     case rel=>exact⟨t+1,o1,by omega,by go_num,EJ,bE,ho,hb⟩
     case measure=>simp[intOf];omega
  ·obtain rfl:t=p.length:=by omega
   obtain rfl:oa=S:=by have h:=HS.out;rw[Ah.out] at h;exact Option.some.inj h
   have am:=bE.out.len;go_wp2_with fail;go_ret;exact zav.mk' gO c.length am ho hb
end
section
open Go.RowKit Game
section
variable {c:LL}
theorem zIU{t:Nat}{P:List (List Nat)}{out F:LI}(ht:t<P.length)(h:znv c (P.drop t) out=some F):∃out',ziJ c (P.getD t []) out 3 1=some out'/\znv c (P.drop (t+1)) out'=some F:=by
 rw[List.drop_eq_getElem_cons ht] at h;have e:P.getD t []=P[t]:=by simp[List.getD,ht]
 rw[e];unfold znv at h
 split at h
 ·cases h
 ·rename_i out' e
  exact⟨out',e,h⟩
theorem zGo{P:List (List Nat)}{out F:LI}(h:znv c (P.drop P.length) out=some F):out=F:=by
 rw[List.drop_length] at h
 cases h;rfl
theorem zyN{p:List Nat}{d:Nat}{out out':LI}(h:ziJ c p out 0 d=some out'):out=out':=by
 cases h;rfl
theorem zGp{p:List Nat}{f d:Nat}{out out':LI}(h:ziJ c p out (f+1) d=some out'):
 ∃l,zoa c p d=some l/\((zgn l p=true/\out'=zia l p out)∨(zgn l p=false/\ziJ c p out f (d+1)=some out')):=by
 unfold ziJ at h
 split at h
 ·cases h
 ·rename_i l e
  refine⟨l,e,?_⟩
  split at h
  ·rename_i hf
   cases h
   exact .inl ⟨hf,rfl⟩
  ·rename_i hf
   exact .inr ⟨by simpa using hf,h⟩
theorem zwO(l:LI)(p:List Nat){t:Nat}(ht:t<p.length):zgn l (p.take (t+1))=(zgn l (p.take t)&&decide (0<l.getD (p.getD t 0) 0)):=by
 unfold zgn;have e:p.getD t 0=p[t]:=by simp[List.getD,ht]
 rw[qT ht,List.all_append,e];simp only[List.all_cons,List.all_nil,Bool.and_true]
theorem zyO(l:LI)(p:List Nat)(o:LI){t:Nat}(ht:t<p.length):zia l (p.take (t+1)) o=(zia l (p.take t) o).set (p.getD t 0) (l.getD (p.getD t 0) 0):=by
 unfold zia;rw[qT ht,List.foldl_append];simp[List.getD,ht]
theorem znD(l:LI):∀(p:List Nat) (o:LI),(zia l p o).length=o.length
 |[],_=>rfl
 |q::p,o=>by
  show(zia l p (o.set q _)).length=_;rw[znD l p];simp
theorem zIV{i k:Nat}{o o':LI}(h:scK c i k o=some o'):o'.length=o.length:=by
 rcases zvw h with⟨-,rfl⟩|⟨-,z,-,-,-,rfl⟩
 ·rfl
 ·simp
theorem zsu{i:Nat}:∀{t:Nat} {o o':LI},zgr c i t o=some o'->o'.length=o.length
 |0,o,o',h=>by cases h;rfl
 |t+1,o,o',h=>by
  obtain⟨o1,e1,e2⟩:=zqM h;rw[zIV e2,zsu e1]
theorem zsv:∀{t:Nat} {o o':LI},zgs c t o=some o'->o'.length=o.length
 |0,o,o',h=>by cases h;rfl
 |t+1,o,o',h=>by
  obtain⟨o1,e1,e2⟩:=zqN h;rw[zsu e2,zsv e1]
theorem zsw:∀{t:Nat} {o o':LI},zhZ c t o=some o'->o'.length=o.length
 |0,o,o',h=>by cases h;rfl
 |t+1,o,o',h=>by
  obtain⟨o1,e1,e2⟩:=zqO h;rw[zsv e2,zsw e1]
theorem zBo{p:List Nat}{d:Int}{l:LI}(h:zoa c p d=some l):l.length=c.length:=by
 unfold zoa at h;rw[zsw h];simp
end
theorem zkW(gc oc n cc:Nat)(c:LL)(w:World)(hn:c.length=n)(hC:IsC c)(hf:zaN c=true)(ah:gc<w.heap.size)(hr:zal w gc oc c):
 Calls Tryz.prog 139 #[(qS (some ⟨gc,oc,none⟩) n cc)] w (zbl w (zbt c) true):=by
 subst hn;have aR:=hC.2.1;have bD:=hC.2.2.1;have hZ:=zob hC hf;obtain⟨fs,P,GI,ug,cU,uT⟩:=zpa hC;have aa:=zcE gc oc _ cc c w rfl (by omega) (fun j hj=>by have:=bD j hj;omega) ah hr;rw[hf] at aa
 have hI:znv c P (List.replicate c.length 0)=some (zbt c):=by
  have h:=hZ.s;unfold zuX zqG at h;rw[ug] at h;exact h
 have jF:∀W,Below w.heap.size w W->Calls Tryz.prog 179 #[(qS (some ⟨gc,oc,none⟩) c.length cc)] W (zbC W (P.map zae)):=fun W hW=>
  zgX gc oc _ cc c P W rfl hC ug uT (qL ah hW.size) (hr.below hW ah)
 have rC:P.length<=4:=qt (zjx ug) aR;have ab:=qd aa;have jG:=qd jF;have mF:=qd (fun p hp=>zlR (cU p hp));have HI:=qd hI;have KG:=qd hZ.len;have HC:=qd hC;clear aa jF cU hI hZ bD GI ug hC uT
 go_enter Tryz.func139,Tryz.ntmps139
 go_wp2_with fail;refine ab.out.mono ?_;rintro e w1 ⟨rfl,ad⟩;clear ab;go_wp2_with (at_make;refine zbF rfl _ _ rfl w.heap.size c.length _ rfl rfl rfl (by omega) ad.size ?_);intro w2 ar aP;have az:Below w.heap.size w w2:=ad.grown aP ad.size (by intro j hj;cases hj);have lu:w.heap.size<=w1.heap.size:=ad.size;generalize w1.heap.size=gO at*;have Hp:=qd (jG.out w2 az);have qn:=ar.lt;clear jG ad aP;go_wp2_with fail;refine Hp.out.mono ?_;rintro e w3 ⟨gP,cP,rsP,rfl,fj,Ee,ag⟩;have ap:=az.trans (ag.mono az.size);have al:=ar.below ag qn;have Ef:(P.map zae).length=P.length:=by simp
 rw[Ef];clear Hp ag ar az;go_wp2_with fail;go_loopw [6] (fun kv wr=>∃(t:Nat) (out:LI),t<=P.length/\kv= .int .i64 t/\Hid (znv c (P.drop t) out=some (zbt c))/\Hid (out.length=c.length)/\Own wr w.heap.size gO c.length out/\zab wr w2.heap.size gP cP rsP/\Below w.heap.size w wr) (fun kv _=>P.length-(intOf kv).toNat)
 case atStart=>exact⟨0,List.replicate c.length 0,qz _,rfl,HI,by show _=_;simp,al,Ee,ap⟩
 case round=>
  clear al ap HI Ee;obtain⟨t,out,ht,rfl,zT,mB,ho,mS,hb⟩:=hrel;by_cases bU:t<P.length
  ·obtain⟨out',oN,sT⟩:=zIU bU zT.out;have rW:P.getD t []∈P:=by simp[List.getD,bU]
   obtain⟨ls,tV,um⟩:=mF.out _ rW;have im:t<rsP.length:=by rw[<-zac,fj,Ef];exact bU
   have q0:wr.cell? ⟨gP,t,none⟩=some (zah rsP[t]):=by
    rw[mS.1.cell t (by simpa using im)];simp
   have ev:=qd (fun W (h:zab W w2.heap.size gP cP rsP)=>h.2.1 _ (List.getElem_mem im))
   have e1:rsP[t].2.2=zae (P.getD t []):=by
    rw[<-zck im,fj];simp[List.getD,bU]
   generalize rsP[t]=rj at*;obtain⟨gj,cj,xj⟩:=rj;dsimp only at e1 ev;subst e1;have q1:wr.cell? ⟨gP,t,none⟩=some (qS (some ⟨gj,0,none⟩) ((zae (P.getD t [])).length) cj):=q0;rw[zai] at q1;clear q0 rW;generalize P.getD t []=p at*;have EL:=qd oN;have pR:=qd sT;have GK:=qd um;have fS:Hid (p.take p.length=p):=qd (List.take_length);have Ei:=qd (fun t (ht:t<p.length)=>um (p.getD t 0) (by simp[List.getD,ht]));have bP:(zae p).length=p.length:=zai p;clear oN sT um zT;go_wp2_with fail;go_loopw [8] (fun dv wi=>∃f d:Nat,f+d=4/\1<=d/\dv= .int .i64 d/\Hid (ziJ c p out f d=some out')/\Own wi w.heap.size gO c.length out/\zab wi w2.heap.size gP cP rsP/\Below w.heap.size w wi) (fun dv _=>5-(intOf dv).toNat)
   case atStart=>exact⟨3,1,rfl,by omega,rfl,EL,ho,mS,hb⟩
   case round=>
    clear EL ho mS hb;obtain⟨f,d,oX,dZ,rfl,oN,ho,mS,hb⟩:=hrel;by_cases cJ:d<=3
    ·obtain⟨f',rfl⟩:∃f',f=f'+1:=⟨f-1,by omega⟩;obtain⟨l,EG,aY⟩:=zGp oN.out;have pj:=ev.out wr mS;have aa:=zpF gc oc _ cc gj 0 p.length cj c p (d:Int) l wr rfl HC.out rfl ls tV GK.out (by omega) EG (qL ah hb.size) pj.lt (hr.below hb ah) pj.cells;have vA:=zBo EG;have ab:=qd aa;have lW:=qd aY;have GF:=qd vA;clear aa aY EG oN pj;go_wp2_with fail;refine ab.out.mono ?_;rintro e w5 ⟨gl,cl,rfl,vO,aQ⟩;have aD:=ho.below aQ ho.lt;have Aj:=mS.below aQ;have bj:=hb.trans (aQ.mono hb.size);have jk:gO<gl:=qL ho.lt vO.base;have Ak:=ev.out w5 Aj;have uL:=qd (fun t (ht:t<p.length)=>zwO l p ht);have sW:=qd (fun t (ht:t<p.length)=>zyO l p out ht);have fE:=qd (fun t=>(znD l (p.take t) out).trans mB.out);rw[vA];clear ab ho mS hb aQ vA;go_wp2_with fail;go_loopw [10,11] (fun fv tv wi=>∃t:Nat,t<=p.length/\tv= .int .i64 t/\fv= .bool (zgn l (p.take t))/\∃q,wi=w5.drewN q) (fun _ tv _=>p.length-(intOf tv).toNat)
     case atStart=>exact⟨0,qz _,rfl,by simp[zgn],0,rfl⟩
     case round=>
      obtain⟨t2,AO,rfl,rfl,hs⟩:=hrel;by_cases ii:t2<p.length
      ·have kp:=(zau hs _).trans (Ak.cell t2 (by rw[bP];exact ii));rw[zbB _ _ ii] at kp;have jy:=Ei.out t2 ii;have uK:=uL.out t2 ii;generalize p.getD t2 0=i at*;have ki:=(zau hs _).trans (vO.cell i (by rw[GF.out];exact jy));generalize l.getD i 0=x at*;have vP:=qd uK;clear uK
       cases aN:zgn l (p.take t2) with
       |false=>
        rw[aN,Bool.false_and] at vP;go_wp2_with fail;go_roundw
        case rel=>exact⟨t2+1,by omega,by go_num,by rw[vP.out],hs⟩
        case measure=>simp[intOf];omega
       |true=>
        rw[aN,Bool.true_and] at vP;go_wp2_with fail;go_roundw
        case rel=>exact⟨t2+1,by omega,by go_num,by rw[vP.out],hs⟩
        case measure=>simp[intOf];omega
      ·obtain rfl:t2=p.length:=by omega
       rw[fS.out];have aO:=aD.still hs;have Al:=Aj.still hs;have de:=zaf bj hs;have Am:=vO.still hs;have EM:=Ak.still hs;clear aD Aj bj vO Ak hs uL
       cases mP:zgn l p with
       |true=>
        have lq:out'=zia l p out:=by
         rcases lW.out with⟨-,h⟩|⟨h,-⟩
         ·exact h
         ·rw[mP] at h;cases h
        have vJ:=qd lq;clear lq lW;go_wp2_with fail;go_loopw [12] (fun tv wi=>∃t:Nat,t<=p.length/\tv= .int .i64 t/\Own wi w.heap.size gO c.length (zia l (p.take t) out)/\zab wi w2.heap.size gP cP rsP/\Own wi 0 gl cl l/\Below w.heap.size w wi) (fun tv _=>p.length-(intOf tv).toNat)
        case atStart=>exact⟨0,qz _,rfl,aO,Al,Am.mono (qz _),de⟩
        case round=>
         clear aO Al Am de EM;obtain⟨t3,RQ,rfl,ho,mS,vQ,hb⟩:=hrel;by_cases ii:t3<p.length
         ·have kp:=(ev.out wr mS).cell t3 (by rw[bP];exact ii);rw[zbB _ _ ii] at kp;have jy:=Ei.out t3 ii;have kY:=sW.out t3 ii;have ya:=fE.out t3;generalize p.getD t3 0=i at*;have ki:=vQ.cell i (by rw[GF.out];exact jy);have kO:=ho.cell i (by rw[ya];exact jy);have qp:=ho.frozen i;generalize l.getD i 0=x at*;obtain⟨s1,s2⟩:=ho.set i x;rw[<-kY] at s1;have Lp:=(mS.keep s2 qn).still (b:=(wr.setCell ⟨gO,i,none⟩ (.int .i64 x)).drew) ⟨1,rfl⟩;have Lq:=(vQ.grown s2 (fun e=>by have:=Option.some.inj e;omega)).still (b:=(wr.setCell ⟨gO,i,none⟩ (.int .i64 x)).drew) ⟨1,rfl⟩;have ae:=Below.drew (hb.grown s2 hb.size (by intro j hj;cases hj;exact lu));have s3:=s1.still (b:=(wr.setCell ⟨gO,i,none⟩ (.int .i64 x)).drew) ⟨1,rfl⟩;generalize zia l (p.take t3) out=O at*;clear ho mS vQ hb s2 s1 kY ya;go_wp2_with fail
          go_region
          go_wp2_with fail;go_roundw
          case rel=>exact⟨t3+1,by omega,by go_num,s3,Lp,Lq,ae⟩
          case measure=>simp[intOf];omega
         ·obtain rfl:t3=p.length:=by omega
          rw[fS.out,<-vJ.out] at ho
          have pE:Hid (out'.length=c.length):=by
           show _=_;rw[vJ.out,znD];exact mB.out
          clear vQ;go_wp2_with fail;go_roundw
          case rel=>exact⟨t+1,out',by omega,by go_num,pR.out,pE.out,ho,mS,hb⟩
          case measure=>simp[intOf];omega
       |false=>
        have xA:ziJ c p out f' (d+1)=some out':=by
         rcases lW.out with⟨h,-⟩|⟨-,h⟩
         ·rw[mP] at h;cases h
         ·exact h
        have Hn:=qd xA;clear xA lW Am EM;go_wp2_with fail;go_roundw
        case rel=>exact⟨f',d+1,by omega,by omega,by go_num,Hn.out,aO,Al,de⟩
        case measure=>simp[intOf];omega
    ·obtain rfl:f=0:=by omega
     have he:=zyN oN.out;subst he;clear oN;go_wp2_with fail;go_roundw
     case rel=>exact⟨t+1,out,by omega,by go_num,pR.out,mB.out,ho,mS,hb⟩
     case measure=>simp[intOf];omega
  ·obtain rfl:t=P.length:=by omega
   have he:=zGo zT.out;subst he;have am:=KG.out;go_wp2_with fail;go_ret2;exact zbl.mk' gO c.length am ho hb
end
section
open Go.RowKit Game Stb
structure zhm(c:LL)(v:LI)(L us lf:LL):Prop where
 perm:(us++lf).Perm L
 srt:us.Pairwise fun a b=>zak (zaD c v a)<=zak (zaD c v b)
 cut:∀a∈us,∀b∈lf,zak (zaD c v a)<=zak (zaD c v b)
section
variable {c:LL} {v:LI} {L us lf:LL}
theorem zhm.start(c:LL)(v:LI)(L:LL):zhm c v L [] L:=⟨List.Perm.refl _,List.Pairwise.nil,by simp⟩
theorem zhm.pick(h:zhm c v L us lf){k:Nat}(hk:k<lf.length)(tp:∀j,j<lf.length->zak (zaD c v (lf.getD k []))<=zak (zaD c v (lf.getD j []))):zhm c v L (us++[lf.getD k []]) (lf.take k++lf.drop (k+1)):=by
 have e:lf.getD k []=lf[k]:=by simp[List.getD,hk]
 have An:lf=lf.take k++lf[k]::lf.drop (k+1):=by rw[<-List.drop_eq_getElem_cons hk,List.take_append_drop]
 have bR:∀b,b∈lf.take k++lf.drop (k+1)->b∈lf:=fun b hb=>by
  rcases List.mem_append.1 hb with h1|h1
  ·exact List.mem_of_mem_take h1
  ·exact List.mem_of_mem_drop h1
 have aE:∀b∈lf,zak (zaD c v (lf.getD k []))<=zak (zaD c v b):=fun b hb=>by
  obtain⟨j,hj,rfl⟩:=List.mem_iff_getElem.1 hb;have:=tp j hj;simpa [List.getD,hj] using this
 refine⟨?_,?_,fun a ha b hb=>?_⟩
 ·refine List.Perm.trans ?_ h.perm;rw[List.append_assoc];refine List.Perm.append_left us ?_;rw[e]
  conv=>rhs;rw[An]
  show(lf[k]::(lf.take k++lf.drop (k+1))).Perm _;exact List.perm_middle.symm
 ·rw[List.pairwise_append];refine⟨h.srt,List.pairwise_singleton _ _,fun a ha b hb=>?_⟩;rw[List.mem_singleton] at hb;subst hb;exact h.cut a ha _ (by rw[e];exact List.getElem_mem _)
 ·rcases List.mem_append.1 ha with h1|h1
  ·exact h.cut a h1 b (bR b hb)
  ·rw[List.mem_singleton] at h1;subst h1;exact aE b (bR b hb)
theorem zhm.fin(h:zhm c v L us [])(hS:zbi c v)(hP:zbI c)(hL:zer (nxD c) (zaq c).length v L):zgx c v us/\∀t,t∈us↔t∈L:=by
 have hp:=h.perm;rw[List.append_nil] at hp;exact⟨⟨hp.nodup_iff.2 hL.1.nodup,fun t ht=>zbw.rch hS hP ((hL.2 t).1 (hp.mem_iff.1 ht)),hp.mem_iff.2 ((hL.2 v).2 (Rch.self v)),h.srt⟩,fun t=>hp.mem_iff⟩
end
theorem zrx{w:World}{B g cap B2 g2 c2:Nat}{vs:List Value}{rs:List RowRef}(h:zaI w B 25 g cap vs)(h2:zab w B2 g2 c2 rs)(o2 m cs:Nat)(hm:o2+m<=rs.length)(am:vs.length+m<=1048576)(ty:TypeId):
 ∃g' cap' w',(Builtin.append_ #[24,24] ty #[(qS (some ⟨g,0,none⟩) vs.length cap),(qS (some ⟨g2,o2,none⟩) m cs)]).run Tryz.prog w= .ok (qS (some ⟨g',0,none⟩) (vs.length+m) cap') w'/\zaI w' B 25 g' cap' (vs++((rs.drop o2).take m).map zah)/\w.grownBy w' (some g)/\(g'=g∨g'=w.heap.size):=by
 have hk:zaE w B 25 1 g cap vs.length vs:=h;have hl:(((rs.drop o2).take m).map zah).length=m:=by simp;omega
 have dp:∀j u,(((rs.drop o2).take m).map zah)[j]? =some u->w.cell? ⟨g2,o2+j,none⟩=some u:=fun j u hu=>by
  have hj:j<m:=by have:=(List.getElem?_eq_some_iff.1 hu).1;rwa [hl] at this
  rw[h2.1.cell (o2+j) (by simp;omega),<-hu];simp[hj,List.getElem?_drop,show o2+j<rs.length by omega]
 have h1:∀u∈(((rs.drop o2).take m).map zah),u.oneCell'=true:=fun u hu=>by
  obtain⟨r,-,rfl⟩:=List.mem_map.1 hu;rfl
 obtain⟨g',cap',w',q1,q2,q3,q4⟩:=ziU (S:=24) zkC Tryz.underlying24 rfl (by decide) (by decide) hk g2 o2 m cs (((rs.drop o2).take m).map zah) (by rw[hl];omega) dp h1 am ty;refine⟨g',cap',w',q1,?_,q3,q4⟩;unfold zaI;rw[qA,hl];exact q2
theorem zke{w:World}{ops:Array Oper}{o:Oper}{a:Act}{K:Act->World->Prop}{Q:Exit->Act->World->Prop}{E:Prop}(dH:o.guard=none)(s x:Operand)
 (ho:o.op= .call {callee:= .builtin .append,args:=#[s,x],argTypes:=#[24,24]})
 (B g cap n B2 g2 c2 o2 m cs r:Nat) (vs:List Value) (rs:List RowRef) (hn:vs.length=n) (ai:zaI w B 25 g cap vs) (h2:zab w B2 g2 c2 rs) (hm:o2+m<=rs.length)
 (hs:a.eval s=(qS (some ⟨g,0,none⟩) n cap)) (hx:a.eval x=(qS (some ⟨g2,o2,none⟩) m cs)) (am:n+m<=1048576) (hr:n+m=r)
 (h:∀g' cap' w',zaI w' B 25 g' cap' (vs++((rs.drop o2).take m).map zah)->w.grownBy w' (some g)->(g'=g∨g'=w.heap.size)->K (a.put o.dst (qS (some ⟨g',0,none⟩) r cap')) w'):
 if Region.wanted o (yielded ops a.tmps)=true then Oper.wp Tryz.prog o a w K Q else E:=by
 subst hn;subst hr;have hw:Region.wanted o (yielded ops a.tmps)=true:=by simp[Region.wanted,dH]
 rw[if_pos hw];obtain⟨g',cap',w',cz,Me,h3,h4⟩:=zrx ai h2 o2 m cs hm am o.type;unfold Oper.wp execOp;simp only[ho,resolve,invoke,builtin,Sem.run_bind,Sem.run_pure,Result.andThen_ok,List.map_toArray,List.map_cons,List.map_nil,hs,hx,cz];exact h g' cap' w' Me h3 h4
theorem zKJ{a a1 q:Nat}(h:a1=a+1)(h1:a1<=q)(hq:q<=200):a+(q-a1)<=1048576:=by omega
theorem zKK{a a1 q:Nat}(h:a1=a+1)(h1:a1<=q):a+(q-a1)=q-1:=by omega
theorem zKL{lr:List RowRef}{a q:Nat}(hl:lr.length=q)(h:a<q):(([]:List Value)++List.map zah (List.take a (List.drop 0 lr))).length=a:=by
 simp;omega
theorem zKM{gF a1 q cF:Nat}{lr:List RowRef}(h:a1<=q)(hl:lr.length=q)(hq:q<=cF):
 ∃o2,qS (if cF=a1 then some {block:=gF,off:=0} else some {block:=gF,off:=a1}) (q-a1) (cF-a1)=(qS (some ⟨gF,o2,none⟩) (q-a1) (cF-a1))/\o2+(q-a1)<=lr.length/\(lr.drop o2).take (q-a1)=lr.drop a1:=by
 by_cases e:cF=a1
 ·refine⟨0,by rw[if_pos e],by omega,?_⟩;have e2:q-a1=0:=by omega
  rw[e2,List.take_zero,List.drop_eq_nil_of_le (by omega)]
 ·refine⟨a1,by rw[if_neg e],by omega,?_⟩;rw[qF (by rw[List.length_drop];omega)]
theorem zGq{w:World}{B B2 g cap a a1 o2 m:Nat}{lr:List RowRef}(hv:zaI w B2 25 g cap (([]++((lr.drop 0).take a).map zah)++((lr.drop o2).take m).map zah))(ho:(lr.drop o2).take m=lr.drop a1)(ha:a1=a+1)(hi:zcS w B lr)(hB:B<=B2):zab w B g cap (lr.take a++lr.drop a1):=by
 rw[ho,List.nil_append,List.drop_zero,<-List.map_append] at hv;refine⟨hv.mono hB,fun r hr=>hi.1 r ?_,?_⟩
 ·rcases List.mem_append.1 hr with h|h
  ·exact List.mem_of_mem_take h
  ·exact List.mem_of_mem_drop h
 ·have hs:(lr.take a++lr.drop a1).Sublist lr:=by
   have h1:=List.Sublist.append (List.Sublist.refl (lr.take a)) (List.drop_sublist_drop_left lr (show a<=a1 by omega))
   rwa [List.take_append_drop] at h1
  exact(hs.map _).nodup hi.2
theorem zIW{lr:List RowRef}{a a1 q:Nat}(ha:a1=a+1)(h:a1<=q)(hl:lr.length=q):(lr.take a++lr.drop a1).length=q-1:=by
 rw[qA,List.length_take,List.length_drop];omega
theorem zIX{lr:List RowRef}{a a1:Nat}(ha:a1=a+1):zaa (lr.take a++lr.drop a1)=(zaa lr).take a++(zaa lr).drop (a+1):=by
 subst ha;simp[zaa,List.map_take,List.map_drop]
theorem zhn(gc oc n cc g o m cv:Nat)(c:LL)(v:LI)(w:World)(hn:c.length=n)(hm:v.length=m)(aS:m<=cv)(hS:zbi c v)
 (ah:gc<w.heap.size) (hg:g<w.heap.size) (hr:zal w gc oc c) (hv:zag w g o v):
 Calls Tryz.prog 88 #[(qS (some ⟨gc,oc,none⟩) n cc),(qS (some ⟨g,o,none⟩) m cv)] w (fun e w'=>∃out b,MlM c v out b/\zaO w out b e w'):=by
 subst hn;have dq:=hS.len;obtain rfl:c.length=m:=by omega
 have hP:=zcJ hS.fin;have hC:=hS.hC;have aR:=hC.2.1;have bD:=hC.2.2.1;obtain⟨L,bL,hL⟩:=znP (nxD c) (zaq c).length v;have il:=fun W (hW:Below w.heap.size w W)=>zgI gc oc _ cc g o _ cv c v L bL W rfl dq aS hS hP hL (qL ah hW.size) (qL hg hW.size) (hr.below hW ah) (hv.below hW hg)
 have fJ:=fun W (hW:Below w.heap.size w W)=>zqA gc oc _ cc c W rfl (by omega) (fun j hj=>by have:=bD j hj;omega) (qL ah hW.size) (hr.below hW ah)
 have En:=fun W (hW:Below w.heap.size w W)=>zkW gc oc _ cc c W rfl hC hS.fin (qL ah hW.size) (hr.below hW ah)
 have kY:=fun W (hW:Below w.heap.size w W)=>zgm gc oc _ cc c W rfl (by omega) (fun j hj=>by have:=bD j hj;omega) (qL ah hW.size) (hr.below hW ah)
 rw[zeA hS.fin,hS.fin] at kY;have mT:=qd il;have tX:=qd fJ;have Eo:=qd En;have sW:=qd kY;have HS:=qd hS;have HP:=qd hP;have HC:=qd hC;have HL:=qd hL;have jg:=qd dq;have dY:=qd bD;clear il fJ En kY hS hP hC hL dq bD;have aN:Below w.heap.size w (w.alloc (.cells #[] 36)):=(Below.refl _ _).alloc (qr _) _;have rh:=qd (mT.out _ aN);clear mT
 go_enter Tryz.func88,Tryz.ntmps88
 go_wp2_with fail;refine rh.out.mono ?_;rintro e w1 ⟨gL,cL,rsL,rfl,pi,nE,ad⟩;have dc:=aN.trans (ad.mono aN.size);have nE:=nE.mono (show w.heap.size<=_ from aN.size);have EN:zas w1 w.heap.size w.heap.size 0 []:=(zas.empty (w:=w) (qr _)).below ad
 have Lr:w.heap.size≠gL:=by
  have h1:=nE.1;exact zaE.neV EN.1 h1 (by decide)
 clear rh aN ad
 cases bL with
 |false=>
  have aJ:zlr (nxD c) (zaq c).length v/\L=[]:=by
   rcases HL.out with⟨-,-,h⟩|⟨h,h2,-⟩
   ·cases h
   ·exact⟨h,h2⟩
  have sN:=qd aJ.1;clear aJ;go_wp2_with fail;go_ret2;exact⟨[],false,.inr ⟨rfl,rfl,.inr sN.out⟩,zaO.mk' _ _ [] rfl rfl EN dc⟩
 |true=>
  have iB:zer (nxD c) (zaq c).length v L/\L.length<=200:=by
   rcases HL.out with⟨h1,h2,-⟩|⟨-,-,h⟩
   ·exact⟨h1,h2⟩
   ·cases h
  have kH:=qd iB;have gC:=qd (tX.out w1 dc);clear iB tX;by_cases aB:szO c<=200
  ·have KS:¬(200:Int)<szO c:=by omega
   have hF:=zro HC.out HS.out.fin aB;have hK:=zpm HS.out.fin;have HF:=qd hF;have HK:=qd hK;have vK:=qd aB;clear hF hK aB;go_wp2_with fail;refine gC.out.mono ?_;rintro e w2 ⟨rfl,ae⟩;have az:=dc.trans (ae.mono dc.size);have sX:=nE.below ae;have ia:=EN.below ae;have xa:=qd (sW.out w2 az);clear gC sW ae nE dc EN;go_wp2_with fail;refine xa.out.mono ?_;rintro e w3 ⟨gR,cR,rsR,rfl,sq,mO,ag⟩;have ap:=az.trans (ag.mono az.size);have oH:=sX.below ag;have qw:=ia.below ag;have oO:=mO.mono az.size;have Sz:=qd sq;have Er:=qd (Eo.out w3 ap);clear xa Eo ag sX az ia mO sq;go_wp2_with fail;refine Er.out.mono ?_;rintro e w4 ⟨gd,cd,rfl,my,aM⟩;have aG:=ap.trans (aM.mono ap.size);have oI:=oH.below aM;have vR:=qw.below aM;have EO:=oO.below aM;have sY:=my.mono ap.size;have mI:=(znw HC.out HS.out.fin).len;rw[mI];have tZ:=qd mI;have pn:L.length<=200:=kH.out.2;clear Er ap aM oH qw oO my mI;go_wp2_with fail;go_loopg [6,13] 300 (fun gk ov lv wr=>∃(p q gO cO gF cF:Nat) (rs:List WRef) (us:LL) (lr:List RowRef),p+q=L.length/\q<=gk/\ov=(qS (some ⟨gO,0,none⟩) p cO)/\lv=(qS (some ⟨gF,0,none⟩) q cF)/\Hid (rs.length=p)/\Hid (lr.length=q)/\Hid (us.length=p)/\Hid (zhm c v L us (zaa lr))/\Hid (zaz rs=zaX c (zbt c) v (zaD c v) us)/\zas wr w.heap.size gO cO rs/\zab wr w.heap.size gF cF lr/\Own wr w.heap.size gd cd (zbt c)/\zab wr w.heap.size gR cR rsR/\Below w.heap.size w wr)
   case atStart=>exact⟨0,L.length,w.heap.size,0,gL,cL,[],[],rsL,by omega,by omega,rfl,rfl,rfl,by show _=_;rw[<-pi,zac],rfl,by show zhm _ _ _ _ _;rw[pi];exact zhm.start c v L,rfl,vR,oI,sY,EO,aG⟩
   case round=>
    clear vR oI sY EO aG Lr pi;obtain⟨p,q,gO,cO,gF,cF,rs,us,lr,NV,Tz,rfl,rfl,cK,qP,vM,tq,ak,ho,hl,my,mO,hb⟩:=hrel;by_cases Br:0<q
    ·have Ao:(zaa lr).length=q:=by rw[zac];exact qP.out
     have EP:∀t∈zaa lr,zbw c v t:=fun t ht=>zbw.rch HS.out HP.out ((kH.out.1.2 _).1 (tq.out.perm.mem_iff.1 (List.mem_append_right _ ht)))
     have aC:∀k (hk:k<q),zbw c v ((zaa lr).getD k []):=fun k hk=>EP _ (by simp[List.getD,Ao,hk])
     have ev:=qd aC;obtain⟨wo,rfl⟩:∃wo:World,wo=wr:=⟨_,rfl⟩;clear aC EP;go_wp2_with fail;go_loopw [14,15] (fun av iv wi=>∃a i:Nat,a<q/\1<=i/\i<=q/\av= .int .i64 a/\iv= .int .i64 i/\Hid (∀j,j<i->zak (zaD c v ((zaa lr).getD a []))<=zak (zaD c v ((zaa lr).getD j [])))/\Below wo.heap.size wo wi) (fun _ iv _=>q-(intOf iv).toNat)
     case atStart=>exact⟨0,1,Br,qr _,Br,rfl,rfl,qd (fun j hj=>by have e:j=0:=(by omega);subst e;exact Int.le_refl _),Below.refl _ _⟩
     case round=>
      obtain⟨a,i,ha,TA,TB,rfl,rfl,tp,bX⟩:=hrel;by_cases bG:i<q
      ·have un:=hl.below bX;have GQ:i<lr.length:=by rw[qP.out];exact bG
       have xB:a<lr.length:=by rw[qP.out];exact ha
       have q1:wr.cell? ⟨gF,i,none⟩=some (zah lr[i]):=by
        rw[un.1.cell i (by simpa using GQ)];simp
       have q2:wr.cell? ⟨gF,a,none⟩=some (zah lr[a]):=by
        rw[un.1.cell a (by simpa using xB)];simp
       have au:=un.2.1 _ (List.getElem_mem GQ);have ar:=un.2.1 _ (List.getElem_mem xB);have ad:=ev.out i bG;have ae:=ev.out a ha;have GR:=tp.out;rw[zck GQ] at ad;rw[zck xB] at ae GR;have e1:=zck GQ;have e2:=zck xB;generalize lr[i]=r1 at*;generalize lr[a]=r2 at*;obtain⟨bi,ci,x1⟩:=r1;obtain⟨ba,ca,x2⟩:=r2;dsimp only at ad ae GR e1 e2 au ar;have q1':wr.drew.cell? ⟨gF,i,none⟩=some (qS (some ⟨bi,0,none⟩) c.length ci):=by rw[<-ad.len];exact q1
       have q2':wr.drew.cell? ⟨gF,a,none⟩=some (qS (some ⟨ba,0,none⟩) c.length ca):=by rw[<-ae.len];exact q2
       have pT:=hb.trans (bX.mono hb.size)
       have dep:∀(zg zc:Nat) (z:LI) (V:World),zbw c v z->Below wr.heap.size wr V->Own wr w.heap.size zg zc z->Calls Tryz.prog 140 #[(qS (some ⟨gc,oc,none⟩) c.length cc),(qS (some ⟨g,o,none⟩) c.length cv),(qS (some ⟨zg,0,none⟩) c.length zc)] V (zav V (zaD c v z)):=fun zg zc z V hz hV Ox=>by
        have Cq:=hz.box;have bZ:=HS.out.small;have GT:=pT.trans (hV.mono pT.size);have gX:=Ox.below hV Ox.lt;exact zjz gc oc _ cc g o cv zg 0 zc c v z V rfl hz.len HS.out.len (fun j hj=>by have:=bZ j hj;omega) (fun j hj=>by have:=Cq j hj;omega) HK.out (qL ah GT.size) (qL hg GT.size) gX.lt (hr.below GT ah) (hv.below GT hg) gX.cells
       have k1:=qd (fun V hV=>dep bi ci x1 V ad hV au);have k2:=qd (fun V hV=>dep ba ca x2 V ae hV ar);have hX:Below wr.heap.size wr wr.drew:=Below.drew (Below.refl _ _);have Lt:=qd (zcY c v x1);have Lu:=qd (zcY c v x2);have Oy:Hid (c.length<=1048576):=qd (by omega);have Oz:=qd GR;have E1:=qd e1;have E2:=qd e2;clear dep q1 q2 au ar ad ae GR e1 e2 un;generalize dZ:zaD c v x1=d1 at*;generalize bV:zaD c v x2=d2 at*;have Et:=qd dZ;have BE:=qd bV;clear dZ bV;go_wp2_with fail
       go_region_held3 (fun W=>W.cell? ⟨gF,i,none⟩=some (qS (some ⟨bi,0,none⟩) c.length ci)/\W.cell? ⟨gF,a,none⟩=some (qS (some ⟨ba,0,none⟩) c.length ca))
        (first|with_reducible exact⟨q1',q2'⟩|with_reducible exact⟨zaB bT q1',zaB bT q2'⟩|with_reducible exact⟨(zau uo _).trans (zaB bT q1'),(zau uo _).trans (zaB bT q2')⟩|with_reducible exact⟨zaB kF ((zau uo _).trans (zaB bT q1')),zaB kF ((zau uo _).trans (zaB bT q2'))⟩|with_reducible exact⟨(zau GU _).trans (zaB kF ((zau uo _).trans (zaB bT q1'))),(zau GU _).trans (zaB kF ((zau uo _).trans (zaB bT q2')))⟩)
        (first
          |(go_at_call 140;(with_reducible refine(k1.out _ hX).mono ?_);rintro e wA ⟨gA,cA,rfl,kQ,bT⟩;rw[Lt.out])
          |(go_at_call 52;(with_reducible refine(zde gA 0 c.length cA d1 wA Lt.out (by rw[Lt.out];exact Oy.out) kQ.cells).mono ?_);rintro e wH ⟨rfl,uo⟩)
          |(go_at_call 140;(with_reducible refine(k2.out _ (zaf (hX.trans (bT.mono hX.size)) uo)).mono ?_);rintro e wB ⟨gB,cB,rfl,OA,kF⟩;rw[Lu.out])
          |(go_at_call 52;(with_reducible refine(zde gB 0 c.length cB d2 wB Lu.out (by rw[Lu.out];exact Oy.out) OA.cells).mono ?_);rintro e wI ⟨rfl,GU⟩))
       have EQ:=zaf ((zaf (hX.trans (bT.mono hX.size)) uo).trans (kF.mono (zaf (hX.trans (bT.mono hX.size)) uo).size)) GU;have ER:=bX.trans (EQ.mono bX.size);clear hX q1' q2' kQ OA bT kF uo GU k1 k2 EQ pT;by_cases hz:zak d1<zak d2
       ·have Lv:Hid (∀j,j<i+1->zak (zaD c v ((zaa lr).getD i []))<=zak (zaD c v ((zaa lr).getD j []))):=qd (fun j hj=>by
         rw[E1.out,Et.out];by_cases vF:j=i
         ·subst vF;rw[E1.out,Et.out];exact Int.le_refl _
         ·have:=Oz.out j (by omega);omega)
        generalize zak d1=z1 at*;generalize zak d2=z2 at*;go_wp2_with fail;go_roundw
        case rel=>exact⟨i,i+1,bG,by omega,by omega,rfl,by go_num,Lv,ER⟩
        case measure=>simp[intOf];omega
       ·have Lv:Hid (∀j,j<i+1->zak (zaD c v ((zaa lr).getD a []))<=zak (zaD c v ((zaa lr).getD j []))):=qd (fun j hj=>by
         rw[E2.out,BE.out];by_cases vF:j=i
         ·subst vF;rw[E1.out,Et.out];omega
         ·have:=Oz.out j (by omega);omega)
        generalize zak d1=z1 at*;generalize zak d2=z2 at*;go_wp2_with fail;go_roundw
        case rel=>exact⟨a,i+1,ha,by omega,by omega,rfl,by go_num,Lv,ER⟩
        case measure=>simp[intOf];omega
      ·obtain rfl:q=i:=by omega
       have az:=hb.trans (bX.mono hb.size);have un:=hl.below bX;have Lw:=ho.below bX;have Ap:=my.below bX my.lt;have ES:=mO.below bX;have xB:a<lr.length:=by rw[qP.out];exact ha
       have q2:wr.cell? ⟨gF,a,none⟩=some (zah lr[a]):=by
        rw[un.1.cell a (by simpa using xB)];simp
       have ar:=un.2.1 _ (List.getElem_mem xB);have ae:=ev.out a ha;have e2:=zck xB;have po:=tq.out.pick (k:=a) (by rw[Ao];exact ha) (fun j hj=>tp.out j (by rw[Ao] at hj;exact hj));rw[e2] at ae po;generalize jf:lr[a]=r2 at*;obtain⟨ba,ca,u⟩:=r2;dsimp only at ae po ar;have q2':wr.cell? ⟨gF,a,none⟩=some (qS (some ⟨ba,0,none⟩) c.length ca):=by rw[<-ae.len];exact q2
       have fp:u.length=c.length:=ae.len;have eS:=qd fp;have xC:=qd po;have Gd:=qd ae;clear q2 fp po jf e2 ho hl my mO bX tp tq ae;have ji:=ar.lt;go_wp2_with (at_builtin;refine zaV (w:=wr) rfl _ _ rfl ba 0 _ ca u eS.out ji ar.cells rfl rfl (by rw[eS.out];omega) ?_);intro g3 c3 w3 al ag;have ap:=az.trans (ag.mono az.size);have ol:=un.below ag;have jL:=Lw.below ag;have tu:=Ap.below ag Ap.lt;have oO:=ES.below ag;have GV:=ar.below ag ji
       have dz:∀s∈rs,s.1.1≠g3:=fun s hs e=>by
        have h1:=(Lw.ofMem hs).lt;have h2:=al.base;omega
       have cn:=al.mono az.size;obtain⟨F,hF⟩:∃F:Int,F=if u=v then 1 else frV c (zbt c) v (zaD c v u) (zaX c (zbt c) v (zaD c v) us) u:=⟨_,rfl⟩;have Lx:∀x∈zaX c (zbt c) v (zaD c v) us,zbw c v x.1:=fun x hx=>zbw.rch HS.out HP.out ((kH.out.1.2 _).1 (xC.out.perm.mem_iff.1 (List.mem_append_left _ (List.mem_append_left _ (ziK hx)))))
       have OB:zgb (zaX c (zbt c) v (zaD c v) us):=⟨by rw[zlG,vM.out];omega,fun j hj=>by
        have:=Lx ((zaX c (zbt c) v (zaD c v) us)[j]) (List.getElem_mem hj);have h1:=this.len;have h2:wOf (zaX c (zbt c) v (zaD c v) us) j=((zaX c (zbt c) v (zaD c v) us)[j]).1:=by simp[wOf,List.getD,hj]
        rw[h2];omega⟩
       have mE:=jL.wrows;rw[ak.out] at mE;have BG:=oO.rows2;rw[Sz.out] at BG;have OC:(zaX c (zbt c) v (zaD c v) us).length=p:=by rw[zlG,vM.out]
       have aa:Calls Tryz.prog 141 #[(qS (some ⟨gc,oc,none⟩) c.length cc),(qS (some ⟨g,o,none⟩) c.length cv),(qS (some ⟨ba,0,none⟩) c.length ca),(qS (some ⟨gR,0,none⟩) ((zaq c).length) cR),(qS (some ⟨gd,0,none⟩) c.length cd),(qS (some ⟨gO,0,none⟩) p cO)] w3 (zbb w3 (.int .i64 F)):=by
        by_cases tc:u=v
        ·rw[hF,if_pos tc];have eE:=GV.cells;rw[tc] at eE;exact zoy gc oc _ cc g o _ cv ba 0 ca gR 0 _ cR gd 0 cd gO 0 p cO v w3 (by rw[<-tc];exact eS.out) (by omega) (hv.below ap hg) eE
        ·rw[hF,if_neg tc];have gG:zlF c (zbt c) v u (zaX c (zbt c) v (zaD c v) us):=⟨HS.out,HP.out,HF.out,HK.out,znw HC.out HS.out.fin,Gd.out,tc,Lx⟩;exact zpE gc oc _ cc gd 0 cd gR 0 _ cR g o cv ba 0 ca gO 0 p cO c (zbt c) v u _ w3 rfl rfl OC OB gG (qL ah ap.size) tu.lt oO.lt (qL hg ap.size) GV.lt jL.1.lt (hr.below ap ah) tu.cells BG (hv.below ap hg) GV.cells mE
       have ab:=qd aa;have fN:Hid (zaX c (zbt c) v (zaD c v) (us++[u])=zaX c (zbt c) v (zaD c v) us++[(u,F)]):=by show _=_;rw[zhS,hF]
       clear aa hF Lx OB mE BG OC un Lw Ap ES ag az al ar q2';go_wp2_with fail;refine ab.out.mono ?_;rintro e w5 ⟨rfl,aQ⟩;have bj:=ap.trans (aQ.mono ap.size);have lw:=ol.below aQ;have dd:=jL.below aQ;have oJ:=tu.below aQ tu.lt;have sZ:=oO.below aQ;have ET:=cn.below aQ cn.lt;clear ab aQ ap ol jL tu oO cn GV;go_wp2_with (at_builtin;refine zbj (w:=w5) rfl _ _ rfl w.heap.size gO cO p w5.heap.size g3 c3 c.length rs u F _ cK.out eS.out rfl rfl dd ET dz rfl rfl (by omega) ?_);intro g6 c6 w6 hY fG dR;have de:=bj.grown fG bj.size (by intro j hj;cases hj;exact dd.1.base);have qR:=lw.besideW dd fG;have EU:=sZ.besideW dd fG;have Aq:=oJ.grown fG (fun e=>dd.ne oJ (Option.some.inj e).symm);have hX:Below w6.heap.size w6 (w6.drew.alloc (.cells #[] 25)):=(Below.drew (Below.refl _ _)).alloc (qr _) _;have Ly:w6.heap.size<=w6.drew.heap.size:=qr _;have GW:=qd qR;have GH:a+1<=q:=ha;have xD:q<=200:=by omega
       have Lz:q<=cF:=by have:=GW.out.capLe;have:=qP.out;omega
       have i6:a<=cF:=qt (Nat.le_of_lt ha) Lz;have i1:(a:Int)<=(cF:Int):=Int.ofNat_le.2 i6;have iw0:IntKind.i64.wrap ((a:Int)+1)=(a:Int)+1:=IntWalk.i64_in _ ⟨by omega,by omega⟩;have iw02:wrap64 ((a:Int)+1)=(a:Int)+1:=IntWalk.wrap64_in _ ⟨by omega,by omega⟩;obtain⟨a1,pD⟩:∃a1,a1=a+1:=⟨_,rfl⟩;have iz:(a:Int)+1=(a1:Int):=by rw[pD];rfl
       have iw:IntKind.i64.wrap ((a:Int)+1)=(a1:Int):=iw0.trans iz;have iw2:wrap64 ((a:Int)+1)=(a1:Int):=iw02.trans iz;clear iw0 iw02 iz;have i7:a1<=q:=by rw[pD];exact ha
       have i2:(a1:Int)<=(q:Int):=Int.ofNat_le.2 i7;have i3:(q:Int)<=(cF:Int):=Int.ofNat_le.2 Lz;have i4:(0:Int)<=(a1:Int):=Int.natCast_nonneg a1;have i9:(0:Int)<=(a:Int):=Int.natCast_nonneg a;have LA:=qd pD;obtain⟨o2,SA,OD,fo3⟩:=zKM (gF:=gF) i7 qP.out Lz;have OE:=qd fo3;clear fo3;have F2:=zKJ pD i7 xD;have F3:=zKK pD i7;have F4:=zKL qP.out ha;have F0:0+a<=lr.length:=by rw[Nat.zero_add,qP.out];exact Nat.le_of_lt ha
       have F5:0+a<=1048576:=by rw[Nat.zero_add];exact qt (Nat.le_of_lt ha) (qt xD (by decide))
       clear pD
       have nW:zaI (w6.drew.alloc (.cells #[] 25)) w6.heap.size 25 w6.heap.size 0 []:=by
        have h:=(zab.empty (w:=w6.drew) (B:=w6.heap.size) (qr _)).1;exact h
       clear bj lw dd oJ sZ ET dz fG dR qR;go_wp2_with fail
       go_region_held3 (fun _=>True)
        (trivial)
        (first
          |(refine zke (by rfl) _ _ (by rfl) w6.heap.size w6.heap.size 0 0 w.heap.size gF cF 0 a cF a [] lr rfl nW (GW.out.below hX) F0 (by rfl) (by rfl) F5 (Nat.zero_add a) ?_;intro g7 c7 w7 LB pG mx)
          |(have dA:=hX.grown pG hX.size (by intro j hj;cases hj;exact qr _)
            have OF:=GW.out.below dA;refine zke (by rfl) _ _ (by rfl) w6.heap.size g7 c7 a w.heap.size gF cF o2 (q-a1) (cF-a1) (q-1) _ lr F4 LB OF OD (by rfl) (by rfl) F2 F3 ?_;intro g8 c8 w8 OG ny LC))
       have eV:=dA.grown ny dA.size (by intro j hj;cases hj;exact LB.base);have LD:=hY.below eV;have ta:=Aq.below eV Aq.lt;have vL:=EU.below eV;have kd:=de.trans (eV.mono de.size);have SB:=zGq OG OE.out LA.out (GW.out.2.below eV) de.size;have z1:=zIW LA.out i7 qP.out;have z2:=zIX (lr:=lr) LA.out;have z3:zhm c v L (us++[u]) (zaa (lr.take a++lr.drop a1)):=by rw[z2];exact xC.out
       have z4:zaz (rs++[((g3,c3,u),F)])=zaX c (zbt c) v (zaD c v) (us++[u]):=by rw[fN.out,<-ak.out];simp[zaz]
       have z5:(rs++[((g3,c3,u),F)]).length=p+1:=by rw[qA,cK.out];rfl
       have z6:(us++[u]).length=p+1:=by rw[qA,vM.out];rfl
       have z7:p+1+(q-1)=L.length:=by omega
       have z8:q-1<gk+1:=by omega
       have Z1:=qd z1;have Z3:=qd z3;have Z4:=qd z4;have Z5:=qd z5;have Z6:=qd z6;clear z1 z2 z3 z4 z5 z6 LB OG pG ny mx LC dA OF eV hX nW hY EU Aq de Ly i1 i2 i3 i4 i6 i9 iw iw2 SA OD OE F2 F3 F4 F0 F5;go_wp2_with fail
       go_roundg (q-1)
       case measure=>omega
       case rel=>exact⟨p+1,q-1,g6,c6,g8,c8,rs++[((g3,c3,u),F)],us++[u],lr.take a++lr.drop a1,z7,qr _,by go_num,rfl,Z5,Z1,Z6,Z3,Z4,LD,SB,ta,vL,kd⟩
    ·obtain rfl:q=0:=by omega
     have LE:lr=[]:=List.length_eq_zero_iff.1 qP.out;subst LE;obtain⟨wR,be⟩:=tq.out.fin HS.out HP.out kH.out.1;have bF:=wR.done HK.out HS.out HP.out HF.out vK.out kH.out.1 pn be (by rw[vM.out];omega);have dW:=qd bF;have sP:=ak;clear bF wR be tq mO my hl;go_wp2_with fail;go_ret2;exact⟨_,true,dW.out,zaO.mk' gO cO rs cK.out sP.out ho hb⟩
  ·have KS:(200:Int)<szO c:=by omega
   have vK:=qd aB;clear aB;go_wp2_with fail;refine gC.out.mono ?_;rintro e w2 ⟨rfl,ae⟩;have az:=dc.trans (ae.mono dc.size);have ia:=EN.below ae;clear gC;go_wp2_with fail;go_ret2;exact⟨[],false,.inr ⟨rfl,rfl,.inl (by have:=vK.out;omega)⟩,zaO.mk' _ _ [] rfl rfl ia az⟩
end
end Go.Proofs.YtlgcmaoimpgedaaGreatDoor

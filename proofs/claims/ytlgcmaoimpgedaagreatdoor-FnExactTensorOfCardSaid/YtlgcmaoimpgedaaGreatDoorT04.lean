/- Sub FinS FinAll Ten -/
import Derived.Test.YtlgcmaoimpgedaaGreatDoorT03
set_option maxHeartbeats 4000000
set_option maxRecDepth 100000
set_option linter.unusedSimpArgs false
namespace Go.Proofs.YtlgcmaoimpgedaaGreatDoor
open Go.Value renaming slice->qS
section
open Go.RowKit
attribute [local go_sem ↓] Go.wp_at_zero Go.wp_at_succ
theorem ziu(gc oc n cc g o m cs:Nat)(c:LL)(s:LI)(w:World)(hn:c.length=n)(hm:s.length=m)(hC:IsC c)(ko:s.length<=4)(bh:1<=s.length)
 (hs:∀t,t<s.length->0<=s.getD t 0/\s.getD t 0<c.length) (mj:∀t,t+1<s.length->s.getD t 0<s.getD (t+1) 0) (ah:gc<w.heap.size) (hg:g<w.heap.size) (hr:zal w gc oc c) (hc:zag w g o s):
 Calls Tryz.prog 150 #[(qS (some ⟨gc,oc,none⟩) n cc),(qS (some ⟨g,o,none⟩) m cs)] w (fun e w'=>∃g' cap rs,e= .returned (.tuple #[(qS (some ⟨g',0,none⟩) s.length cap),.bool true])/\zaa rs=zaW c s/\zab w' w.heap.size g' cap rs/\Below w.heap.size w w'):=by
 subst hn;subst hm;have aN:Below w.heap.size w (w.alloc (.cells #[] 25)):=zgu;have aR:=hC.2.1;have hz:((s.length:Int)==0)=false:=by simp;intro e;subst e;simp at bh
 go_enter Tryz.func150,Tryz.ntmps150
 go_wp2_with fail;refine(zsE gc oc _ cc g o _ cs c s _ rfl rfl (by omega) (by omega) (fun j hj=>by have:=hC.2.2.1 j hj;omega) hs mj (hr.below aN ah) (hc.below aN hg)).mono ?_;rintro e w1 ⟨rfl,m1,rfl⟩;rw[decide_eq_true hC];go_wp2_with fail;go_loopw [6,7,8,9] (fun x i _ _ wr=>∃(t g' c':Nat) (rs:List RowRef),t<=s.length/\i= .int .i64 t/\x=(qS (some ⟨g',0,none⟩) t c')/\Hid (rs.length=t)/\Hid (zaa rs=(s.take t).map fun i=>zaP c i s)/\zab wr w.heap.size g' c' rs/\Below w.heap.size w wr) (fun _ i _ _ _=>s.length-(intOf i).toNat)
 case atStart=>exact⟨0,w.heap.size,0,[],qz _,rfl,rfl,rfl,rfl,(zab.empty (w:=w) (qr _)).drewN m1,below_drewN aN m1⟩
 case round=>
  obtain⟨t,g',c',rs,ht,rfl,rfl,cK,ak,ho,hb⟩:=hrel;by_cases ac:t<s.length
  ·have aL:=hs t ac;have bQ:=zef (fun i=>zaP c i s) s t ac;obtain⟨iN,pz⟩:∃iN:Nat,s.getD t 0=iN:=⟨(s.getD t 0).toNat,by omega⟩;have p1:=hc t ac;rw[pz] at p1 aL bQ;have nL:iN<c.length:=by omega
   have Ig:(iN:Int)<(c.length:Int):=by omega
   obtain⟨ga,oa,ca,q1,q2,q3,q4⟩:=hr iN nL;have mf:=hC.2.2.1 iN nL;rw[mf] at q1;have fS:=qd bQ;clear bQ aL pz;obtain⟨wo,rfl⟩:∃wo:World,wo=wr:=⟨_,rfl⟩;go_wp2;go_loopw [8,9] (fun x i wr=>∃k gr cr:Nat,k<=s.length/\i= .int .i64 k/\x=(qS (some ⟨gr,0,none⟩) k cr)/\Own wr wo.heap.size gr cr (zaP c iN (s.take k))/\Below wo.heap.size wo wr) (fun _ i _=>s.length-(intOf i).toNat)
   case atStart=>exact⟨0,wo.heap.size,0,qz _,rfl,rfl,Own.empty (qr _),(Below.refl _ _).alloc (qr _) _⟩
   case round=>
    obtain⟨k,gr,cr,hk,rfl,rfl,aY,ae⟩:=hrel;have du:Below w.heap.size w wr:=hb.trans (ae.mono hb.size);by_cases dN:k<s.length
    ·have fD:=hs k dN;have eL:=zef (fun j=>ent c iN j.toNat) s k dN;obtain⟨jN,wb⟩:∃jN:Nat,s.getD k 0=jN:=⟨(s.getD k 0).toNat,by omega⟩;have p2:=hc k dN;rw[wb] at p2 fD eL;rw[Int.toNat_natCast] at eL;have BL:jN<c.length:=by omega
     have lh:=qd eL;clear eL fD wb;have e2:=q4 jN (by rw[mf];exact BL);have dI:(c.getD iN []).getD jN 0=ent c iN jN:=rfl;rw[dI] at e2;have bP:(zaP c iN (s.take k)).length=k:=by simp[zaP];omega
     have fE:=qd bP;clear bP dI;generalize ent c iN jN=y at*;have hB:Below w.heap.size w wr.drew:=Below.drew du;have u1:wr.drew.cell? ⟨g,o+t,none⟩=some (.int .i64 iN):=(hB.cell (p:=⟨g,o+t,none⟩) hg).trans p1;have u2:wr.drew.cell? ⟨g,o+k,none⟩=some (.int .i64 jN):=(hB.cell (p:=⟨g,o+k,none⟩) hg).trans p2;have u3:wr.drew.cell? ⟨gc,oc+iN,none⟩=some (qS (some ⟨ga,oa,none⟩) c.length ca):=(hB.cell (p:=⟨gc,oc+iN,none⟩) ah).trans q1;have u4:wr.drew.cell? ⟨ga,oa+jN,none⟩=some (.int .i64 y):=(hB.cell (p:=⟨ga,oa+jN,none⟩) q3).trans e2;have lZ:=aY.base;have fJ:=hb.size;have ne1:some g≠some gr:=by intro e;cases e;omega
     have ne2:some gc≠some gr:=by intro e;cases e;omega
     have ne3:some ga≠some gr:=by intro e;cases e;omega
     have i1:(0:Int)<=(iN:Int):=by omega
     have i2:(0:Int)<=(jN:Int):=by omega
     have i3:(jN:Int)<(c.length:Int):=by omega
     have lk:Own wr.drew wo.heap.size gr cr (zaP c iN (s.take k)):=aY.drew;have bA:Below wr.drew.heap.size wr.drew ((wr.alloc (.cells #[.int .i64 y] 3)).drew):=(Below.refl _ wr.drew).alloc (qr _) (.cells #[.int .i64 y] 3);go_wp2_with fail
     go_region_held3 (fun W=>W.cell? ⟨g,o+t,none⟩=some (.int .i64 iN)/\W.cell? ⟨g,o+k,none⟩=some (.int .i64 jN)/\W.cell? ⟨gc,oc+iN,none⟩=some (qS (some ⟨ga,oa,none⟩) c.length ca)/\W.cell? ⟨ga,oa+jN,none⟩=some (.int .i64 y))
      (first|exact⟨u1,u2,u3,u4⟩|exact⟨zaB bA u1,zaB bA u2,zaB bA u3,zaB bA u4⟩|exact⟨aK.cell (a:=⟨g,o+t,none⟩) u1 ne1,aK.cell (a:=⟨g,o+k,none⟩) u2 ne1,aK.cell (a:=⟨gc,oc+iN,none⟩) u3 ne2,aK.cell (a:=⟨ga,oa+jN,none⟩) u4 ne3⟩)
      ((refine zcH (w:=wr.drew) (by rfl) _ _ (by rfl) wo.heap.size gr cr k wr.heap.size (zaP c iN (s.take k)) y _ fE.out (by rfl) (by rfl) (by exact lk) (by rfl) (by rfl) (by omega) ?_;intro g3 c3 w3 al aK eu))
     go_wp2;go_roundw
     case rel=>
      refine⟨k+1,g3,c3,by omega,by go_num,rfl,?_,(Below.drew ae).grown aK ae.size (by intro j hj;cases hj;exact aY.base)⟩;have:=lh.out;have e:zaP c iN (s.take (k+1))=zaP c iN (s.take k)++[y]:=this;rw[e];exact al
     case measure=>simp[intOf];omega
    ·obtain rfl:k=s.length:=by omega
     rw[qF (qr _)] at aY;have bP:(zaP c iN s).length=s.length:=by simp[zaP]
     have ar:=ho.below ae;have ao:∀r∈rs,r.1≠gr:=fun r hr=>by have h1:=(ho.2.1 r hr).lt;have h2:=aY.base;omega
     have dJ:=aY.mono hb.size;have aC:zah (gr,cr,zaP c iN s)=(qS (some ⟨gr,0,none⟩) s.length cr):=by unfold zah;rw[bP]
     clear p1 bP q1 q4;go_wp2_with (at_builtin;refine zao rfl _ _ rfl w.heap.size g' c' t wr.heap.size rs (gr,cr,zaP c iN s) _ cK.out (by rw[aC]) rfl ar dJ ao rfl rfl (by omega) ?_);intro g4 c4 w4 aw aT _;go_wp2;go_roundw
     case rel=>
      refine⟨t+1,g4,c4,rs++[(gr,cr,zaP c iN s)],by omega,by go_num,rfl,by show _=_;rw[qA,cK.out];rfl,?_,aw,du.grown aT du.size (by intro j hj;cases hj;exact ho.base)⟩;show _=_;rw[zcA,ak.out,fS.out]
     case measure=>simp[intOf];omega
  ·obtain rfl:t=s.length:=by omega
   have aH:=ak.out;rw[qF (qr _)] at aH;have fi:=qd aH;clear aH;go_wp2;go_ret2;exact⟨g',c',rs,rfl,fi.out,ho,hb⟩
end
section
open Go.RowKit
theorem zsF{m n:Nat}(hn:n<=4)(hm:m<2 ^ n):zcI m n=zbL m:=by
 have h:=zpS (m:=m) (t:=n) (Nat.div_eq_of_lt hm) (4-n);have h4:n+(4-n)=4:=by omega
 rw[h4] at h;exact h.symm
theorem zwS(m:Nat)(h1:1<=m)(h2:m<=15):1<=(zbL m).length:=by
 have:∀m,m<16->1<=m->1<=(zbL m).length:=by decide
 exact this m (by omega) h1
theorem zBE(m:Nat)(t:Nat)(ht:t+1<(zbL m).length):(zbL m).getD t 0<(zbL m).getD (t+1) 0:=by
 have hp:(zff m 4).Pairwise (·<·):=List.Pairwise.filter _ List.pairwise_lt_range;have hl:(zbL m).length=(zff m 4).length:=by simp[zbL,zcI]
 have h1:t<(zff m 4).length:=by omega
 have h2:t+1<(zff m 4).length:=by omega
 have:=List.pairwise_iff_getElem.1 hp t (t+1) h1 h2 (by omega);simp only[zbL,zcI,List.getD,List.getElem?_map];rw[List.getElem?_eq_getElem h1,List.getElem?_eq_getElem h2];simpa using this
theorem zmJ(g o n cp:Nat)(c:LL)(w:World)(hn:c.length=n)(hx:c.length<=1048576)(an:∀j,j<c.length->(c.getD j []).length<=1048576)(hg:g<w.heap.size)(hr:zal w g o c):
 Calls Tryz.prog 110 #[(qS (some ⟨g,o,none⟩) n cp)] w (zav w (zbR c)):=by
 subst hn
 go_enter Tryz.func110,Tryz.ntmps110
 go_wp2_with fail;refine(zbD g o _ cp c w rfl (by omega) (fun j hj=>by have:=an j hj;omega) hr).mono ?_;rintro e w1 ⟨rfl,m1,rfl⟩;by_cases hC:IsC c
 ·have ik:decide (IsC c)=true:=decide_eq_true hC;rw[ik];have aR:=hC.2.1;have dL:=hC.1;go_wp2_with fail;refine(zpU c.length (w.drewN m1) aR).mono ?_;rintro e w2 ⟨g2,c2,rs2,rfl,aH,ar,ae⟩;have nS:Below w.heap.size w w2:=(zcr w m1).trans ae;have hQ:=zhx aR;have mi:zbR c=zdl c 1 (2 ^ c.length-1):=by unfold zbR;rw[if_pos hC]
  have fJ:(zgM c.length (2 ^ c.length-1)).length=2 ^ c.length-1:=zio _ _;obtain⟨Q,Ih⟩:∃Q,2 ^ c.length-1=Q:=⟨_,rfl⟩;rw[Ih] at fJ aH mi ⊢;rw[fJ];have Pm:Q<=15:=by omega
  have FX:=qd Ih;clear Ih fJ hQ
  have aC:∀k,k<Q->(zaa rs2).getD k []=zbL (k+1):=by
   intro k hk;rw[aH];simp only[zgM,List.getD,List.getElem?_map,List.getElem?_range hk];exact zsF aR (by have:=FX.out;omega)
  have pB:rs2.length=Q:=by have:=congrArg List.length aH;rw[zio] at this;simpa [zaa] using this
  have ev:=qd aC;have uA:=qd pB;have xW:=qd mi;clear aC pB aH mi;go_wp2_with fail;go_loopw [4,5,6] (fun i _ _ wr=>∃k:Nat,k<=Q/\i= .int .i64 k/\Hid (zbR c=zdl c (k+1) (Q-k))/\Below w.heap.size w wr/\zab wr w.heap.size g2 c2 rs2) (fun i _ _ _=>Q-(intOf i).toNat)
  case atStart=>exact⟨0,qz _,rfl,xW.out,nS,ar.mono (qr _)⟩
  case round=>
   obtain⟨k,hk,rfl,hw,hb,ho⟩:=hrel;by_cases ac:k<Q
   ·have cH:k<rs2.length:=by rw[uA.out];exact ac
    have aA:=ho.1.cell k (by simpa using cH);have be:rs2[k]∈rs2:=List.getElem_mem cH;have xX:=ho.2.1 _ be
    have ak:rs2[k].2.2=zbL (k+1):=by
     have:=ev.out k ac;rw[<-this];simp[zaa,List.getD,cH]
    obtain⟨ga,ca,jW⟩:∃ga ca,rs2[k]=(ga,ca,zbL (k+1)):=⟨rs2[k].1,rs2[k].2.1,by rw[<-ak]⟩;rw[jW] at xX
    have fU:wr.cell? ⟨g2,k,none⟩=some (qS (some ⟨ga,0,none⟩) ((zbL (k+1)).length) ca):=by
     rw[aA];simp only[List.getElem_map,jW];rfl
    have kR:Own wr w.heap.size ga ca (zbL (k+1)):=xX
    have cG:zdl c (k+1) (Q-k)=if zbf c (k+1)<=0 then zbL (k+1) else zdl c (k+1+1) (Q-(k+1)):=by
     rw[show Q-k=(Q-(k+1))+1 by omega];rfl
    have BS:zbf c (k+1)=det (zbL (k+1)).length (zaW c (zbL (k+1))):=rfl;have cC:=zlj (k+1);have bh:=zwS (k+1) (by omega) (by omega);have rr:=fun t ht=>zwR (m:=k+1) (n:=c.length) (by have:=FX.out;omega) t ht
    have mj:=zBE (k+1);have rx:=zqS hC (zbL (k+1));have kt:=zlX hC (k+1);have bP:(zaW c (zbL (k+1))).length=(zbL (k+1)).length:=by simp[zaW]
    have dO:=qd cG;clear aA be xX ak jW cG;generalize zbL (k+1)=s at*;have xU:=qd rr;have Ii:=qd mj;have xV:=qd rx;have fE:=qd bP;clear rr mj rx bP;go_wp2_with fail;refine(ziu g o _ cp ga 0 _ ca c s wr rfl rfl hC cC bh xU.out Ii.out (qL hg hb.size) kR.lt (hr.below hb hg) kR.cells).mono ?_;rintro e w3 ⟨g3,c3,rs3,rfl,eE,al,ag⟩;have ap:=hb.trans (ag.mono hb.size);go_wp2_with fail;refine(zqR s.length cC g3 0 c3 (zaW c s) w3 xV.out al.lt (by rw[<-eE];exact al.rows2)).mono ?_;rintro e w4 ⟨rfl,aM⟩;rw[<-BS];have aG:=ap.trans (aM.mono ap.size);have aw:=(ho.below ag).below aM;have ml:=(kR.below ag kR.lt).below aM (qL kR.lt ag.size);have rz:=zaB aM (zaB ag fU);generalize zbf c (k+1)=d at*;clear ag aM al ap BS fU kR ho hb;by_cases hd:d<=0
    ·go_wp2_with fail;go_ret;rw[hw.out,dO.out,if_pos hd];exact zav.mk' ga ca rfl ml aG
    ·go_wp2_with fail;go_roundw
     case rel=>exact⟨k+1,by omega,by go_num,by show _=_;rw[hw.out,dO.out,if_neg (by omega)],aG,aw⟩
     case measure=>simp[intOf];omega
   ·obtain rfl:Q=k:=by omega
    go_wp2;go_ret;have tT:=hw.out;rw[Nat.sub_self] at tT;rw[tT];exact zav.mk' wr.heap.size 0 rfl (Own.empty (w:=wr) hb.size) (hb.alloc hb.size _)
 ·have ik:decide (IsC c)=false:=decide_eq_false hC;have mi:zbR c=[]:=by unfold zbR;rw[if_neg hC]
  rw[ik];clear hC;go_wp2_with fail;go_ret;rw[mi];exact zav.mk' w.heap.size 0 rfl (Own.empty (w:=w.drewN m1) (qr _)) ((zcr w m1).alloc (qr _) _)
theorem zcE(g o n cp:Nat)(c:LL)(w:World)(hn:c.length=n)(hx:c.length<=1048576)(an:∀j,j<c.length->(c.getD j []).length<=1048576)(hg:g<w.heap.size)(hr:zal w g o c):
 Calls Tryz.prog 63 #[(qS (some ⟨g,o,none⟩) n cp)] w (zbb w (.bool (zaN c))):=by
 have ry:=zoE c
 go_enter Tryz.func63,Tryz.ntmps63
 go_wp2_with fail;refine(zbD g o n cp c w hn (by omega) (fun j hj=>by have:=an j hj;omega) hr).mono ?_;rintro e w1 ⟨rfl,m1,rfl⟩;by_cases hC:IsC c
 ·have ik:decide (IsC c)=true:=decide_eq_true hC;have hf:zaN c=((zbR c).length==0):=by unfold zaN;rw[ik];simp
  rw[ik];go_wp2_with fail;refine(zmJ g o n cp c (w.drewN m1) hn hx an hg hr).mono ?_;rintro e w2 ⟨g2,c2,rfl,ar,ae⟩;generalize (zbR c).length=L at*;go_wp2_with fail;go_ret;refine⟨?_,(zcr w m1).trans ae⟩;rw[hf];refine zaK ?_;by_cases h0:L=0
  ·subst h0;rfl
  ·have e1:(L==0)=false:=by simpa using h0
   have e2:((L:Int)==0)=false:=by simp;omega
   rw[e1,e2]
 ·have ik:decide (IsC c)=false:=decide_eq_false hC;have hf:zaN c=false:=by unfold zaN;rw[ik];simp
  rw[ik];clear hC;go_wp2_with fail;go_ret;exact⟨by rw[hf];rfl,zcr w m1⟩
end
section
open Go.RowKit
def L6:List (Int × Int):=[(0,0),(-1,-1),(-1,-2),(-2,-1),(-1,-3),(-3,-1)]
def zgN(a:Int × Int):LL:=[[2,a.1],[a.2,2]]
def zgc(a b e:Int × Int):LL:=[[2,a.1,b.1],[a.2,2,e.1],[b.2,e.2,2]]
def zeJ(a b d e f g:Int × Int):LL:=[[2,a.1,b.1,d.1],[a.2,2,e.1,f.1],[b.2,e.2,2,g.1],[d.2,f.2,g.2,2]]
def zdV(a b e:Int × Int):Bool:=decide (det 3 (zgc a b e)<=0)
def ziY(P:LL->Bool):Bool:=L6.all fun a=>P (zgN a)
def ziZ(P:LL->Bool):Bool:=L6.all fun a=>L6.all fun b=>L6.all fun e=>zdV a b e||P (zgc a b e)
def zip(P:LL->Bool):Bool:=L6.all fun a=>L6.all fun b=>L6.all fun e=>zdV a b e||L6.all fun d=>L6.all fun f=>zdV a d f||L6.all fun g=>zdV b d g||(zdV e f g||(decide (det 4 (zeJ a b d e f g)<=0)||P (zeJ a b d e f g)))
def zad(P:LL->Bool)(a b:Int × Int):Bool:=L6.all fun e=>zdV a b e||L6.all fun d=>L6.all fun f=>zdV a d f||L6.all fun g=>zdV b d g||(zdV e f g||(decide (det 4 (zeJ a b d e f g)<=0)||P (zeJ a b d e f g)))
theorem zhy(P:LL->Bool):zip P=L6.all fun a=>L6.all fun b=>zad P a b:=rfl
theorem zGy{α:Type}{l:List α}(h:l.length=1):∃a,l=[a]:=by
 match l,h with
 |[a],_=>exact⟨a,rfl⟩
theorem zxG{α:Type}{l:List α}(h:l.length=2):∃a b,l=[a,b]:=by
 match l,h with
 |[a,b],_=>exact⟨a,b,rfl⟩
theorem zta{α:Type}{l:List α}(h:l.length=3):∃a b c,l=[a,b,c]:=by
 match l,h with
 |[a,b,c],_=>exact⟨a,b,c,rfl⟩
theorem zpV{α:Type}{l:List α}(h:l.length=4):∃a b c d,l=[a,b,c,d]:=by
 match l,h with
 |[a,b,c,d],_=>exact⟨a,b,c,d,rfl⟩
theorem zvO{c:LL}:∀(f m:Nat),1<=m->m+f<=16->(zdl c m f).length=0->∀k,m<=k->k<m+f->0<zbf c k:=by
 intro f
 induction f with
 |zero=>intro m _ _ _ k h1 h2;omega
 |succ f ih=>
  intro m hm hf h k h1 h2;unfold zdl at h
  split at h
  ·have:=zwS m hm (by omega);omega
  ·rename_i hd
   by_cases e:k=m
   ·subst e;omega
   ·exact ih (m+1) (by omega) (by omega) h k (by omega) (by omega)
theorem zqT{c:LL}(hC:IsC c)(hf:zaN c=true):∀k,1<=k->k<2 ^ c.length->0<zbf c k:=by
 intro k h1 h2;have SR:=zhx hC.2.1;unfold zaN at hf;rw[Bool.and_eq_true] at hf;have hw:(zbR c).length=0:=by simpa using hf.2
 unfold zbR at hw;rw[if_pos hC] at hw;exact zvO (2 ^ c.length-1) 1 (qr _) (by omega) hw k h1 (by omega)
theorem zGM:∀x∈[(-3:Int),-2,-1,0],∀y∈[(-3:Int),-2,-1,0],decide (x=0)=decide (y=0)->0<det 2 (zgN (x,y))->(x,y)∈L6:=by decide
theorem zfj{x y:Int}(h1:-3<=x/\x<=0)(h2:-3<=y/\y<=0)(h3:decide (x=0)=decide (y=0))(h:0<det 2 (zgN (x,y))):(x,y)∈L6:=by
 have hx:x∈[(-3:Int),-2,-1,0]:=by
  have:x=-3∨x=-2∨x=-1∨x=0:=by omega
  rcases this with rfl|rfl|rfl|rfl <;> simp
 have hy:y∈[(-3:Int),-2,-1,0]:=by
  have:y=-3∨y=-2∨y=-1∨y=0:=by omega
  rcases this with rfl|rfl|rfl|rfl <;> simp
 exact zGM x hx y hy h3 h
theorem zex{c:LL}(hC:IsC c){i:Nat}(hi:i<c.length):ent c i i=2:=by
 have:=hC.2.2.2 i hi i hi;unfold zcG at this
 rwa [if_pos rfl] at this
theorem zco{c:LL}(hC:IsC c){i j:Nat}(hi:i<c.length)(hj:j<c.length)(ao:i≠j):(-3<=ent c i j/\ent c i j<=0)/\decide (ent c i j=0)=decide (ent c j i=0):=by
 have:=hC.2.2.2 i hi j hj;unfold zcG at this;rw[if_neg ao] at this;exact⟨⟨this.1,this.2.1⟩,this.2.2⟩
theorem zKP(a:Int × Int):zbf (zgN a) 3=det 2 (zgN a):=by kernel_rfl
theorem zKQ(a b e:Int × Int):zbf (zgc a b e) 3=det 2 (zgN a):=by kernel_rfl
theorem zKR(a b e:Int × Int):zbf (zgc a b e) 5=det 2 (zgN b):=by kernel_rfl
theorem zKS(a b e:Int × Int):zbf (zgc a b e) 6=det 2 (zgN e):=by kernel_rfl
theorem zKT(a b e:Int × Int):zbf (zgc a b e) 7=det 3 (zgc a b e):=by kernel_rfl
theorem zKU(a b d e f g:Int × Int):zbf (zeJ a b d e f g) 3=det 2 (zgN a):=by kernel_rfl
theorem zKV(a b d e f g:Int × Int):zbf (zeJ a b d e f g) 5=det 2 (zgN b):=by kernel_rfl
theorem zKW(a b d e f g:Int × Int):zbf (zeJ a b d e f g) 9=det 2 (zgN d):=by kernel_rfl
theorem zKX(a b d e f g:Int × Int):zbf (zeJ a b d e f g) 6=det 2 (zgN e):=by kernel_rfl
theorem zJT(a b d e f g:Int × Int):zbf (zeJ a b d e f g) 10=det 2 (zgN f):=by kernel_rfl
theorem zJU(a b d e f g:Int × Int):zbf (zeJ a b d e f g) 12=det 2 (zgN g):=by kernel_rfl
theorem zKY(a b d e f g:Int × Int):zbf (zeJ a b d e f g) 7=det 3 (zgc a b e):=by kernel_rfl
theorem zJV(a b d e f g:Int × Int):zbf (zeJ a b d e f g) 11=det 3 (zgc a d f):=by kernel_rfl
theorem zJW(a b d e f g:Int × Int):zbf (zeJ a b d e f g) 13=det 3 (zgc b d g):=by kernel_rfl
theorem zJX(a b d e f g:Int × Int):zbf (zeJ a b d e f g) 14=det 3 (zgc e f g):=by kernel_rfl
theorem zJY(a b d e f g:Int × Int):zbf (zeJ a b d e f g) 15=det 4 (zeJ a b d e f g):=by kernel_rfl
theorem zzd{P:LL->Bool}(h2:ziY P=true){c:LL}(hC:IsC c)(hf:zaN c=true)(hn:c.length=2):P c=true:=by
 have aW:=zqT hC hf;obtain⟨r0,r1,rfl⟩:=zxG hn;obtain⟨x00,x01,rfl⟩:=zxG (hC.2.2.1 0 (by simp));obtain⟨x10,x11,rfl⟩:=zxG (hC.2.2.1 1 (by simp));have d0:x00=2:=zex hC (i:=0) (by simp);have d1:x11=2:=zex hC (i:=1) (by simp);subst d0;subst d1;have o01:=zco hC (i:=0) (j:=1) (by simp) (by simp) (by decide);have o10:=zco hC (i:=1) (j:=0) (by simp) (by simp) (by decide);have p01:(x01,x10)∈L6:=zfj o01.1 o10.1 o01.2 (by have h0:=aW 3 (by decide) (by simp);have h1:=zKP (x01,x10);exact h1▸ h0);have h:=h2;unfold ziY at h;have h1:=List.all_eq_true.1 h _ p01;exact h1
theorem zze{P:LL->Bool}(hK:ziZ P=true){c:LL}(hC:IsC c)(hf:zaN c=true)(hn:c.length=3):P c=true:=by
 have aW:=zqT hC hf;obtain⟨r0,r1,r2,rfl⟩:=zta hn;obtain⟨x00,x01,x02,rfl⟩:=zta (hC.2.2.1 0 (by simp));obtain⟨x10,x11,x12,rfl⟩:=zta (hC.2.2.1 1 (by simp));obtain⟨x20,x21,x22,rfl⟩:=zta (hC.2.2.1 2 (by simp));have d0:x00=2:=zex hC (i:=0) (by simp);have d1:x11=2:=zex hC (i:=1) (by simp);have d2:x22=2:=zex hC (i:=2) (by simp);subst d0;subst d1;subst d2;have o01:=zco hC (i:=0) (j:=1) (by simp) (by simp) (by decide);have o10:=zco hC (i:=1) (j:=0) (by simp) (by simp) (by decide);have o02:=zco hC (i:=0) (j:=2) (by simp) (by simp) (by decide);have o20:=zco hC (i:=2) (j:=0) (by simp) (by simp) (by decide);have o12:=zco hC (i:=1) (j:=2) (by simp) (by simp) (by decide);have o21:=zco hC (i:=2) (j:=1) (by simp) (by simp) (by decide);have p01:(x01,x10)∈L6:=zfj o01.1 o10.1 o01.2 (by have h0:=aW 3 (by decide) (by simp);have h1:=zKQ (x01,x10) (x02,x20) (x12,x21);exact h1▸ h0);have p02:(x02,x20)∈L6:=zfj o02.1 o20.1 o02.2 (by have h0:=aW 5 (by decide) (by simp);have h1:=zKR (x01,x10) (x02,x20) (x12,x21);exact h1▸ h0);have p12:(x12,x21)∈L6:=zfj o12.1 o21.1 o12.2 (by have h0:=aW 6 (by decide) (by simp);have h1:=zKS (x01,x10) (x02,x20) (x12,x21);exact h1▸ h0);have h7:0<det 3 (zgc (x01,x10) (x02,x20) (x12,x21)):=by have h0:=aW 7 (by decide) (by simp);have h1:=zKT (x01,x10) (x02,x20) (x12,x21);exact h1▸ h0
 have h:=hK;unfold ziZ at h;have h1:=List.all_eq_true.1 h _ p01;have h2:=List.all_eq_true.1 h1 _ p02;have h3:=List.all_eq_true.1 h2 _ p12;have hb:zdV (x01,x10) (x02,x20) (x12,x21)=false:=by unfold zdV;rw[decide_eq_false_iff_not];omega
 rw[hb,Bool.false_or] at h3;exact h3
theorem zzf{P:LL->Bool}(hK:zip P=true){c:LL}(hC:IsC c)(hf:zaN c=true)(hn:c.length=4):P c=true:=by
 have aW:=zqT hC hf;obtain⟨r0,r1,r2,r3,rfl⟩:=zpV hn;obtain⟨x00,x01,x02,x03,rfl⟩:=zpV (hC.2.2.1 0 (by simp));obtain⟨x10,x11,x12,x13,rfl⟩:=zpV (hC.2.2.1 1 (by simp));obtain⟨x20,x21,x22,x23,rfl⟩:=zpV (hC.2.2.1 2 (by simp));obtain⟨x30,x31,x32,x33,rfl⟩:=zpV (hC.2.2.1 3 (by simp));have d0:x00=2:=zex hC (i:=0) (by simp);have d1:x11=2:=zex hC (i:=1) (by simp);have d2:x22=2:=zex hC (i:=2) (by simp);have d3:x33=2:=zex hC (i:=3) (by simp);subst d0;subst d1;subst d2;subst d3;have o01:=zco hC (i:=0) (j:=1) (by simp) (by simp) (by decide);have o10:=zco hC (i:=1) (j:=0) (by simp) (by simp) (by decide);have o02:=zco hC (i:=0) (j:=2) (by simp) (by simp) (by decide);have o20:=zco hC (i:=2) (j:=0) (by simp) (by simp) (by decide);have o03:=zco hC (i:=0) (j:=3) (by simp) (by simp) (by decide);have o30:=zco hC (i:=3) (j:=0) (by simp) (by simp) (by decide);have o12:=zco hC (i:=1) (j:=2) (by simp) (by simp) (by decide);have o21:=zco hC (i:=2) (j:=1) (by simp) (by simp) (by decide);have o13:=zco hC (i:=1) (j:=3) (by simp) (by simp) (by decide);have o31:=zco hC (i:=3) (j:=1) (by simp) (by simp) (by decide);have o23:=zco hC (i:=2) (j:=3) (by simp) (by simp) (by decide);have o32:=zco hC (i:=3) (j:=2) (by simp) (by simp) (by decide);have p01:(x01,x10)∈L6:=zfj o01.1 o10.1 o01.2 (by have h0:=aW 3 (by decide) (by simp);have h1:=zKU (x01,x10) (x02,x20) (x03,x30) (x12,x21) (x13,x31) (x23,x32);exact h1▸ h0);have p02:(x02,x20)∈L6:=zfj o02.1 o20.1 o02.2 (by have h0:=aW 5 (by decide) (by simp);have h1:=zKV (x01,x10) (x02,x20) (x03,x30) (x12,x21) (x13,x31) (x23,x32);exact h1▸ h0);have p12:(x12,x21)∈L6:=zfj o12.1 o21.1 o12.2 (by have h0:=aW 6 (by decide) (by simp);have h1:=zKX (x01,x10) (x02,x20) (x03,x30) (x12,x21) (x13,x31) (x23,x32);exact h1▸ h0);have p03:(x03,x30)∈L6:=zfj o03.1 o30.1 o03.2 (by have h0:=aW 9 (by decide) (by simp);have h1:=zKW (x01,x10) (x02,x20) (x03,x30) (x12,x21) (x13,x31) (x23,x32);exact h1▸ h0);have p13:(x13,x31)∈L6:=zfj o13.1 o31.1 o13.2 (by have h0:=aW 10 (by decide) (by simp);have h1:=zJT (x01,x10) (x02,x20) (x03,x30) (x12,x21) (x13,x31) (x23,x32);exact h1▸ h0);have p23:(x23,x32)∈L6:=zfj o23.1 o32.1 o23.2 (by have h0:=aW 12 (by decide) (by simp);have h1:=zJU (x01,x10) (x02,x20) (x03,x30) (x12,x21) (x13,x31) (x23,x32);exact h1▸ h0);have h7:0<det 3 (zgc (x01,x10) (x02,x20) (x12,x21)):=by have h0:=aW 7 (by decide) (by simp);have h1:=zKY (x01,x10) (x02,x20) (x03,x30) (x12,x21) (x13,x31) (x23,x32);exact h1▸ h0
 have Mi:0<det 3 (zgc (x01,x10) (x03,x30) (x13,x31)):=by have h0:=aW 11 (by decide) (by simp);have h1:=zJV (x01,x10) (x02,x20) (x03,x30) (x12,x21) (x13,x31) (x23,x32);exact h1▸ h0
 have SS:0<det 3 (zgc (x02,x20) (x03,x30) (x23,x32)):=by have h0:=aW 13 (by decide) (by simp);have h1:=zJW (x01,x10) (x02,x20) (x03,x30) (x12,x21) (x13,x31) (x23,x32);exact h1▸ h0
 have SU:0<det 3 (zgc (x12,x21) (x13,x31) (x23,x32)):=by have h0:=aW 14 (by decide) (by simp);have h1:=zJX (x01,x10) (x02,x20) (x03,x30) (x12,x21) (x13,x31) (x23,x32);exact h1▸ h0
 have SV:0<det 4 (zeJ (x01,x10) (x02,x20) (x03,x30) (x12,x21) (x13,x31) (x23,x32)):=by have h0:=aW 15 (by decide) (by simp);have h1:=zJY (x01,x10) (x02,x20) (x03,x30) (x12,x21) (x13,x31) (x23,x32);exact h1▸ h0
 have h:=hK;unfold zip at h;have b7:zdV (x01,x10) (x02,x20) (x12,x21)=false:=by unfold zdV;rw[decide_eq_false_iff_not];omega
 have b11:zdV (x01,x10) (x03,x30) (x13,x31)=false:=by unfold zdV;rw[decide_eq_false_iff_not];omega
 have b13:zdV (x02,x20) (x03,x30) (x23,x32)=false:=by unfold zdV;rw[decide_eq_false_iff_not];omega
 have b14:zdV (x12,x21) (x13,x31) (x23,x32)=false:=by unfold zdV;rw[decide_eq_false_iff_not];omega
 have b15:decide (det 4 (zeJ (x01,x10) (x02,x20) (x03,x30) (x12,x21) (x13,x31) (x23,x32))<=0)=false:=by rw[decide_eq_false_iff_not];omega
 have h1:=List.all_eq_true.1 h _ p01;have h2:=List.all_eq_true.1 h1 _ p02;have h3:=List.all_eq_true.1 h2 _ p12;rw[b7,Bool.false_or] at h3;have h4:=List.all_eq_true.1 h3 _ p03;have h5:=List.all_eq_true.1 h4 _ p13;rw[b11,Bool.false_or] at h5;have h6:=List.all_eq_true.1 h5 _ p23;rw[b13,Bool.false_or,b14,Bool.false_or,b15,Bool.false_or] at h6;exact h6
theorem zzg{P:LL->Bool}(hK:P [[2]]=true){c:LL}(hC:IsC c)(hn:c.length=1):P c=true:=by
 obtain⟨r0,rfl⟩:=zGy hn;obtain⟨x00,rfl⟩:=zGy (hC.2.2.1 0 (by simp));have d0:x00=2:=zex hC (i:=0) (by simp);subst d0;exact hK
theorem zgB(P:LL->Bool)(p1:P [[2]]=true)(p2:ziY P=true)(p3:ziZ P=true)(p4:zip P=true){c:LL}(hC:IsC c)(hf:zaN c=true):P c=true:=by
 have:c.length=1∨c.length=2∨c.length=3∨c.length=4:=by have:=hC.1;have:=hC.2.1;omega
 rcases this with h|h|h|h
 ·exact zzg p1 hC h
 ·exact zzd p2 hC hf h
 ·exact zze p3 hC hf h
 ·exact zzf p4 hC hf h
end
section
open Go.RowKit
def zKZ(c:LL)(j k:Nat):LL:=(List.range c.length).map fun r=>(c.getD r []).set j (if r=k then 1 else 0)
def zdA(c:LL):LL:=(List.range c.length).map fun j=>(List.range c.length).map fun k=>det c.length (zKZ c j k)
def zJf(n:Nat)(r:LI)(c:LL)(i:Nat):Int:=((List.range n).map fun k=>r.getD k 0*ent c k i).sum
def zBF(c B:LL)(D:Int):Bool:=decide (0<D)&&decide (D<=20)&&(List.range c.length).all fun j=>
 (List.range c.length).all (fun i=>decide (zJf c.length (B.getD j []) c i=if i=j then D else 0))&&((B.getD j []).all fun x=>decide (0<=x))&&decide (1<=(B.getD j []).getD j 0)&&decide ((B.getD j []).length=c.length)&&decide (4*(B.getD j []).sum<=200)&&decide (4*(B.getD j []).sum<=22*(B.getD j []).getD j 0)
def zbM(c:LL):Bool:=zBF c (zdA c) (det c.length c)
end
end Go.Proofs.YtlgcmaoimpgedaaGreatDoor

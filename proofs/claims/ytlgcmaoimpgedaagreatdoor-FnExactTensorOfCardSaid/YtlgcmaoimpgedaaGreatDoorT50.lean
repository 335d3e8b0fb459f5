/- TpS TnH TpA MaxS MarkW -/
import Derived.Test.YtlgcmaoimpgedaaGreatDoorT49
import Derived.Shelf.Vars
set_option maxHeartbeats 8000000
set_option maxRecDepth 100000
set_option linter.unusedSimpArgs false
namespace Go.Proofs.YtlgcmaoimpgedaaGreatDoor
open Go.Value renaming slice->qS
section
open Go.RowKit Game Stb
theorem zmC(gc oc n cc g o cv N:Nat)(c:LL)(v:LI)(l:List Wt)(b:Bool)(w:World)(hn:c.length=n)(aS:n<=cv)(hS:zbi c v)(dm:ChM c v l b)(hN:N<=3)
 (ah:gc<w.heap.size) (hg:g<w.heap.size) (hr:zal w gc oc c) (hv:zag w g o v):
 Calls Tryz.prog 22 #[(qS (some ⟨gc,oc,none⟩) n cc),(qS (some ⟨g,o,none⟩) n cv),.int .i64 (N:Int)] w (zaO w (pwL (pwV c l b N)) (pwV c l b N).isSome):=by
 have aR:=hS.hC.2.1;have bD:=hS.hC.2.2.1;have an:∀j,j<c.length->(c.getD j []).length<=1048576:=fun j hj=>by rw[bD j hj];omega
 have bZ:=zdf gc oc n cc g o n cv c v w hn (by rw[hS.len];exact hn) (by omega) (by rw[hS.len];omega) an ah hr hv;rw[zyT hS rfl,hS.fin] at bZ;have bR:=fun V=>zdJ (N:Int) 0 3 V
 have OS:(decide ((0:Int)<=(N:Int))&&decide ((N:Int)<=3))=true:=by rw[decide_eq_true (by omega),decide_eq_true (by omega)];rfl
 rw[OS] at bR;have tH:=fun V x gx cx (hB:Below w.heap.size w V) (hx:x.length=n) (kE:gx<V.heap.size) (fh:zag V gx 0 x)=>zjC gc oc n cc gx 0 n cx g o n cv c x v l b V hn hx (by rw[hS.len];exact hn) (by omega) aS hS dm (qL ah hB.size) kE (qL hg hB.size) (hr.below hB ah) fh (hv.below hB hg)
 have hF:=zgK hS (zcJ hS.fin) dm;have qo:=fun(hb:b=true)=>fun(L:List Wt)=>zlU (c:=c) (b:=b) (L:=L) hS.fin (zfP (by rw[hb] at dm;exact dm)) hF
 have aL:=fun(hb:b=true) (x:Wt)=>zlT (c:=c) (b:=b) (x:=x) hS.fin (zfP (by rw[hb] at dm;exact dm)) hF
 subst hn;obtain⟨R,hR⟩:∃R,pwV c l b N=R:=⟨_,rfl⟩;rw[hR];have iq:=qd bR;have eH:=qd bZ;have Az:=qd tH;have GZ:=qd qo;have gI:=qd aL;have HR:=qd hR;clear bR bZ tH qo aL hR hF dm hS bD an hr hv ah hg OS
 go_enter Tryz.func22,Tryz.ntmps22
 go_wp2_with fail;refine eH.out.mono ?_;rintro e w1 ⟨rfl,ad⟩;have FG:=qd (iq.out w1);clear eH iq;go_wp2_with fail;refine FG.out.mono ?_;rintro e w2 ⟨rfl,aB⟩;have az:=zaf ad aB;clear FG aB ad;go_wp2_with (at_make;refine zbF (w:=w2) rfl _ _ rfl w.heap.size c.length _ rfl rfl rfl (by omega) az.size ?_);intro w3 al aK;have ap:=az.grown aK az.size (by intro j hj;cases hj);obtain⟨g3,tI⟩:∃g3,w2.heap.size=g3:=⟨_,rfl⟩;rw[tI] at al ⊢;have qa:(List.replicate c.length (0:Int)).length=c.length:=by simp
 have tJ:zas (w3.alloc (.cells #[(qS (some ⟨g3,0,none⟩) c.length c.length),.int .i64 1] 36)) w.heap.size w3.heap.size 1 [((g3,c.length,List.replicate c.length 0),1)]:=by
  have h:=zas.one 1 al;unfold zah at h;rw[qa] at h;exact h
 have aG:Below w.heap.size w (w3.alloc (.cells #[(qS (some ⟨g3,0,none⟩) c.length c.length),.int .i64 1] 36)):=ap.alloc ap.size _;clear az aK tI ap al qa;go_wp2_with fail;go_loopw [8,9] (fun ov kv wr=>∃(k p gO cO:Nat) (L:List Wt) (rs:List WRef),k<=N/\kv= .int .i64 k/\ov=(qS (some ⟨gO,0,none⟩) p cO)/\Hid (rs.length=p)/\Hid (zaz rs=L)/\Hid (pwV c l b k=some L)/\Hid (PwF c L)/\zas wr w.heap.size gO cO rs/\Below w.heap.size w wr) (fun _ kv _=>N-(intOf kv).toNat)
 case atStart=>exact⟨0,1,w3.heap.size,1,[(List.replicate c.length 0,1)],[((g3,c.length,List.replicate c.length 0),1)],qz _,rfl,rfl,rfl,rfl,rfl,qd (PwF.start c),tJ,aG⟩
 case round=>
  clear tJ aG;obtain⟨k,p,gO,cO,L,rs,hk,rfl,rfl,an,ak,uY,hP,ho,hb⟩:=hrel;have AB:L.length=p:=by rw[<-zeD ak.out];exact an.out
  have Fu:p<=125000:=by rw[<-AB];exact hP.out.few
  by_cases BU:k<N
  ·have nF:=qd AB;clear AB;go_wp2_with fail;go_loopw [10,11] (fun nv iv wi=>∃(i q gN cN:Nat) (ts:List WRef),i<=p/\iv= .int .i64 i/\nv=(qS (some ⟨gN,0,none⟩) q cN)/\q<=200*i/\Hid (ts.length=q)/\Hid (zaz ts=zcR (pwR c l (L.take i)))/\Hid (zeX c b (L.take i)=true)/\zas wi w.heap.size gN cN ts/\zas wi w.heap.size gO cO rs/\Below w.heap.size w wi) (fun _ iv _=>p-(intOf iv).toNat)
   case atStart=>
    have bE:=(Below.refl wr.heap.size wr).alloc (qr _) (.cells #[] 36);exact⟨0,0,wr.heap.size,0,[],qz _,rfl,rfl,qz _,rfl,rfl,rfl,zas.empty hb.size,ho.below bE,hb.alloc hb.size _⟩
   case round=>
    clear ho hb;obtain⟨i,q,gN,cN,ts,hi,rfl,rfl,CS,bU,nK,aV,je,eg,hb⟩:=hrel
    have Fv:i<=625:=by
     have h1:=hP.out.small aR aV.out;rw[List.length_take,nF.out] at h1;omega
    by_cases Fw:i<p
    ·have mC:i<rs.length:=by rw[an.out];exact Fw
     have tK:i<L.length:=by rw[nF.out];exact Fw
     obtain⟨q1,q2⟩:=eg.cells mC;have e1:=zeW ak.out mC tK;have bN:=eg.ofMem (List.getElem_mem mC);have fY:=hP.out.len _ (List.getElem_mem tK);have bQ:=zpJ (c:=c) (l:=l) tK;have nZ:=fun h=>zsz (c:=c) (b:=b) tK aV.out h
     have lQ:=fun h=>zxz (c:=c) (b:=b) tK h
     rw[e1] at fY bQ nZ lQ;have Fp:=qd (fun V (hV:zas V w.heap.size gO cO rs)=>(hV.cells mC).2);generalize rs[i]=r at*;obtain⟨⟨gx,cx,x⟩,ct⟩:=r;dsimp only at q1 q2 bN fY bQ nZ lQ Fp;have q1':wr.cell? ⟨gO,i*2,none⟩=some (qS (some ⟨gx,0,none⟩) c.length cx):=by rw[<-fY];exact q1
     have aa:=Az.out wr x gx cx hb fY bN.lt bN.cells
     cases hT:zcp c x b with
     |false=>
      have aJ:=zxy uY.out BU (lQ hT);have LU:R=none:=by rw[<-HR.out];exact aJ
      subst LU;rw[hT] at aa;have ab:=qd aa;clear aa nZ lQ bQ q1 e1 bN aJ je eg;generalize zho c x l b=TT at*;go_wp2_with fail;refine ab.out.mono ?_;rintro e w4 ⟨gT,cT,rsT,rfl,-,-,aM⟩;have aG:=hb.trans (aM.mono hb.size);clear ab;go_wp2_with fail;go_ret2;exact zaO.mk' _ _ [] rfl rfl (zas.empty aG.size) (aG.alloc aG.size _)
     |true=>
      have nG:b=true:=by unfold zcp at hT;exact(Bool.and_eq_true_iff.1 hT).1
      have eT:zho c x l b=zcR (zcm c x l):=by unfold zho;rw[if_pos hT]
      have vU:=gI.out nG (x,ct) hT;have eY:=nZ hT;have OT:=GZ.out nG L i (by rw[nF.out];exact hi) aV.out;dsimp only at vU;have eL:pwR c l (L.take (i+1))=pwR c l (L.take i)++(zcR (zcm c x l)).map (zfe ct):=bQ;rw[hT,eT] at aa;generalize zcR (zcm c x l)=T at*;have Fx:=vU.few;have LZ:=qd vU;have Ma:=qd OT;have ab:=qd aa;have AD:=qd eY;have lh:=qd eL;clear aa nZ lQ bQ eL eY q1 e1 bN vU hT eT OT;go_wp2_with fail;refine ab.out.mono ?_;rintro e w4 ⟨gT,cT,rsT,rfl,uh,lc,aM⟩;have aG:=hb.trans (aM.mono hb.size);have tL:=je.below aM;have bq:=eg.below aM;have nk:=zeD uh;have tN:=lc.mono hb.size;have Dw:=qd uh;have vx:=qd nk;clear ab aM uh nk lc q1' q2 je eg hb;go_wp2_with fail;go_loopw [10,14] (fun nv jv wj=>∃(j q' gN' cN':Nat) (tt:List WRef),j<=T.length/\jv= .int .i64 j/\nv=(qS (some ⟨gN',0,none⟩) q' cN')/\q'<=200*i+j/\Hid (tt.length=q')/\Hid (zaz tt=zcR (pwR c l (L.take i)++(T.take j).map (zfe ct)))/\zas wj w.heap.size gN' cN' tt/\zas wj w.heap.size gO cO rs/\zas wj w.heap.size gT cT rsT/\Below w.heap.size w wj) (fun _ jv _=>T.length-(intOf jv).toNat)
      case atStart=>exact⟨0,q,gN,cN,ts,qz _,rfl,rfl,by omega,bU,by show _=_;rw[nK.out];simp,tL,bq,tN,aG⟩
      case round=>
       clear tL bq tN aG bU nK;obtain⟨j,q',gN',cN',tt,hj,rfl,rfl,SK,oT,jQ,oU,eg,lc,hb⟩:=hrel;by_cases vV:j<T.length
       ·have vW:j<rsT.length:=by rw[vx.out];exact vV
        obtain⟨q1,q2⟩:=lc.cells vW;have e1:=zeW Dw.out vW vV;have iV:=lc.ofMem (List.getElem_mem vW);have lV:=LZ.out.len _ (List.getElem_mem vV);have uj:=Ma.out.app (zvD LZ.out ct j);have Bp:=Ma.out.app (zvD LZ.out ct (j+1))
        have bQ:(T.take (j+1)).map (zfe ct)=(T.take j).map (zfe ct)++[zfe ct T[j]]:=by
         rw[qT vV,List.map_append];rfl
        rw[e1] at lV bQ;generalize rsT[j]=r at*;obtain⟨⟨gy,cy,y⟩,cty⟩:=r;dsimp only at q1 q2 iV lV bQ;have hX:Below wr.heap.size wr wr.drew:=Below.drew (Below.refl _ _);have q1':wr.drew.cell? ⟨gT,j*2,none⟩=some (qS (some ⟨gy,0,none⟩) c.length cy):=by rw[<-lV];exact q1
        have q2':wr.drew.cell? ⟨gT,j*2+1,none⟩=some (.int .i64 cty):=q2;have q3':wr.drew.cell? ⟨gO,i*2+1,none⟩=some (.int .i64 ct):=Fp.out wr eg;have ew:IntKind.i64.wrap (cty*ct)=wrap64 (cty*ct):=by simp only[wrap64,IntKind.wrap_i64]
        have hN:pwR c l (L.take i)++(T.take (j+1)).map (zfe ct)=(pwR c l (L.take i)++(T.take j).map (zfe ct))++[(y,wrap64 (cty*ct))]:=by rw[bQ,<-List.append_assoc];rfl
        have xJ:(zcR (pwR c l (L.take i)++(T.take (j+1)).map (zfe ct))).length<=200*i+(j+1):=by
         have h1:=zlO (pwR c l (L.take i)++(T.take (j+1)).map (zfe ct));have h2:=Ma.out.few;rw[qA,List.length_map,List.length_take] at h1;omega
        generalize wrap64 (cty*ct)=z at*
        have bI:∀r∈tt,r.1.2.2.length=y.length:=fun r df=>by
         have h1:(r.1.2.2,r.2)∈zaz tt:=List.mem_map.2 ⟨r,df,rfl⟩;rw[jQ.out] at h1;obtain⟨y2,hy,e⟩:=zlP _ _ h1;have:=uj.len y2 hy;rw[e] at this;rw[lV];exact this
        have fb:Desc (zaz tt):=by rw[jQ.out];exact(zkU uj.inr).desc
        have iA:=zmm w.heap.size gN' cN' q' gy 0 c.length cy tt y z wr.drew oT.out lV (by rw[oT.out];omega) (by rw[lV];omega) bI fb (oU.below hX) iV.lt iV.cells;rw[jQ.out,<-zsi,<-hN] at iA;have jB:=qd iA;have FH:=qd xJ;have zJ:=hb.trans (hX.mono hb.size);have xK:=eg.below hX;have FI:=lc.below hX;clear hN q1 q2 iV lV bQ oU eg lc hb e1 jQ bI fb iA xJ uj Bp hX;go_wp2_with fail
        go_region_held3 (fun W=>W.cell? ⟨gT,j*2,none⟩=some (qS (some ⟨gy,0,none⟩) c.length cy)/\W.cell? ⟨gT,j*2+1,none⟩=some (.int .i64 cty)/\W.cell? ⟨gO,i*2+1,none⟩=some (.int .i64 ct))
         (first|with_reducible exact⟨q1',q2',q3'⟩|with_reducible exact⟨zaB bJ q1',zaB bJ q2',zaB bJ q3'⟩)
         (first
           |(go_at_call 47;(with_reducible refine jB.out.mono ?_);rintro e w6 ⟨g6,c6,rs6,rfl,rH,hY,Mb,bJ⟩))
        have de:=zJ.trans (bJ.mono zJ.size);have tO:=xK.below bJ;have AJ:=FI.below bJ;have Ft:rs6.length<=200*i+(j+1):=by rw[zeD rH];exact FH.out
        have LQ:=qd rH;obtain⟨p6,oS⟩:∃p6,rs6.length=p6:=⟨_,rfl⟩;have LR:=qd oS;rw[oS] at Ft ⊢;clear jB zJ xK FI bJ q1' q2' q3' rH oS Mb;go_wp2_with fail;go_roundw
        case rel=>exact⟨j+1,p6,g6,c6,rs6,by omega,by go_num,rfl,Ft,LR,LQ,hY,tO,AJ,de⟩
        case measure=>simp[intOf];omega
       ·obtain rfl:j=T.length:=by omega
        have aH:=jQ.out;rw[qF (qr _),<-lh.out] at aH;have fi:=qd aH;clear aH jQ lc;go_wp2_with fail;go_roundw
        case rel=>exact⟨i+1,q',gN',cN',tt,by omega,by go_num,rfl,by omega,oT,fi,AD,oU,eg,hb⟩
        case measure=>simp[intOf];omega
    ·obtain rfl:i=p:=by omega
     have aH:=nK.out;have eY:=aV.out;rw[qF (by rw[nF.out];exact qr _)] at aH eY;have fk:pwV c l b (k+1)=some (zcR (pwR c l L)):=zpI uY.out eY
     have nG:i=0∨b=true:=by
      by_cases h0:i=0
      ·exact .inl h0
      ·refine .inr ?_;have h1:(L[0]'(by rw[nF.out];omega))∈L:=List.getElem_mem _;unfold zeX at eY;have h2:=List.all_eq_true.1 eY _ h1;unfold zcp at h2;exact(Bool.and_eq_true_iff.1 h2).1
     have xI:RwF c (pwR c l L) (200*i):=by
      rcases nG with h0|h0
      ·have:L=[]:=List.length_eq_zero_iff.1 (by rw[nF.out,h0]);rw[this,h0];exact RwF.nil c
      ·have h1:=GZ.out h0 L i (by rw[nF.out];exact qr _) aV.out
       rwa [qF (by rw[nF.out];exact qr _)] at h1
     have nt:=qd fk;have fi:=qd aH;have LX:=qd (PwF.next xI (by omega));clear aH eY fk nG xI eg nK aV;go_wp2_with fail;go_roundw
     case rel=>exact⟨k+1,q,gN,cN,_,ts,by omega,by go_num,rfl,bU,fi,nt,LX,je,hb⟩
     case measure=>simp[intOf];omega
  ·obtain rfl:k=N:=by omega
   have uj:R=some L:=by rw[<-HR.out];exact uY.out
   subst uj;go_wp2_with fail;go_ret2;exact zaO.mk' gO cO rs an.out ak.out ho hb
end
section
open Go.RowKit Game Stb
theorem zaO.held{w w':World}{L:List Wt}{b:Bool}{e:Ending}(h:zaO w L b e w'):
 ∃g cap,e= .returned (.tuple #[(qS (some ⟨g,0,none⟩) L.length cap),.bool b])/\zeE w' w.heap.size w'.heap.size g cap L/\Below w.heap.size w w':=by
 obtain⟨g,cap,rs,he,hc,ho,hb⟩:=h;exact⟨g,cap,he,⟨rs,hc,ho,ho.lt,fun r hr=>(ho.ofMem hr).lt⟩,hb⟩
theorem zBA(c:LL)(v u:LI):zgb (ziN c v u):=by
 unfold ziN;by_cases hb:(zaN c&&decide (Sml c.length u))=true
 ·rw[if_pos hb];obtain⟨h1,h2⟩:=Bool.and_eq_true_iff.1 hb;have hS:=zgA h1 (of_decide_eq_true h2);have dm:=zkZ hS;unfold zho;by_cases ht:zcp c v (chB c u)=true
  ·rw[if_pos ht];have nG:chB c u=true:=by unfold zcp at ht;exact(Bool.and_eq_true_iff.1 ht).1
   have hT:=zlT (x:=(v,0)) h1 (zfP (by rw[nG] at dm;exact dm)) (zgK hS (zcJ hS.fin) dm) ht;exact zoi hT.few hT.len hS.hC.2.1
  ·rw[if_neg ht];exact⟨by simp,by simp⟩
 ·rw[if_neg hb];exact⟨by simp,by simp⟩
end
section
open Go.RowKit Game Stb
def zkA(c:LL)(v:LI)(N:Int):Bool:=(zaN c&&decide (Sml c.length v))&&(decide (0<=N)&&decide (N<=3))
theorem zla(gc oc n cc g o m cv:Nat)(c:LL)(v:LI)(N:Int)(w:World)(hn:c.length=n)(hm:v.length=m)(hx:c.length<=1048576)(eP:v.length<=1048576)(an:∀j,j<c.length->(c.getD j []).length<=1048576)
 (aJ:zkA c v N=false) (ah:gc<w.heap.size) (hg:g<w.heap.size) (hr:zal w gc oc c) (hv:zag w g o v):
 Calls Tryz.prog 21 #[(qS (some ⟨gc,oc,none⟩) n cc),(qS (some ⟨g,o,none⟩) m cv),.int .i64 N] w (zaO w [] false):=by
 have qu:=zdd gc oc n cc c w hn hx an ah hr;have bZ:=fun V (hB:Below w.heap.size w V)=>zdn gc oc n cc g o m cv c v V hn hm hx eP (hv.below hB hg)
 cases hf:zaN c with
 |false=>
  rw[hf] at qu;have qD:=qd qu;clear qu bZ aJ hr hv an
  go_enter Tryz.func21,Tryz.ntmps21
  go_wp2_with fail;refine qD.out.mono ?_;rintro e w1 ⟨rfl,ad⟩;clear qD;go_wp2_with fail;go_ret2;exact zaO.mk' _ _ [] rfl rfl (zas.empty ad.size) (ad.alloc ad.size _)
 |true=>
  rw[hf] at qu;by_cases hs:Sml c.length v
  ·rw[decide_eq_true hs] at bZ
   have hN:N<0∨3<N:=by
    unfold zkA at aJ;rw[hf,decide_eq_true hs] at aJ;by_cases h0:N<0
    ·exact .inl h0
    ·refine .inr ?_;by_cases h1:3<N
     ·exact h1
     ·rw[decide_eq_true (by omega:0<=N),decide_eq_true (by omega:N<=3)] at aJ
      cases aJ
   have qD:=qd qu;have eH:=qd bZ;clear qu bZ aJ hr hv an hf hs;by_cases h0:N<0
   ·clear hN
    go_enter Tryz.func21,Tryz.ntmps21
    go_wp2_with fail;refine qD.out.mono ?_;rintro e w1 ⟨rfl,ad⟩;have gC:=qd (eH.out w1 ad);clear qD eH;go_wp2_with fail;refine gC.out.mono ?_;rintro e w2 ⟨rfl,aB⟩;have az:=zaf ad aB;clear gC;go_wp2_with fail;go_ret2;exact zaO.mk' _ _ [] rfl rfl (zas.empty az.size) (az.alloc az.size _)
   ·have h3:3<N:=by omega
    clear hN
    go_enter Tryz.func21,Tryz.ntmps21
    go_wp2_with fail;refine qD.out.mono ?_;rintro e w1 ⟨rfl,ad⟩;have gC:=qd (eH.out w1 ad);clear qD eH;go_wp2_with fail;refine gC.out.mono ?_;rintro e w2 ⟨rfl,aB⟩;have az:=zaf ad aB;clear gC;go_wp2_with fail;go_ret2;exact zaO.mk' _ _ [] rfl rfl (zas.empty az.size) (az.alloc az.size _)
  ·rw[decide_eq_false hs] at bZ;have qD:=qd qu;have eH:=qd bZ;clear qu bZ aJ hr hv an hf hs
   go_enter Tryz.func21,Tryz.ntmps21
   go_wp2_with fail;refine qD.out.mono ?_;rintro e w1 ⟨rfl,ad⟩;have gC:=qd (eH.out w1 ad);clear qD eH;go_wp2_with fail;refine gC.out.mono ?_;rintro e w2 ⟨rfl,aB⟩;have az:=zaf ad aB;clear gC;go_wp2_with fail;go_ret2;exact zaO.mk' _ _ [] rfl rfl (zas.empty az.size) (az.alloc az.size _)
theorem zlb(gc oc n cc g o m cv:Nat)(c:LL)(v:LI)(N:Int)(w:World)(hn:c.length=n)(hm:v.length=m)(hx:c.length<=1048576)(eP:v.length<=1048576)(an:∀j,j<c.length->(c.getD j []).length<=1048576)
 (aJ:zkA c v N=false) (ah:gc<w.heap.size) (hr:zal w gc oc c) (hv:zag w g o v):
 Calls Tryz.prog 22 #[(qS (some ⟨gc,oc,none⟩) n cc),(qS (some ⟨g,o,none⟩) m cv),.int .i64 N] w (zaO w [] false):=by
 have bZ:=zdf gc oc n cc g o m cv c v w hn hm hx eP an ah hr hv;have bR:=fun V=>zdJ N 0 3 V
 unfold zkA at aJ
 cases hf:(zaN c&&decide (Sml c.length v)) with
 |false=>
  rw[hf] at bZ;have eH:=qd bZ;clear bZ aJ bR hr hv an hf
  go_enter Tryz.func22,Tryz.ntmps22
  go_wp2_with fail;refine eH.out.mono ?_;rintro e w1 ⟨rfl,ad⟩;clear eH;go_wp2_with fail;go_ret2;exact zaO.mk' _ _ [] rfl rfl (zas.empty ad.size) (ad.alloc ad.size _)
 |true=>
  rw[hf] at bZ aJ;rw[Bool.true_and] at aJ;rw[aJ] at bR;have eH:=qd bZ;have iq:=qd bR;clear bZ aJ bR hr hv an hf
  go_enter Tryz.func22,Tryz.ntmps22
  go_wp2_with fail;refine eH.out.mono ?_;rintro e w1 ⟨rfl,ad⟩;have FG:=qd (iq.out w1);clear eH iq;go_wp2_with fail;refine FG.out.mono ?_;rintro e w2 ⟨rfl,aB⟩;have az:=zaf ad aB;clear FG;go_wp2_with fail;go_ret2;exact zaO.mk' _ _ [] rfl rfl (zas.empty az.size) (az.alloc az.size _)
noncomputable def tpO(c:LL)(v:LI)(N:Int):Option (List Wt):=if zkA c v N=true then pwV c (chL c v) (chB c v) N.toNat else none
theorem zpK{c:LL}{v:LI}{N:Int}(h:zkA c v N=true):zbi c v/\∃k:Nat,N=(k:Int)/\k<=3:=by
 unfold zkA at h;obtain⟨h1,h2⟩:=Bool.and_eq_true_iff.1 h;obtain⟨h3,h4⟩:=Bool.and_eq_true_iff.1 h1;obtain⟨h5,h6⟩:=Bool.and_eq_true_iff.1 h2;have h5:=of_decide_eq_true h5;have h6:=of_decide_eq_true h6;exact⟨zgA h3 (of_decide_eq_true h4),N.toNat,by omega,by omega⟩
theorem zhp(gc oc n cc g o m cv:Nat)(c:LL)(v:LI)(N:Int)(w:World)(hn:c.length=n)(hm:v.length=m)(hx:c.length<=1048576)(eP:v.length<=1048576)(an:∀j,j<c.length->(c.getD j []).length<=1048576)(aS:n<=cc)(kG:zeR w)
 (ah:gc<w.heap.size) (hg:g<w.heap.size) (hr:zal w gc oc c) (hv:zag w g o v):
 Calls Tryz.prog 21 #[(qS (some ⟨gc,oc,none⟩) n cc),(qS (some ⟨g,o,none⟩) m cv),.int .i64 N] w (zaO w (pwL (tpO c v N)) (tpO c v N).isSome):=by
 cases hb:zkA c v N with
 |true=>
  obtain⟨hS,k,rfl,hk⟩:=zpK hb;obtain rfl:n=m:=by rw[<-hn,<-hm,hS.len]
  have h:=zmB gc oc n cc g o cv k c v _ _ w hn aS hS kG (zkZ hS) hk ah hg hr hv;unfold tpO;rw[if_pos hb,show(k:Int).toNat=k by omega];exact h
 |false=>
  have h:=zla gc oc n cc g o m cv c v N w hn hm hx eP an hb ah hg hr hv;unfold tpO;rw[hb,if_neg (by decide)];exact h
theorem zlV(gc oc n cc g o m cv:Nat)(c:LL)(v:LI)(N:Int)(w:World)(hn:c.length=n)(hm:v.length=m)(hx:c.length<=1048576)(eP:v.length<=1048576)(an:∀j,j<c.length->(c.getD j []).length<=1048576)(aS:m<=cv)
 (ah:gc<w.heap.size) (hg:g<w.heap.size) (hr:zal w gc oc c) (hv:zag w g o v):
 Calls Tryz.prog 22 #[(qS (some ⟨gc,oc,none⟩) n cc),(qS (some ⟨g,o,none⟩) m cv),.int .i64 N] w (zaO w (pwL (tpO c v N)) (tpO c v N).isSome):=by
 cases hb:zkA c v N with
 |true=>
  obtain⟨hS,k,rfl,hk⟩:=zpK hb;obtain rfl:n=m:=by rw[<-hn,<-hm,hS.len]
  have h:=zmC gc oc n cc g o cv k c v _ _ w hn aS hS (zkZ hS) hk ah hg hr hv;unfold tpO;rw[if_pos hb,show(k:Int).toNat=k by omega];exact h
 |false=>
  have h:=zlb gc oc n cc g o m cv c v N w hn hm hx eP an hb ah hr hv;unfold tpO;rw[hb,if_neg (by decide)];exact h
theorem zsA{c:LL}{l:List Wt}{b:Bool}(hf:zaN c=true)(hn:c.length<=4)(hs:b=true->szO c<=200)(hF:ChF c l):∀(k:Nat) (L:List Wt),pwV c l b k=some L->PwF c L
 |0,L,h=>by
  simp only[pwV,Option.some.injEq] at h;subst h;exact PwF.start c
 |k+1,L,h=>by
  cases hp:pwV c l b k with
  |none=>simp only[pwV,hp] at h;cases h
  |some M=>
   have hM:=zsA hf hn hs hF k M hp
   cases ho:zeX c b M with
   |false=>rw[zvC hp ho] at h;cases h
   |true=>
    rw[zpI hp ho] at h
    cases h
    by_cases h0:M=[]
    ·subst h0;exact PwF.next (RwF.nil c) (by omega)
    ·have nG:b=true:=by
      obtain⟨x,hx⟩:=List.exists_mem_of_ne_nil M h0;unfold zeX at ho;have h2:=List.all_eq_true.1 ho x hx;unfold zcp at h2;exact(Bool.and_eq_true_iff.1 h2).1
     have ar:zeX c b (M.take M.length)=true:=by rw[qF (qr _)];exact ho
     have h1:=zlU (L:=M) hf (hs nG) hF M.length (qr _) ar;have h3:=hM.small hn ar;rw[qF (qr _)] at h1 h3;exact PwF.next h1 (by omega)
theorem zJc(c:LL)(v:LI)(N:Int):zgb (pwL (tpO c v N)):=by
 cases hT:tpO c v N with
 |none=>exact⟨by simp[pwL],by simp[pwL]⟩
 |some L=>
  unfold tpO at hT;by_cases hb:zkA c v N=true
  ·rw[if_pos hb] at hT;obtain⟨hS,-⟩:=zpK hb;have dm:=zkZ hS;have h:=zsA hS.fin hS.hC.2.1 (fun nG=>zfP (by rw[nG] at dm;exact dm)) (zgK hS (zcJ hS.fin) dm) _ L hT;have h1:=h.few;have aR:=hS.hC.2.1
   exact⟨by show L.length<=_;omega,fun j hj=>by
    have hj:j<L.length:=hj;have h2:wOf (pwL (some L)) j=(L[j]).1:=by simp[pwL,wOf,List.getD,hj]
    rw[h2,h.len _ (List.getElem_mem hj)];omega⟩
  ·rw[if_neg hb] at hT;cases hT
end
section
open Go.RowKit
theorem zqQ{w:World}(h:w.ShapedOpen Tryz.prog):zeR w:=
 cell_of_shapedOpen_int (zero:=#[.int .i64 0]) (t:=3) (k:= .i64) (g:=0) h (of_decide_eq_true (by kernel_rfl)) (by kernel_rfl) (by kernel_rfl) (by kernel_rfl) (by kernel_rfl) Tryz.underlying3
end
section
open Go.RowKit
theorem zvE(B g n cap:Nat)(xs:LI)(k0:Nat)(w:World)(hn:xs.length=n)(hx:n<=1099511627776)(nh:k0<=4503599627370496)(ai:Own w B g cap xs):
 Calls Tryz.prog 34 #[(qS (some ⟨g,0,none⟩) n cap),.int .i64 (k0:Int)] w fun e w'=>
  e= .returned (.int .i64 ((k0+n:Nat):Int))/\Own w' B g cap (zbU k0 n)/\w.grownBy w' (some g):=by
 subst hn
 go_enter Tryz.func34,Tryz.ntmps34
 go_wp2;go_loopw [1,5] (fun k i wr=>∃j:Nat,j<=xs.length/\i= .int .i64 j/\k= .int .i64 ((k0+j:Nat):Int)/\Own wr B g cap (zbU k0 j++xs.drop j)/\w.grownBy wr (some g)) (fun _ i _=>xs.length-(intOf i).toNat)
 case atStart=>exact⟨0,qz _,rfl,rfl,by simpa [zbU] using ai,World.grownBy.refl _ _⟩
 case round=>
  obtain⟨j,hj,rfl,rfl,ho,hg⟩:=hrel;by_cases ac:j<xs.length
  ·have hl:(zbU k0 j++xs.drop j).length=xs.length:=by simp[zdR];omega
   have h1:=ho.cell j (by rw[hl];exact ac);have h2:=ho.frozen j;have Hl:=qd hl;clear hl;go_wp2;go_roundw
   case rel=>
    have hs:=ho.set j (((k0+j:Nat):Int));rw[ztj k0 xs.length j xs rfl ac] at hs;exact⟨j+1,by omega,by go_num,by go_num,hs.1,World.grownBy.trans' hg hs.2⟩
   case measure=>simp[intOf];omega
  ·obtain rfl:j=xs.length:=by omega
   go_wp2;go_ret;exact⟨rfl,by simpa using ho,hg⟩
theorem zvF(g cap:Nat)(k0 n:Nat)(w:World)(hx:n<=1099511627776)(nh:k0<=4503599627370496)(hc:zag w g 0 (zbU k0 n)):
 Calls Tryz.prog 69 #[(qS (some ⟨g,0,none⟩) n cap),.int .i64 (k0:Int)] w (zap w (.int .i64 ((k0+n:Nat):Int))):=by
 have aA:∀j,j<n->w.cell? ⟨g,j,none⟩=some (.int .i64 ((k0+j:Nat):Int)):=fun j hj=>by
  have:=hc j (by rw[zdR];exact hj);rw[Nat.zero_add] at this;rw[this,zxD _ _ _ hj]
 clear hc
 go_enter Tryz.func69,Tryz.ntmps69
 go_wp2;go_loopw [1,5] (fun k i wr=>∃j:Nat,j<=n/\i= .int .i64 j/\k= .int .i64 ((k0+j:Nat):Int)/\∃m,wr=w.drewN m) (fun _ i _=>n-(intOf i).toNat)
 case atStart=>exact⟨0,qz _,rfl,rfl,0,rfl⟩
 case round=>
  obtain⟨j,hj,rfl,rfl,m,rfl⟩:=hrel;by_cases ac:j<n
  ·have h1:=aA j ac;clear aA;go_wp2;go_roundw
   case rel=>exact⟨j+1,by omega,by go_num,by go_num,m,rfl⟩
   case measure=>simp[intOf];omega
  ·obtain rfl:j=n:=by omega
   go_wp2;go_ret;exact⟨rfl,m,rfl⟩
def zcq:List Wt->Nat->Nat
 |_,0=>0
 |l,t+1=>zcq l t+(wOf l t).length+1
def zGL(l:List Wt):Nat:=zcq l l.length
theorem zkB{l:List Wt}(h:zgb l):∀t,t<=l.length->zcq l t<=t*1048577
 |0,_=>qz _
 |t+1,ht=>by
  have ih:=zkB h t (by omega);have:=h.2 t (by omega);show zcq l t+(wOf l t).length+1<=_;omega
def zgL(k:Nat)(l:List Wt):List Wt:=(List.range l.length).map fun t=>(zbU (k+zcq l t) (wOf l t).length,((k+zcq l t+(wOf l t).length:Nat):Int))
theorem zdQ(k:Nat)(l:List Wt):(zgL k l).length=l.length:=by simp[zgL]
theorem znH(k:Nat)(l:List Wt)(t:Nat)(ht:t<l.length):(zgL k l).getD t ([],0)=(zbU (k+zcq l t) (wOf l t).length,((k+zcq l t+(wOf l t).length:Nat):Int)):=by simp[zgL,List.getD,ht]
theorem znI(r:WRef):∀(rs:List WRef) (t:Nat),zby (rs.set t r)=((zby rs).set (t*2) (zah r.1)).set (t*2+1) (.int .i64 r.2)
 |[],t=>by simp[zby]
 |s::rs,0=>by simp[zby]
 |s::rs,t+1=>by
  have ih:=znI r rs t;have e1:zby ((s::rs).set (t+1) r)=zah s.1:: .int .i64 s.2::zby (rs.set t r):=by simp[zby]
  have e2:zby (s::rs)=zah s.1:: .int .i64 s.2::zby rs:=by simp[zby]
  rw[e1,e2,ih,show(t+1)*2=t*2+1+1 by omega];simp
section
variable {w w':World} {B g cap:Nat} {rs:List WRef}
theorem zas.setRow(h:zas w B g cap rs)(t:Nat)(ht:t<rs.length)(xs:LI)(hl:xs.length=rs[t].1.2.2.length)(hg:w.grownBy w' (some rs[t].1.1))(ho:Own w' B rs[t].1.1 rs[t].1.2.1 xs):
 zas w' B g cap (rs.set t ((rs[t].1.1,rs[t].1.2.1,xs),rs[t].2)):=by
 have hm:=h.ofMem (List.getElem_mem ht);obtain⟨f1,f2⟩:=ziW rs [] t ht;rw[List.append_nil] at f1 f2;refine⟨?_,?_⟩
 ·rw[znI,List.length_set]
  have e1:(zby rs).set (t*2) (zah (rs[t].1.1,rs[t].1.2.1,xs))=zby rs:=by
   apply List.ext_getElem (by simp);intro i h1 h2;rw[List.getElem_set]
   split
   ·rename_i e
    subst e;rw[List.getElem?_eq_getElem h2] at f1;rw[Option.some.inj f1];unfold zah;rw[hl]
   ·rfl
  have e2:(zby rs).set (t*2+1) (.int .i64 rs[t].2)=zby rs:=by
   apply List.ext_getElem (by simp);intro i h1 h2;rw[List.getElem_set]
   split
   ·rename_i e
    subst e;rw[List.getElem?_eq_getElem h2] at f2;exact(Option.some.inj f2).symm
   ·rfl
  show zaE w' B _ 2 g cap rs.length (((zby rs).set (t*2) (zah (rs[t].1.1,rs[t].1.2.1,xs))).set (t*2+1) (.int .i64 rs[t].2));rw[e1,e2];exact zaE.grown h.1 hg (fun e=>h.ne hm (Option.some.inj e))
 ·have h1:=zcS.setRow (rs:=rs.map (·.1)) h.2 t (by simpa using ht) xs (by simpa using hg) (by simpa using ho);simpa [List.map_set] using h1
theorem zas.setCt(h:zas w B g cap rs)(t:Nat)(ht:t<rs.length)(z:Int):zas (w.setCell ⟨g,t*2+1,none⟩ (.int .i64 z)) B g cap (rs.set t (rs[t].1,z))/\w.grownBy (w.setCell ⟨g,t*2+1,none⟩ (.int .i64 z)) (some g):=by
 have h1:=zaE.set h.1 (t*2+1) (.int .i64 z);obtain⟨f1,f2⟩:=ziW rs [] t ht;rw[List.append_nil] at f1 f2
 have e1:(zby rs).set (t*2) (zah rs[t].1)=zby rs:=by
  apply List.ext_getElem (by simp);intro i h1 h2;rw[List.getElem_set]
  split
  ·rename_i e
   subst e;rw[List.getElem?_eq_getElem h2] at f1;exact(Option.some.inj f1).symm
  ·rfl
 refine⟨⟨?_,?_⟩,h1.2⟩
 ·rw[znI,List.length_set];show zaE _ B _ 2 g cap rs.length (((zby rs).set (t*2) (zah rs[t].1)).set (t*2+1) (.int .i64 z));rw[e1];exact h1.1
 ·have e2:(rs.set t (rs[t].1,z)).map (·.1)=rs.map (·.1):=by
   rw[List.map_set];apply List.ext_getElem (by simp);intro i h1 h2;rw[List.getElem_set]
   split
   ·rename_i e;subst e;simp
   ·rfl
  rw[e2];refine⟨fun r hr=>(h.2.1 r hr).grown h1.2 (fun e=>?_),h.2.2⟩;exact h.ne (h.2.1 r hr) (Option.some.inj e).symm
end
theorem zsB(rs:List WRef)(t:Nat)(r:WRef):zaz (rs.set t r)=(zaz rs).set t (r.1.2.2,r.2):=by simp[zaz,List.map_set]
theorem zGx{a b:List Wt}{t:Nat}(hl:a.length=b.length)(ht:t<b.length):(a.take t++b.drop t).set t (a.getD t ([],0))=a.take (t+1)++b.drop (t+1):=by
 have ha:t<a.length:=by omega
 rw[List.set_append_right _ _ (by rw[List.length_take];omega)];have e:b.drop t=b[t]::b.drop (t+1):=List.drop_eq_getElem_cons ht;have e2:t-(a.take t).length=0:=by rw[List.length_take];omega
 rw[e2,e,List.set_cons_zero,qT ha,List.append_assoc];simp[List.getD,ha]
theorem zkf{B E g cap:Nat}{l:List Wt}(k0:Nat)(K:Int)(w:World)(hK:K=(k0:Int))(hx:zgb l)(nh:k0<=549755813888)(h:zeE w B E g cap l):
 Calls Tryz.prog 35 #[(qS (some ⟨g,0,none⟩) l.length cap),.int .i64 K] w fun e w'=>e= .returned (.int .i64 ((k0+zGL l:Nat):Int))/\zeE w' B E g cap (zgL k0 l)/\zdy B E w w':=by
 subst hK;obtain⟨rs0,uq,AV,Ga,It⟩:=h;have BK:=hx.1;have Hb:=qd (fun t (ht:t<=l.length)=>zkB hx t ht)
 go_enter Tryz.func35,Tryz.ntmps35
 go_wp2;go_loopw [1,5] (fun k i wr=>∃(t:Nat) (rs:List WRef),t<=l.length/\i= .int .i64 t/\k= .int .i64 ((k0+zcq l t:Nat):Int)/\Hid (zaz rs=(zgL k0 l).take t++l.drop t)/\zas wr B g cap rs/\Hid (∀r∈rs,r.1.1<E)/\zdy B E w wr) (fun _ i _=>l.length-(intOf i).toNat)
 case atStart=>exact⟨0,rs0,qz _,rfl,rfl,by show _=_;simpa using uq,AV,It,zdy.refl _ _ _⟩
 case round=>
  obtain⟨t,rs,ht,rfl,rfl,ak,ho,hE,jq⟩:=hrel;by_cases ac:t<l.length
  ·have an:rs.length=l.length:=by
    have:=congrArg List.length ak.out;simp only[ziV,qA,List.length_take,List.length_drop,zdQ] at this;omega
   have im:t<rs.length:=by omega
   obtain⟨c1,c2⟩:=ho.cells im
   have fe:(rs[t].1.2.2,rs[t].2)=l.getD t ([],0):=by
    have h1:(zaz rs).getD t ([],0)=(rs[t].1.2.2,rs[t].2):=by simp[zaz,List.getD,im]
    rw[<-h1,ak.out];simp only[List.getD];rw[List.getElem?_append_right (by rw[List.length_take,zdQ];omega),List.length_take,zdQ,show t-min t l.length=0 by omega,List.getElem?_drop];simp
   have vY:rs[t].1.2.2=wOf l t:=congrArg Prod.fst fe;have ai:=ho.ofMem (List.getElem_mem im);have ad:=Hb.out t (by omega);have BY:=znH k0 l t ac;have jj:=ai.base;have jr:=hE.out _ (List.getElem_mem im);have dF:=hx.2 t ac;have oZ:=ho.base
   have HW:Hid (∀(w2:World),Own w2 B rs[t].1.1 rs[t].1.2.1 (zbU (k0+zcq l t) (wOf l t).length)->wr.grownBy w2 (some rs[t].1.1)->
    (w2.cell? ⟨g,t*2+1,none⟩).isSome=true/\w2.frozen? ⟨g,t*2+1,none⟩=false/\∀z,z=((k0+zcq l t+(wOf l t).length:Nat):Int)->∃rs2,zaz rs2=(zgL k0 l).take (t+1)++l.drop (t+1)/\zas (w2.setCell ⟨g,t*2+1,none⟩ (.int .i64 z)) B g cap rs2/\(∀r∈rs2,r.1.1<E)/\zdy B E w (w2.setCell ⟨g,t*2+1,none⟩ (.int .i64 z))):=fun w2 uG bn=>by
    have h2:=ho.setRow t im _ (by rw[zdR,vY]) bn uG;have fc:t<(rs.set t ((rs[t].1.1,rs[t].1.2.1,zbU (k0+zcq l t) (wOf l t).length),rs[t].2)).length:=by rw[List.length_set];exact im
    refine⟨by rw[(h2.cells fc).2];rfl,h2.frozen _,fun z hz=>?_⟩;have h3:=h2.setCt t fc z;refine⟨_,?_,h3.1,fun r hr=>?_,(jq.trans (zdy.of_grown bn jj jr)).trans (zdy.of_grown h3.2 oZ Ga)⟩
    ·rw[zsB,zsB,ak.out,List.set_set];simp only[List.getElem_set_self];rw[hz,<-BY];exact zGx (zdQ _ _) ac
    ·rcases List.mem_or_eq_of_mem_set hr with h1|h1
     ·rcases List.mem_or_eq_of_mem_set h1 with h4|h4
      ·exact hE.out r h4
      ·rw[h4];exact jr
     ·rw[h1];simp only[List.getElem_set_self];exact jr
   rw[vY] at ai;have c1':wr.cell? ⟨g,t*2,none⟩=some (qS (some ⟨(rs[t].1.1),0,none⟩) ((wOf l t).length) (rs[t].1.2.1)):=by rw[c1];unfold zah;rw[vY]
   clear c1 c2 fe vY BY jj jr ho jq hE;generalize rs[t].1.1=gr at*;generalize rs[t].1.2.1=cr at*;have aa:=zvE B gr _ cr (wOf l t) (k0+zcq l t) wr rfl (by omega) (by omega) ai;have ab:=qd aa;have uH:Hid (zcq l (t+1)=zcq l t+(wOf l t).length+1):=rfl;have wl:=uH.out;have ae:=Hb.out (t+1) (by omega);rw[wl] at ae;clear aa ai wl;generalize hR:(wOf l t).length=R at*;generalize zcq l t=S at*;clear hR;go_wp2_with fail;refine ab.out.mono ?_;rintro e w2 ⟨rfl,uG,bn⟩;obtain⟨z1,z2,z3⟩:=HW.out w2 uG bn;obtain⟨v9,z1⟩:=Option.isSome_iff_exists.1 z1;obtain⟨rs2,q1,q2,q3,q4⟩:=z3 _ rfl;have Q1:=qd q1;have Q2:=qd q2;have Q3:=qd q3;have Q4:=qd q4;clear z3 q1 q2 q3 q4 HW uG bn;go_wp2_with fail;go_roundw
   case rel=>exact⟨t+1,rs2,by omega,by go_num,by rw[uH.out];congr 2;omega,Q1.out,Q2.out,Q3.out,Q4.out⟩
   case measure=>simp[intOf];omega
  ·obtain rfl:t=l.length:=by omega
   have aI:=ak.out;rw[qF (by rw[zdQ];omega),List.drop_length,List.append_nil] at aI;have nY:=qd aI;clear aI;go_wp2;go_ret;exact⟨rfl,⟨rs,nY.out,ho,Ga,hE.out⟩,jq⟩
theorem zfA{B E g cap:Nat}{l:List Wt}(k0:Nat)(K:Int)(w:World)(hK:K=(k0:Int))(hx:zgb l)(nh:k0<=549755813888)(h:zeE w B E g cap (zgL k0 l)):
 Calls Tryz.prog 36 #[(qS (some ⟨g,0,none⟩) l.length cap),.int .i64 K] w (zbb w (.int .i64 ((k0+zGL l:Nat):Int))):=by
 subst hK;have BK:=hx.1;have Hb:=qd (fun t (ht:t<=l.length)=>zkB hx t ht)
 have HG:Hid (∀t,t<l.length->∃g2 o2 c2,w.cell? ⟨g,t*2,none⟩=some (qS (some ⟨g2,0,none⟩) ((wOf l t).length) c2)/\w.cell? ⟨g,t*2+1,none⟩=some (.int .i64 ((k0+zcq l t+(wOf l t).length:Nat):Int))/\zag w g2 0 (zbU (k0+zcq l t) (wOf l t).length)/\o2=0):=by
  intro t ht;obtain⟨rs,hc,ho,-,-⟩:=h;have an:rs.length=l.length:=by rw[<-ziV,hc,zdQ]
  have im:t<rs.length:=by omega
  obtain⟨c1,c2⟩:=ho.cells im
  have fe:(rs[t].1.2.2,rs[t].2)=(zbU (k0+zcq l t) (wOf l t).length,((k0+zcq l t+(wOf l t).length:Nat):Int)):=by
   rw[<-znH k0 l t ht,<-hc];simp[zaz,List.getD,im]
  have e1:rs[t].1.2.2=zbU (k0+zcq l t) (wOf l t).length:=congrArg Prod.fst fe;have e2:rs[t].2=((k0+zcq l t+(wOf l t).length:Nat):Int):=congrArg Prod.snd fe;have ai:=ho.ofMem (List.getElem_mem im);refine⟨rs[t].1.1,0,rs[t].1.2.1,?_,?_,?_,rfl⟩
  ·rw[c1];unfold zah;rw[e1,zdR]
  ·rw[c2,e2]
  ·rw[<-e1];exact ai.cells
 clear h
 go_enter Tryz.func36,Tryz.ntmps36
 go_wp2;go_loopw [1,5] (fun k i wr=>∃(t n:Nat),t<=l.length/\i= .int .i64 t/\k= .int .i64 ((k0+zcq l t:Nat):Int)/\wr=w.drewN n) (fun _ i _=>l.length-(intOf i).toNat)
 case atStart=>exact⟨0,0,qz _,rfl,rfl,rfl⟩
 case round=>
  obtain⟨t,n,ht,rfl,rfl,rfl⟩:=hrel;by_cases ac:t<l.length
  ·obtain⟨gr,_,cr,c1,c2,ni,-⟩:=HG.out t ac;have dF:=hx.2 t ac;have ad:=Hb.out t (by omega);have uH:Hid (zcq l (t+1)=zcq l t+(wOf l t).length+1):=rfl;have ae:=Hb.out (t+1) (by omega);rw[uH.out] at ae;have c1':(w.drewN n).cell? ⟨g,t*2,none⟩=some (qS (some ⟨gr,0,none⟩) ((wOf l t).length) cr):=c1;have c2':∀m,(w.drewN m).cell? ⟨g,t*2+1,none⟩=some (.int .i64 ((k0+zcq l t+(wOf l t).length:Nat):Int)):=fun m=>c2
   have aa:=zvF gr cr (k0+zcq l t) (wOf l t).length (w.drewN n) (by omega) (by omega) ni;have ab:=qd aa;clear aa ni c1 c2;generalize hR:(wOf l t).length=R at*;generalize zcq l t=S at*;have rb:¬((k0+S+R:Nat):Int)<0:=by omega
   clear hR;go_wp2_with fail;refine ab.out.mono ?_;rintro e w2 ⟨rfl,m,rfl⟩;rw[World.drewN_drewN];have c3:=c2' (n+m);clear c2' c1';go_wp2_with fail;go_roundw
   case rel=>exact⟨t+1,n+m,by omega,by go_num,by rw[uH.out];congr 2;omega,by first|rfl|trivial⟩
   case measure=>simp[intOf];omega
  ·obtain rfl:t=l.length:=by omega
   go_wp2;go_ret;exact⟨rfl,zcr w n⟩
end
end Go.Proofs.YtlgcmaoimpgedaaGreatDoor

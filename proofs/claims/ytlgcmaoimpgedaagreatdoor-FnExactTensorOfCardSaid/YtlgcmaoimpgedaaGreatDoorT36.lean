/- DbS Trans SmS Pair SeenP PairP AddP PrOk -/
import Derived.Test.YtlgcmaoimpgedaaGreatDoorT35
set_option maxHeartbeats 8000000
set_option maxRecDepth 100000
set_option linter.unusedSimpArgs false
namespace Go.Proofs.YtlgcmaoimpgedaaGreatDoor
open Go.Value renaming slice->qS
section
open Go.RowKit Game
theorem zxp{c:LL}{x r z:LI}{t:Nat}(hr:(zaq c).getD t []=r)(hz:zcN x (wtR c r)=z)(hd:(zaG z).isNone=true):nxD c x t=some z:=by
 unfold nxD;rw[hr,hz,if_pos hd]
theorem zAU{c:LL}{x r z:LI}{t:Nat}(hr:(zaq c).getD t []=r)(hz:zcN x (wtR c r)=z)(hd:(zaG z).isNone=false):nxD c x t=none:=by
 unfold nxD;rw[hr,hz,if_neg (by rw[hd];decide)]
theorem zgI(gc oc n cc g o m cv:Nat)(c:LL)(v:LI)(M:LL)(b:Bool)(w:World)(hn:c.length=n)(hm:v.length=m)(aS:m<=cv)(hS:zbi c v)(hP:zbI c)(hM:zxS (nxD c) (zaq c).length v M b)
 (ah:gc<w.heap.size) (hg:g<w.heap.size) (hr:zal w gc oc c) (hv:zag w g o v):
 Calls Tryz.prog 135 #[(qS (some ⟨gc,oc,none⟩) n cc),(qS (some ⟨g,o,none⟩) m cv)] w (zaj w M b):=by
 subst hn;have dq:=hS.len;obtain rfl:c.length=m:=by omega
 have hC:=hS.hC;have aR:=hC.2.1;have bD:=hC.2.2.1;have aa:=zdf gc oc _ cc g o _ cv c v w rfl dq (by omega) (by omega) (fun j hj=>by have:=bD j hj;omega) ah hr hv;rw[hS.fin,decide_eq_true (show Sml c.length v from⟨dq,fun j hj=>hS.small j (by omega)⟩),Bool.and_self] at aa
 have aW:∀W,Below w.heap.size w W->Calls Tryz.prog 94 #[(qS (some ⟨gc,oc,none⟩) c.length cc)] W (zaj W (zaq c) true):=fun W hW=>by
  have:=zgm gc oc _ cc c W rfl (by omega) (fun j hj=>by have:=bD j hj;omega) (qL ah hW.size) (hr.below hW ah)
  rwa [zeA hS.fin,hS.fin] at this
 have ab:=qd aa;have jC:=qd aW;have dY:=qd bD;have HS:=qd hS;have HC:=qd hC;have zw:=qd (fun r (hr:r∈zaq c)=>(zji r hr).1);have lE:=qd (fun x hx=>zbw.rch hS hP (x:=x) hx);have sj:(zaq c).length<=24:=by have:=(zlE c).1;rwa [zeA hS.fin] at this
 clear aa aW bD hS hC hP
 go_enter Tryz.func135,Tryz.ntmps135
 go_wp2_with fail;refine ab.out.mono ?_;rintro e w1 ⟨rfl,ad⟩;have xb:=qd (jC.out w1 ad);clear ab jC;go_wp2_with fail;refine xb.out.mono ?_;rintro e w2 ⟨gR,cR,rsR,rfl,sq,mO,ae⟩;have az:=ad.trans (ae.mono ad.size);have ue:=mO.lt;have uf:=mO.rows2;have tT:w.heap.size<=w2.heap.size:=az.size;rw[sq] at uf;clear xb ad ae mO sq;go_wp2_with fail
 have Df:Que (w2.alloc (.cells #[(qS (some ⟨g,o,none⟩) c.length cv)] 25)) w2.heap.size w2.heap.size 1 [w2.heap.size] [v]:=by
  have:=Que.one (B:=w2.heap.size) (c:=cv) (A:=[w2.heap.size]) (qr _) (qL hg az.size) (by rw[dq];exact aS) (hv.below az hg) (by simp;have:=az.size;omega) (by simp)
  rwa [dq] at this
 have ap:Below w.heap.size w (w2.alloc (.cells #[(qS (some ⟨g,o,none⟩) c.length cv)] 25)):=az.alloc az.size _;have ag:Below w2.heap.size w2 (w2.alloc (.cells #[(qS (some ⟨g,o,none⟩) c.length cv)] 25)):=(Below.refl _ _).alloc (qr _) _;have gI:=qd (BSt.start (nxD c) (zaq c).length v);obtain⟨P,rC⟩:∃P,(zaq c).length=P:=⟨_,rfl⟩;rw[rC] at gI hM lE sj ⊢;have JK:=qd rC;clear rC;go_loopw [8,9] (fun qv kv wr=>∃(k gQ cQ nQ:Nat) (Q:LL),kv= .int .i64 k/\qv=(qS (some ⟨gQ,0,none⟩) nQ cQ)/\Hid (Q.length=nQ)/\k<=nQ/\nQ<=200/\Hid (BSt (nxD c) P v Q k 0)/\Que wr w2.heap.size gQ cQ [gQ] Q/\Below w.heap.size w wr/\Below w2.heap.size w2 wr) (fun _ kv _=>200-(intOf kv).toNat)
 case atStart=>exact⟨0,w2.heap.size,1,1,[v],rfl,rfl,rfl,by omega,by omega,gI,Df,ap,ag⟩
 case round=>
  clear Df ap ag gI az;obtain⟨k,gQ,cQ,nQ,Q,rfl,rfl,fq,hk,jY,aL,hQ,hb,xd⟩:=hrel;obtain⟨wo,rfl⟩:∃wo:World,wo=wr:=⟨_,rfl⟩;by_cases ac:k<nQ
  ·go_wp2_with fail;go_loopw [8,10] (fun qv iv wi=>∃(i gQ cQ nQ:Nat) (Q:LL),i<=P/\iv= .int .i64 i/\qv=(qS (some ⟨gQ,0,none⟩) nQ cQ)/\Hid (Q.length=nQ)/\k<nQ/\nQ<=200/\Hid (BSt (nxD c) P v Q k i)/\Que wi w2.heap.size gQ cQ [gQ] Q/\Below w.heap.size w wi/\Below w2.heap.size w2 wi) (fun _ iv _=>P-(intOf iv).toNat)
   case atStart=>exact⟨0,gQ,cQ,nQ,Q,qz _,rfl,rfl,fq,ac,jY,aL,hQ,hb,xd⟩
   case round=>
    clear hQ hb xd aL fq ac jY hk;obtain⟨i,gQ,cQ,nQ,Q,hi,rfl,rfl,fq,hk,jY,aL,hQ,hb,xd⟩:=hrel;by_cases bG:i<P
    ·have nB:k<Q.length:=by rw[fq.out];exact hk
     have qX:i<(zaq c).length:=by rw[JK.out];exact bG
     obtain⟨gj,oj,cj,q1,q2,q3,q4⟩:=(uf.below xd ue) i qX;have aC:=lE.out _ (aL.out.row nB);obtain⟨gy,oy,cy,y1,y2,y3,y4,y5⟩:=hQ.at nB;have pS:(zaq c).getD i []∈zaq c:=by simp[List.getD,qX]
     have an:=zw.out _ pS;have fw:=fun z h1 h2=>aL.out.add nB bG (z:=z) h1 h2
     have pQ:=fun z h1 h2=>aL.out.big' nB bG (z:=z) h1 h2
     have et:=aL.out.skip (i:=i);have Bv:=fun z=>zxp (c:=c) (x:=Q.getD k []) (r:=(zaq c).getD i []) (z:=z) (t:=i) rfl
     have By:=fun z=>zAU (c:=c) (x:=Q.getD k []) (r:=(zaq c).getD i []) (z:=z) (t:=i) rfl
     have gZ:(Q.getD k []).length=c.length:=aC.len
     have Dr:=qd (fun j (hj:j<Q.length)=>show(Q.getD j []).length<=1048576 from by
      have:=(lE.out _ (aL.out.orb (Q.getD j []) (by simp[List.getD,hj]))).len;omega)
     generalize Q.getD k []=y at*;generalize (zaq c).getD i []=r at*;rw[an,Nat.zero_add] at q1;rw[gZ] at y1;have aa:=zhd gc oc _ cc gj oj _ cj c r wr rfl an HC.out an (qL ah hb.size) q3 (hr.below hb ah) q4;have ab:=qd aa;have dS:=qd fw;have yU:=qd pQ;have fQ:=qd et;have CM:=qd Bv;have qO:=qd By;have kV:=qd gZ;clear aa fw pQ et Bv By aC pS gZ q4 y2;go_wp2_with fail;refine ab.out.mono ?_;rintro e w3 ⟨gr,cr,rfl,aY,ag⟩;have ap:=hb.trans (ag.mono hb.size);have zD:=xd.trans (ag.mono xd.size);have xT:=hQ.below ag;have y1':w3.cell? ⟨gQ,k,none⟩=some (qS (some ⟨gy,oy,none⟩) c.length cy):=(ag.cell (p:=⟨gQ,k,none⟩) hQ.lt).trans y1;have y5':=y5.below ag y3;have y3':gy<w3.heap.size:=qL y3 ag.size;have bn:=aY.lt;have Np:=xT.lt;have xN:=aY.cells;have ry:=zgT c r;rw[ry];generalize hp:wtR c r=p at*;have nk:=zuN y p;have Nq:=zyh y p;have Nr:zhV y p c.length=zcN y p:=by rw[<-kV.out];exact zAa y p
     have Ns:=qd Nq;have vx:=qd nk;have Nt:=qd Nr;have Gx:Hid (zhV y p 0=[]):=rfl;clear ab hQ hb xd ag y1 y3 y4 y5 aY q1 q3 Nq nk Nr hp;go_wp2_with fail;go_loopw [12,13] (fun xv tv wi=>∃t g' c':Nat,t<=c.length/\tv= .int .i64 t/\xv=(qS (some ⟨g',0,none⟩) t c')/\Own wi w3.heap.size g' c' (zhV y p t)/\Below w3.heap.size w3 wi) (fun _ tv _=>c.length-(intOf tv).toNat)
     case atStart=>exact⟨0,w3.heap.size,0,qz _,rfl,rfl,by rw[Gx.out];exact Own.empty (qr _),(Below.refl _ _).alloc (qr _) _⟩
     case round=>
      obtain⟨t,gx,cx,ht,rfl,rfl,bN,bE⟩:=hrel;by_cases bU:t<c.length
      ·have k0:=(bE.cell (p:=⟨gQ,k,none⟩) Np).trans y1';have k1:=(bE.cell (p:=⟨gy,oy+t,none⟩) y3').trans (y5' t (by rw[kV.out];exact bU));have k2:=(bE.cell (p:=⟨gr,0+t,none⟩) bn).trans (xN t (by omega));rw[Nat.zero_add] at k2;have lZ:=bN.base;have ne0:some gQ≠some gx:=by intro e;cases e;omega
       have ne1:some gy≠some gx:=by intro e;cases e;omega
       have ne2:some gr≠some gx:=by intro e;cases e;omega
       have bw:=Ns.out t;have hl:=vx.out t;generalize y.getD t 0=yy at*;generalize p.getD t 0=pp at*;generalize zhV y p t=ys at*;have Hs:=qd bw;clear bw;go_wp2_with fail
       go_region_held3 (fun W=>W.cell? ⟨gQ,k,none⟩=some (qS (some ⟨gy,oy,none⟩) c.length cy)/\W.cell? ⟨gy,oy+t,none⟩=some (.int .i64 yy)/\W.cell? ⟨gr,t,none⟩=some (.int .i64 pp))
        (first|go_keep|exact⟨aK.cell (a:=⟨gQ,k,none⟩) k0 ne0,aK.cell (a:=⟨gy,oy+t,none⟩) k1 ne1,aK.cell (a:=⟨gr,t,none⟩) k2 ne2⟩)
        ((refine zcH (w:=wr.drew) (by rfl) _ _ (by rfl) w3.heap.size gx cx t wr.heap.size ys (IntKind.i64.wrap (yy-pp)) _ hl (by rfl) (by rfl) bN.drew (by rfl) (by rfl) (by omega) ?_;intro g4 c4 w4 aw aK bq))
       go_wp2_with fail;go_roundw
       case rel=>
        rw[show IntKind.i64.wrap (yy-pp)=wrap64 (yy-pp) by simp only[wrap64,IntKind.wrap_i64],<-Hs.out] at aw;exact⟨t+1,g4,c4,by omega,by go_num,rfl,aw,(Below.drew bE).grown aK bE.size (by intro j hj;cases hj;exact lZ)⟩
       case measure=>simp[intOf];omega
      ·obtain rfl:t=c.length:=by omega
       rw[Nt.out] at bN;have aG:=ap.trans (bE.mono ap.size);have vy:=zD.trans (bE.mono zD.size);have Ds:=xT.below bE;have qa:(zcN y p).length=c.length:=by rw[zko];exact kV.out
       have lF:=CM.out (zcN y p) rfl;have lG:=qO.out (zcN y p) rfl;generalize hz:zcN y p=z at*;clear hz;have aa:=zmo gx 0 _ cx z wr qa (by omega) bN.cells;have QL:w.heap.size<=gx:=by have:=bN.base;have:=ap.size;omega
       have QM:gQ≠gx:=by have:=bN.base;omega
       have Nu:=qd bN;have QN:=bN.lt
       have Nv:∀W,(∃n,W=wr.drewN n)->Calls Tryz.prog 176 #[(qS (some ⟨gQ,0,none⟩) nQ cQ),(qS (some ⟨gx,0,none⟩) c.length cx)] W (zap W (.bool (decide (z∈Q)))):=fun W hW=>
        ziq gQ 0 nQ cQ gx 0 c.length cx Q z W fq.out qa (by rw[fq.out];omega) Dr.out ((Ds.still hW).rows2) (bN.cells.still hW)
       have Bz:=qd Nv;have sr:=qd qa;clear Nv ap zD xT bE y1' y5' y3' xN bN bn Np qa Ns vx Nt
       cases hd:(zaG z).isNone with
       |false=>
        rw[hd] at aa;have ab:=qd aa;have fD:=fQ.out (fun y hy=>by rw[lG hd] at hy;cases hy);have kU:=qd fD;clear aa fD lF lG hd;go_wp2_with fail;refine ab.out.mono ?_;rintro e w5 ⟨rfl,kX⟩;clear ab;go_wp2_with fail;go_roundw
        case rel=>exact⟨i+1,gQ,cQ,nQ,Q,by omega,by go_num,rfl,fq,hk,jY,kU.out,Ds.still kX,zaf aG kX,zaf vy kX⟩
        case measure=>simp[intOf];omega
       |true=>
        rw[hd] at aa;have ab:=qd aa;have fk:=lF hd;clear aa lF lG hd;by_cases bR:z∈Q
        ·have fD:=fQ.out (fun y hy=>by rw[fk] at hy;cases hy;exact bR);have kU:=qd fD;rw[decide_eq_true bR] at Bz;clear fD bR fk;go_wp2_with fail;refine ab.out.mono ?_;rintro e w5 ⟨rfl,kX⟩;have Hc:=qd (Bz.out w5 kX);clear ab Bz;go_wp2_with fail;refine Hc.out.mono ?_;rintro e w6 ⟨rfl,fX⟩;have hs:=zbg kX fX;clear Hc kX fX;go_wp2_with fail;go_roundw
         case rel=>exact⟨i+1,gQ,cQ,nQ,Q,by omega,by go_num,rfl,fq,hk,jY,kU.out,Ds.still hs,zaf aG hs,zaf vy hs⟩
         case measure=>simp[intOf];omega
        ·rw[decide_eq_false bR] at Bz;have iq:=qd bR;have nt:=qd fk;clear bR fk;go_wp2_with fail;refine ab.out.mono ?_;rintro e w5 ⟨rfl,kX⟩;have Hc:=qd (Bz.out w5 kX);clear ab Bz;go_wp2_with fail;refine Hc.out.mono ?_;rintro e w6 ⟨rfl,fX⟩;have hs:=zbg kX fX;have Gy:=Ds.still hs;have de:=zaf aG hs;have zE:=zaf vy hs;have vz:=Nu.out.still hs;clear Hc kX fX hs Ds aG vy Nu;by_cases uZ:200<=nQ
         ·have aJ:=yU.out z nt.out iq.out (by rw[fq.out];exact uZ)
          have ix:M=[]/\b=false:=by
           rcases hM with⟨h1,h2,-⟩|⟨-,h1,h2⟩
           ·exact absurd ⟨M,h1,h2⟩ aJ
           ·exact⟨h1,h2⟩
          obtain⟨rfl,rfl⟩:=ix;have rZ:(200:Int)<=(nQ:Int):=by omega
          clear aJ;go_wp2_with fail;go_ret2;exact zaj.mk' _ _ [] rfl rfl (zab.empty de.size) (de.alloc de.size _)
         ·have rZ:(nQ:Int)<(200:Int):=by omega
          have sa:=dS.out z nt.out iq.out;have yX:=qd sa;clear sa;go_wp2_with (at_builtin;refine zos (w:=w6) rfl _ _ rfl w2.heap.size gQ cQ nQ w6.heap.size gx 0 c.length cx [gQ] Q z _ fq.out sr.out rfl rfl Gy vz.lt (by simp;omega) (by have:=vz.capLe;have:=sr.out;omega) vz.cells rfl rfl (by omega) ?_);intro g7 c7 w7 Nw pG mx;have iy:Below w.heap.size w w7:=de.grown pG de.size (by intro j hj;cases hj;exact qt tT Gy.base);have JL:Below w2.heap.size w2 w7:=zE.grown pG zE.size (by intro j hj;cases hj;exact Gy.base);have JM:Que w7 w2.heap.size g7 c7 [g7] (Q++[z]):=Nw.avoid (by simp) (by simp);clear Gy de zE pG vz Nw;go_wp2_with fail;go_roundw
          case rel=>exact⟨i+1,g7,c7,nQ+1,Q++[z],by omega,by go_num,rfl,by show _=_;rw[qA,fq.out];rfl,by omega,by omega,yX.out,JM,iy,JL⟩
          case measure=>simp[intOf];omega
    ·obtain rfl:i=P:=by omega
     have fk:=aL.out.next (by rw[fq.out];exact hk);have nt:=qd fk;clear fk;go_wp2_with fail;go_roundw
     case rel=>exact⟨k+1,gQ,cQ,nQ,Q,by go_num,rfl,fq,by omega,jY,nt.out,hQ,hb,xd⟩
     case measure=>simp[intOf];omega
  ·obtain rfl:k=nQ:=by omega
   have aE:∀x,x∈Q↔Rch (nxD c) P v x:=by
    refine BSt.all ?_;rw[fq.out];exact aL.out
   have lH:=zzx aE
   have am:(zdp Q).length<=200:=by
    have:=zhB lH.1.nodup aL.out.nodup (fun x hx=>(aE x).2 ((lH.2 x).1 hx));rw[fq.out] at this;omega
   have ix:M=zdp Q/\b=true:=by
    rcases hM with⟨h1,h2,h3⟩|⟨h0,-,-⟩
    ·exact⟨h1.uniq lH,h3⟩
    ·exact absurd ⟨_,lH,am⟩ h0
   obtain⟨rfl,rfl⟩:=ix;have Jk:Hid (∀x∈Q,x.length=c.length):=qd (fun x hx=>(lE.out x ((aE x).1 hx)).len);clear aE lH hM am;have gJ:=hb.size;go_wp2_with fail;go_loopw [14,15] (fun ov kv wi=>∃(t gP cP nP:Nat) (rp:List RowRef),t<=k/\kv= .int .i64 t/\ov=(qS (some ⟨gP,0,none⟩) nP cP)/\Hid (rp.length=nP)/\nP<=t/\Hid (zaa rp=zdp (Q.take t))/\zab wi wo.heap.size gP cP rp/\Below wo.heap.size wo wi) (fun _ kv _=>k-(intOf kv).toNat)
   case atStart=>exact⟨0,wo.heap.size,0,0,[],qz _,rfl,rfl,rfl,by omega,rfl,zab.empty (qr _),(Below.refl _ _).alloc (qr _) _⟩
   case round=>
    obtain⟨t,gP,cP,nP,rp,ht,rfl,rfl,bP,yY,fj,hP,bX⟩:=hrel;by_cases bU:t<k
    ·have nB:t<Q.length:=by rw[fq.out];exact bU
     have bQ:=zqj (L:=Q) (k:=t) nB;have Nx:=hQ.below bX;obtain⟨gy,oy,cy,y1,y2,y3,-,y5⟩:=Nx.at nB;have gZ:=Jk.out (Q.getD t []) (by simp[List.getD,nB])
     have bI:∀r∈rp,r.2.2.length=(Q.getD t []).length:=by
      intro r df;have h1:r.2.2∈zaa rp:=List.mem_map.2 ⟨r,df,rfl⟩;rw[fj.out] at h1;have h2:=((zeq _ [] List.Pairwise.nil).2 _).1 h1
      have h3:r.2.2∈Q:=by
       rcases h2 with h|h
       ·exact List.mem_of_mem_take h
       ·simp at h
      rw[Jk.out _ h3,gZ]
     generalize Q.getD t []=y at*;rw[gZ] at y1;have aa:=zhe wo.heap.size gP cP nP gy oy c.length cy rp y wr bP.out gZ (by have:=bP.out;omega) (by omega) bI hP y3 y5;rw[fj.out,<-bQ] at aa;have ab:=qd aa
     have iX:(zdp (Q.take (t+1))).length<=nP+1:=by
      rw[bQ];have:=zkn (zdp (Q.take t)) y;rw[<-fj.out,zac,bP.out] at this;rw[<-fj.out];omega
     have wS:=qd iX;clear aa gZ bQ iX bI Nx hP y2 y5;go_wp2_with fail;refine ab.out.mono ?_;rintro e w3 ⟨g3,c3,rp3,rfl,eE,zb,-,ag⟩;obtain⟨n3,lU⟩:∃n3,(zdp (Q.take (t+1))).length=n3:=⟨_,rfl⟩;have ol:rp3.length=n3:=by rw[<-lU,<-eE,zac]
     rw[lU] at wS ⊢;have Jr:=wS.out;have zd:=qd eE;have Bq:=qd ol;clear lU eE ol ab;go_wp2_with fail;go_roundw
     case rel=>exact⟨t+1,g3,c3,n3,rp3,by omega,by go_num,rfl,Bq.out,by omega,zd.out,zb,bX.trans (ag.mono bX.size)⟩
     case measure=>simp[intOf];omega
    ·obtain rfl:t=k:=by omega
     have he:Q.take t=Q:=qF (by rw[fq.out];exact qr _);rw[he] at fj;have Js:=qd fj.out;clear fj he;go_wp2_with fail;go_ret2;exact zaj.mk' gP cP rp bP.out Js.out (hP.mono gJ) (hb.trans (bX.mono gJ))
theorem zfZ(gc oc n cc g o m cv:Nat)(c:LL)(v:LI)(w:World)(hn:c.length=n)(hm:v.length=m)(hx:c.length<=1048576)(eP:v.length<=1048576)(an:∀j,j<c.length->(c.getD j []).length<=1048576)
 (aJ:(zaN c&&decide (Sml c.length v))=false) (ah:gc<w.heap.size) (hr:zal w gc oc c) (hv:zag w g o v):
 Calls Tryz.prog 135 #[(qS (some ⟨gc,oc,none⟩) n cc),(qS (some ⟨g,o,none⟩) m cv)] w (zaj w [] false):=by
 have aa:=zdf gc oc n cc g o m cv c v w hn hm hx eP an ah hr hv;rw[aJ] at aa;subst hn;subst hm;have ab:=qd aa;clear aa aJ
 go_enter Tryz.func135,Tryz.ntmps135
 go_wp2_with fail;refine ab.out.mono ?_;rintro e w2 ⟨rfl,ae⟩;clear ab;go_wp2_with fail;go_ret2;exact zaj.mk' _ _ [] rfl rfl (zab.empty ae.size) (ae.alloc ae.size _)
end
section
open Go.RowKit Game
def zod(w:World)(rows:LL)(e:Ending)(w':World):Prop:=
 ∃g cap rs,e= .returned (qS (some ⟨g,0,none⟩) rows.length cap)/\zaa rs=rows/\zab w' w.heap.size g cap rs/\Below w.heap.size w w'
theorem zod.mk'{w w':World}{rows:LL}{n:Nat}(g cap:Nat)(rs:List RowRef)(hl:rs.length=n)(hc:zaa rs=rows)(ho:zab w' w.heap.size g cap rs)(hb:Below w.heap.size w w'):
 zod w rows (.returned (qS (some ⟨g,0,none⟩) n cap)) w':=by
 subst hl;subst hc;exact⟨g,cap,rs,by rw[zac],rfl,ho,hb⟩
def zdX(c:LL)(i k:Nat):LI:=(List.range k).map fun j=>ent c j i
theorem zsV(c:LL)(i k:Nat):zdX c i (k+1)=zdX c i k++[ent c k i]:=by unfold zdX;rw[List.range_succ,List.map_append];rfl
theorem zjY(c:LL)(i k:Nat):(zdX c i k).length=k:=by simp[zdX]
def zoe(c:LL)(k:Nat):LL:=(List.range k).map fun i=>zdX c i c.length
theorem zuY(c:LL)(k:Nat):zoe c (k+1)=zoe c k++[zdX c k c.length]:=by unfold zoe;rw[List.range_succ,List.map_append];rfl
theorem zju(gc oc n cc:Nat)(c:LL)(w:World)(hn:c.length=n)(hC:IsC c)(ah:gc<w.heap.size)(hc:zal w gc oc c):
 Calls Tryz.prog 187 #[(qS (some ⟨gc,oc,none⟩) n cc)] w (zod w (zgO c)):=by
 subst hn;have aR:=hC.2.1;have bD:∀j,j<c.length->(c.getD j []).length=c.length:=hC.2.2.1;have dY:=qd bD;clear bD;have aa:=zcz gc oc _ cc c w rfl (by omega) (fun j hj=>by rw[dY.out j hj];omega) hc;rw[decide_eq_true hC] at aa;have ab:=qd aa;clear aa
 go_enter Tryz.func187,Tryz.ntmps187
 go_wp2_with fail;refine ab.out.mono ?_;rintro e w1 ⟨rfl,bh⟩;have ad:=zaf (Below.refl w.heap.size w) bh;clear bh ab;go_wp2;go_loopw [3,14] (fun ov kv wr=>∃(k g cp:Nat) (rs:List RowRef),k<=c.length/\kv= .int .i64 k/\ov=(qS (some ⟨g,0,none⟩) k cp)/\Hid (rs.length=k)/\Hid (zaa rs=zoe c k)/\zab wr w.heap.size g cp rs/\Below w.heap.size w wr) (fun _ kv _=>c.length-(intOf kv).toNat)
 case atStart=>exact⟨0,_,0,[],qz _,rfl,rfl,rfl,rfl,zab.empty ad.size,ad.alloc ad.size _⟩
 case round=>
  obtain⟨k,g,cp,rs,hk,rfl,rfl,an,io,hO,hb⟩:=hrel;obtain⟨wo,rfl⟩:∃wo:World,wo=wr:=⟨_,rfl⟩;by_cases ac:k<c.length
  ·go_wp2;go_loopw [5,20] (fun ov jv wi=>∃(j g2 cp2:Nat),j<=c.length/\jv= .int .i64 j/\ov=(qS (some ⟨g2,0,none⟩) j cp2)/\Own wi wo.heap.size g2 cp2 (zdX c k j)/\Below wo.heap.size wo wi) (fun _ jv _=>c.length-(intOf jv).toNat)
   case atStart=>exact⟨0,wo.heap.size,0,qz _,rfl,rfl,Own.empty (qr _),(Below.refl _ _).alloc (qr _) _⟩
   case round=>
    obtain⟨j,g2,cp2,hj,rfl,rfl,ho,bX⟩:=hrel;by_cases FW:j<c.length
    ·obtain⟨ga,oa,ca,q1,q2,q3,q4⟩:=hc j FW;have hB:=hb.trans (bX.mono hb.size)
     replace q1:=(hB.cell (p:=⟨gc,oc+j,none⟩) ah).trans q1
     have e1:=q4.below hB q3 k (by rw[dY.out j FW];exact ac);have dI:(c.getD j []).getD k 0=ent c j k:=rfl;rw[dI] at e1;have wz:=zsV c k j;have bU:=zjY c k j;rw[dY.out j FW] at q1;generalize ent c j k=y at*;have QO:=qd wz;have xe:=qd bU;clear wz bU dI;go_wp2_with (at_builtin;refine zay (w:=wr) rfl _ _ rfl wo.heap.size g2 cp2 j (zdX c k j) y xe.out ho rfl rfl (by omega) ?_);intro g3 c3 w3 al aK aY;rw[<-QO.out] at al;have ag:Below wo.heap.size wo w3:=bX.grown aK bX.size (by intro t ht;cases ht;exact ho.base);clear aY aK;go_wp2;go_roundw
     case rel=>exact⟨j+1,g3,c3,by omega,by go_num,rfl,al,ag⟩
     case measure=>simp[intOf];omega
    ·obtain rfl:j=c.length:=by omega
     have yZ:=hO.below bX
     have ao:∀s∈rs,s.1≠g2:=fun s hs e=>by
      have h1:=(hO.2.1 s hs).lt;have h2:=ho.base;omega
     have ln:=ho.mono hb.size;have hB:=hb.trans (bX.mono hb.size);have bU:=zjY c k c.length;have Ny:=zuY c k;have xe:=qd bU;have QP:=qd Ny;clear bU Ny ho;go_wp2_with (at_builtin;refine zao rfl _ _ rfl w.heap.size g cp k wr.heap.size rs (g2,cp2,zdX c k c.length) _ an.out (by unfold zah;rw[xe.out]) rfl yZ ln ao rfl rfl (by omega) ?_);intro g5 c5 w5 eW eF cY;have bj:Below w.heap.size w w5:=hB.grown eF hB.size (by intro t ht;cases ht;exact yZ.base);clear eF cY yZ hB;go_wp2;go_roundw
     case rel=>
      refine⟨k+1,g5,c5,rs++[(g2,cp2,zdX c k c.length)],by omega,by go_num,rfl,?_,?_,eW,bj⟩
      ·show _=_;rw[qA,an.out];rfl
      ·show _=_;rw[zcZ,io.out,QP.out]
     case measure=>simp[intOf];omega
  ·obtain rfl:k=c.length:=by omega
   go_wp2;go_ret;exact zod.mk' g cp rs an.out io.out hO hb
end
section
open Go.RowKit Game
section
variable {w w':World} {B gT cT gO cO gD cD g' c':Nat} {rsT rsO rsD rs':List RowRef}
end
section
variable {rsO rsD:List RowRef} {Q:List RPair}
end
theorem znx(c:LL)(k:Nat)(hk:k<c.length):(zcg c).take (k+1)=(zcg c).take k++[(zbn c.length k,zbn c.length k)]:=by
 rw[qT (by rw[zhA];exact hk)];simp[zcg]
end
section
open Go.RowKit Game
abbrev PairRef:=RowRef × RowRef
def zdj(p:PairRef):List Value:=[zah p.1,zah p.2]
def zdr(ps:List PairRef):List Value:=ps.flatMap zdj
theorem zfL(ps:List PairRef):(zdr ps).length=ps.length*2:=by
 induction ps with
 |nil=>rfl
 |cons v vs ih=>unfold zdr at*;simp only[List.flatMap_cons,qA,ih,List.length_cons];simp[zdj];omega
theorem zuZ(a b:List PairRef):zdr (a++b)=zdr a++zdr b:=by simp[zdr]
theorem zva{ps:List PairRef}{j:Nat}(hj:j<ps.length):(zdr ps)[j*2]? =some (zah ps[j].1)/\(zdr ps)[j*2+1]? =some (zah ps[j].2):=by
 induction ps generalizing j with
 |nil=>simp at hj
 |cons v vs ih=>
  unfold zdr at*;simp only[List.flatMap_cons]
  cases j with
  |zero=>exact⟨rfl,rfl⟩
  |succ j=>
   have:=ih (j:=j) (by simpa using hj);rw[List.getElem?_append_right (by simp[zdj];omega),List.getElem?_append_right (by simp[zdj];omega)];have e1:(j+1)*2-(zdj v).length=j*2:=by simp[zdj];omega
   have e2:(j+1)*2+1-(zdj v).length=j*2+1:=by simp[zdj];omega
   rw[e1,e2];exact this
section
variable {w w':World} {B g cap:Nat} {ps:List PairRef}
end
structure zrq(w w':World)(bL gP bM:Nat):Prop where
 os:w'.os=w.os
 tape:w'.tape=w.tape
 output:w'.output=w.output
 size:w.heap.size<=w'.heap.size
 block:∀k,k<w.heap.size->k≠bL->k≠gP->k≠bM->w'.heap[k]? =w.heap[k]?
theorem zfM{w:World}{b:Nat}{v:Value}{t:TypeId}(h:w.heap[b]? =some (.cells #[v] t (0,0))):w.cell? ⟨b,0,none⟩=some v/\w.frozen? ⟨b,0,none⟩=false:=by
 constructor <;> simp[World.cell?,World.frozen?,h]
theorem zcy{w:World}{b:Nat}{o:Obj}(h:w.heap[b]? =some o):b<w.heap.size:=(Array.getElem?_eq_some_iff.1 h).1
section
variable {w w':World} {B bS bL bM gP cP nP nM m:Nat} {ps:List PairRef}
theorem zrq.below(h:zrq w w' bL gP bM){b:Nat}(h1:b<=bL)(h2:b<=gP)(h3:b<=bM)(hb:b<=w.heap.size):Below b w w':=
 ⟨h.os,h.tape,h.output,h.size,fun k hk=>h.block k (by omega) (by omega) (by omega) (by omega)⟩
end
end
section
open Go.RowKit Game
theorem zfz{w:World}{b k:Nat}{v:Value}(h:k≠b):(w.setCell ⟨b,0,none⟩ v).heap[k]? =w.heap[k]? :=by
 show(w.heap.modify b _)[k]? =_;rw[Array.getElem?_modify];simp[Ne.symm h]
theorem zot{w:World}{b:Nat}{v:Value}:(w.setCell ⟨b,0,none⟩ v).heap.size=w.heap.size:=by
 show(w.heap.modify b _).size=_;simp
def zbm(ps:List PairRef):LL:=ps.map fun p=>p.1.2.2
end
section
open Go.RowKit Game
open Go.Maps (Keyed IsMap)
theorem zwG:laidOutB Tryz.prog=true:=by kernel_rfl
theorem zxq:(104:TypeId)<Tryz.prog.types.size:=of_decide_eq_true (by kernel_rfl)
theorem zID:WideMaps.KeyLaw Tryz.prog 104:=deep_law_laid zwG (m:=2) (by omega) zxq (by kernel_rfl) (by rw[Tryz.underlying104])
theorem zjZ:Keyed Tryz.prog 104:=Keyed.of_law zID
theorem zhL:WideMaps.ArrKey Tryz.prog 104 3 4:=⟨Tryz.underlying104,by kernel_rfl,by kernel_rfl,by kernel_rfl⟩
theorem zAV(w:World):(zeroValue 4).run Tryz.prog w= .ok (.bool false) w:=by kernel_rfl
theorem zsc:∃m,Tryz.prog.types.size=m+1:=by
 have h:0<Tryz.prog.types.size:=Nat.lt_of_le_of_lt (qz _) zxq;generalize Tryz.prog.types.size=k at h;exact⟨k-1,by omega⟩
def zpt(v:LI):Prop:=∀j,j<4->(Lit.int .i64 (v.getD j 0)).wf=true
def zka(v:LI):Lit:= .string (keyBytes [.int .i64 (v.getD 0 0),.int .i64 (v.getD 1 0),.int .i64 (v.getD 2 0),.int .i64 (v.getD 3 0)])
theorem zhh{v:LI}(h:zpt v):keyOf Tryz.prog 104 (zbo v)=some (zka v):=by
 have nZ:=zhL.keyType zsc;obtain⟨m,hm⟩:=zsc;have h0:=h 0 (by omega);have h1:=h 1 (by omega);have h2:=h 2 (by omega);have h3:=h 3 (by omega);unfold zbo zka;generalize v.getD 0 0=x0 at*;generalize v.getD 1 0=x1 at*;generalize v.getD 2 0=x2 at*;generalize v.getD 3 0=x3 at*;unfold keyOf;simp only[zhL.hu];rw[if_pos (by simp[nZ,Value.formed,zhL.hu,zhL.size]),hm];unfold Program.keyLits;simp only[zhL.hu,Value.cells];rw[if_pos (by rw[zhL.size];rfl),show List.range 4=[0,1,2,3] from rfl,List.mapM_cons,List.mapM_cons,List.mapM_cons,List.mapM_cons,List.mapM_nil];simp[zhL.one,Program.keyLits,Tryz.underlying3,h0,h1,h2,h3]
theorem zwH{v u:LI}(hl:v.length=u.length)(h4:v.length<=4)(h:zbo v=zbo u):v=u:=by
 unfold zbo at h;simp at h;obtain⟨h0,h1,h2,h3⟩:=h;apply List.ext_getElem hl;intro i hi kl;have:i=0∨i=1∨i=2∨i=3:=by omega
 rcases this with rfl|rfl|rfl|rfl <;> simp_all
theorem zAW{v u:LI}(hv:zpt v)(hu:zpt u)(hl:v.length=u.length)(h4:v.length<=4)(h:zka v=zka u):v=u:=
 zwH hl h4 (zjZ.inj (zhh hv) (by rw[h];exact zhh hu))
def zdv(w:World)(b n m:Nat)(ks:LL):Prop:=
 ∃D:DataW Unit,w.ownsMap Tryz.prog 104 (plainElem Tryz.prog 4) b n D/\IsMap D/\∀v:LI,v.length=m->zpt v->D.atKey (zka v) (.lit (.bool false))= .lit (.bool (decide (v∈ks)))
section
variable {w w':World} {b n m:Nat} {ks:LL}
theorem zdv.start(w:World)(m:Nat):zdv (w.alloc (.map #[] 0)) w.heap.size 0 m []:=
 ⟨.map [],World.ownsMap_made _ _ _ _,⟨[],rfl⟩,fun v _ _=>by simp[DataW.atKey]⟩
theorem zdv.lt(h:zdv w b n m ks):b<w.heap.size:=by obtain⟨D,h,-⟩:=h;exact h.lt
theorem zdv.still(h:zdv w b n m ks)(hs:∃k,w'=w.drewN k):zdv w' b n m ks:=by obtain⟨k,rfl⟩:=hs;exact h
theorem zmu{P:Program}{e:TypeId}(he:P.underlying e=some .bool){v:Value}{z:DataW Unit × List MemPlace}(h:plainElem P e v=some z):∃x,v= .bool x/\z=(.lit (.bool x),[]):=by
 unfold plainElem at h;rw[he] at h
 cases v <;> simp at h
 subst h;exact⟨_,rfl,rfl⟩
theorem zpu{ops:Array Oper}{rest:List Oper}{o:Oper}{a:Act}{Q:Exit->Act->World->Prop}
 (hg:o.guard=none) (x y z:Operand) (cS:o.op=Op.mapUpdate 137 x y z) (b n m:Nat) (ks:LL) (v:LI) (hv:v.length=m) (h4:m<=4) (hw:zpt v)
 (ai:zdv w b n m ks) (hn:n<1048576) (hx:a.eval x= .map (some b)) (hy:a.eval y=zbo v) (hz:a.eval z= .bool true)
 (hK:∀w',zdv w' b (n+1) m (ks++[v])->w.grownBy w' (some b)->wpList Tryz.prog ops Q rest (a.put o.dst undef) w'):
 wpList Tryz.prog ops Q (o::rest) a w:=by
 obtain⟨D,hD,dh,lP⟩:=ai;refine wpList_mapUpdate_own w hg x y z _ cS _ _ zjZ Tryz.underlying137 _ b n D hx hD (by unfold maxLen;omega) _ _ (zka v) hy hz (zhh hw) _ [] (plainElem_bool (H:=Unit) Tryz.underlying4 true) ?_;intro w' dr bn;refine hK w' ⟨_,dr,?_,fun u hu oY=>?_⟩ bn
 ·obtain⟨es,rfl⟩:=dh;exact⟨_,rfl⟩
 ·by_cases e:u=v
  ·subst e;rw[Maps.atKey_put_same dh (zjZ.key (zhh hw))];simp
  ·have ao:zka u≠zka v:=fun h=>e (zAW oY hw (by omega) (by omega) h)
   rw[Maps.atKey_put_other ao,lP u hu oY];simp[e]
end
end
section
open Go.RowKit Game
def zaZ(w:World)(B g cap:Nat)(ps:List PairRef):Prop:=zaE w B 139 2 g cap ps.length (zdr ps)
theorem zAX:(Tryz.prog.info? 139).map (fun i=>(i.zero,i.size,i.bytes))=some (some (.agg #[.slice none 0 0,.slice none 0 0]),2,48):=by kernel_rfl
section
variable {w w':World} {B g cap:Nat} {ps:List PairRef}
theorem zaZ.lt(h:zaZ w B g cap ps):g<w.heap.size:=zaE.lt h
theorem zaZ.base(h:zaZ w B g cap ps):B<=g:=zaE.base h
theorem zaZ.below(h:zaZ w B g cap ps)(hb:Below w.heap.size w w'):zaZ w' B g cap ps:=zaE.below h hb (zaE.lt h)
theorem zaZ.grown{row:Option Nat}(h:zaZ w B g cap ps)(hg:w.grownBy w' row)(ao:some g≠row):zaZ w' B g cap ps:=zaE.grown h hg ao
theorem zaZ.cell(h:zaZ w B g cap ps){j:Nat}(hj:j<ps.length):w.cell? ⟨g,j*2,none⟩=some (zah ps[j].1)/\w.cell? ⟨g,j*2+1,none⟩=some (zah ps[j].2):=by
 have wM:j*2<(zdr ps).length:=by rw[zfL];omega
 have fc:j*2+1<(zdr ps).length:=by rw[zfL];omega
 obtain⟨h1,h2⟩:=zva hj;rw[zaE.cell h _ wM,zaE.cell h _ fc,<-h1,<-h2,List.getElem?_eq_getElem wM,List.getElem?_eq_getElem fc];exact⟨rfl,rfl⟩
theorem zaZ.empty(hB:B<=w.heap.size):zaZ (w.alloc (.cells #[] 139)) B w.heap.size 0 []:=
 World.ownsRow_lit w #[] 0 hB (by decide) rfl
theorem zaZ.one(p:PairRef)(hB:B<=w.heap.size):zaZ (w.alloc (.cells #[zah p.1,zah p.2] 139)) B w.heap.size 1 [p]:=
 World.ownsRow_lit w #[zah p.1,zah p.2] 1 hB (by decide) rfl
theorem zmv{ops:Array Oper}{rest:List Oper}{o:Oper}{a:Act}{Q:Exit->Act->World->Prop}(dH:o.guard=none)(s x:Operand)
 (ho:o.op= .call {callee:= .builtin .append,args:=#[s,x],argTypes:=#[136,136]})
 (B g cap n H:Nat) (ps:List PairRef) (p:PairRef) (w W:World) (hn:ps.length=n) (hW:W=w.alloc (.cells #[zah p.1,zah p.2] 139)) (hH:w.heap.size=H) (ai:zaZ w B g cap ps)
 (hs:a.eval s=(qS (some ⟨g,0,none⟩) n cap)) (hx:a.eval x=(qS (some ⟨H,0,none⟩) 1 1)) (am:n+1<=1048576)
 (h:∀g' cap' w',zaZ w' B g' cap' (ps++[p])->w.grownBy w' (some g)->(g'=g∨w.heap.size<g')->wpList Tryz.prog ops Q rest (a.put o.dst (qS (some ⟨g',0,none⟩) (n+1) cap')) w'):
 wpList Tryz.prog ops Q (o::rest) a W:=by
 subst hn;subst hW;subst hH;have db:=zaZ.one (w:=w) (B:=w.heap.size) p (qr _);refine zfs zAX Tryz.underlying136 rfl (by decide) (by decide) dH s x ho B g cap ps.length (zdr ps) (zaE.alloc ai _) w.heap.size 0 1 1 (zdj p) rfl ?_ ?_ hs hx am ?_
 ·intro j u hu;have hj:j<2:=by have:=(List.getElem?_eq_some_iff.1 hu).1;simpa [zdj] using this
  have h1:=db.cell (j:=0) (by simp);rw[Nat.zero_mul] at h1;have:j=0∨j=1:=by omega
  rcases this with rfl|rfl
  ·rw[Nat.zero_add,h1.1,<-hu];rfl
  ·rw[h1.2,<-hu];rfl
 ·intro u hu;simp[zdj] at hu
  rcases hu with rfl|rfl <;> rfl
 ·intro g' cap' w' h2 h3 h4;refine h g' cap' w' ?_ ⟨h3.os,h3.tape,h3.output,qt (by simp) h3.size,fun k hk ao=>(h3.block k (by simp;omega) ao).trans (Below.heap_alloc _ _ _ hk)⟩ (h4.imp id (by simp;omega));unfold zaZ;rw[zuZ,qA];have e:zdr [p]=zdj p:=by simp[zdr]
  rw[e];exact h2
end
structure zcV(w:World)(B bS bL bM gP cP nP nM m:Nat)(ps:List PairRef):Prop where
 hS:w.heap[bS]? =some (.cells #[.map (some bM)] 137 (0,0))
 hL:w.heap[bL]? =some (.cells #[(qS (some ⟨gP,0,none⟩) nP cP)] 136 (0,0))
 hP:zaZ w B gP cP ps
 hn:ps.length=nP
 hM:zdv w bM nM m (ps.map fun p=>p.1.2.2)
 hnM:nM<=nP
 rows:∀p∈ps,Own w B p.1.1 p.1.2.1 p.1.2.2/\Own w B p.2.1 p.2.2.1 p.2.2.2
 nodup:(ps.map fun p=>p.1.1).Nodup
 bL_ge:B<=bL
 bM_ge:B<=bM
section
variable {w w':World} {B bS bL bM gP cP nP nM m:Nat} {ps:List PairRef}
theorem zdv.same{ks:LL}(h:zdv w bM nM m ks)(hs:w'.heap[bM]? =w.heap[bM]?):zdv w' bM nM m ks:=by
 obtain⟨D,⟨es,clock,hh,r⟩,h2⟩:=h;exact⟨D,⟨es,clock,hs.trans hh,r⟩,h2⟩
theorem zcV.keep(h:zcV w B bS bL bM gP cP nP nM m ps)(hk:∀k,k<w.heap.size->w'.heap[k]? =w.heap[k]?):zcV w' B bS bL bM gP cP nP nM m ps:=
 ⟨(hk _ (zcy h.hS)).trans h.hS,(hk _ (zcy h.hL)).trans h.hL,zaE.same h.hP (hk _ h.hP.lt),h.hn,h.hM.same (hk _ h.hM.lt),h.hnM,fun p hp=>⟨(h.rows p hp).1.same (hk _ (h.rows p hp).1.lt),(h.rows p hp).2.same (hk _ (h.rows p hp).2.lt)⟩,h.nodup,h.bL_ge,h.bM_ge⟩
theorem zcV.below(h:zcV w B bS bL bM gP cP nP nM m ps)(hb:Below w.heap.size w w'):zcV w' B bS bL bM gP cP nP nM m ps:=h.keep hb.block
theorem zcV.still(h:zcV w B bS bL bM gP cP nP nM m ps)(hs:∃n,w'=w.drewN n):zcV w' B bS bL bM gP cP nP nM m ps:=by obtain⟨n,rfl⟩:=hs;exact h.keep fun _ _=>rfl
theorem zcV.ne(h:zcV w B bS bL bM gP cP nP nM m ps):bS≠bM/\bL≠bM/\gP≠bM/\bS≠gP/\bL≠gP/\bS≠bL:=by
 obtain⟨D,⟨es,clock,hh,-⟩,-⟩:=h.hM;obtain⟨cur,h2,-⟩:=zaE.row h.hP;have h3:=h.hS;have h4:=h.hL;refine⟨?_,?_,?_,?_,?_,?_⟩ <;> intro e <;> subst e <;> simp_all
theorem zcV.neOwn(h:zcV w B bS bL bM gP cP nP nM m ps){B2 g cap:Nat}{xs:LI}(ho:Own w B2 g cap xs):g≠bS/\g≠bL/\g≠bM/\g≠gP:=by
 obtain⟨D,⟨es,clock,hh,-⟩,-⟩:=h.hM;obtain⟨cur,h2,-⟩:=zaE.row h.hP;obtain⟨cur2,h5,-⟩:=ho.toV.row;have h3:=h.hS;have h4:=h.hL;refine⟨?_,?_,?_,?_⟩ <;> intro e <;> subst e <;> simp_all
theorem zcV.neRows(h:zcV w B bS bL bM gP cP nP nM m ps){B2 g cap:Nat}{rs:List RowRef}(ho:zab w B2 g cap rs):g≠bS/\g≠bL/\g≠bM/\g≠gP:=by
 obtain⟨D,⟨es,clock,hh,-⟩,-⟩:=h.hM;obtain⟨cur,h2,-⟩:=zaE.row h.hP;obtain⟨cur2,h5,-⟩:=ho.1.row;have h3:=h.hS;have h4:=h.hL;refine⟨?_,?_,?_,?_⟩ <;> intro e <;> subst e <;> simp_all
theorem zrq.rowsP(h:zrq w w' bL gP bM)(st:zcV w B bS bL bM gP cP nP nM m ps){B2 g cap:Nat}{rs:List RowRef}(ho:zab w B2 g cap rs):zab w' B2 g cap rs:=by
 have h1:=st.neRows ho
 exact⟨ho.1.same (h.block _ ho.lt h1.2.1 h1.2.2.2 h1.2.2.1),fun r hr=>by
  have h2:=st.neOwn (ho.2.1 r hr);exact(ho.2.1 r hr).same (h.block _ (ho.2.1 r hr).lt h2.2.1 h2.2.2.2 h2.2.2.1),ho.2.2⟩
end
end
section
open Go.RowKit Game
def zeF(ps:List PairRef)(p:PairRef):List PairRef:=if zed p.1.2.2=true/\zak p.1.2.2<=12/\p.1.2.2 ∉ zbm ps then ps++[p] else ps
def zFS(B bS bL bM gP m:Nat)(w:World)(ps':List PairRef)(e:Ending)(w':World):Prop:=
 e= .returned (.tuple #[])/\zrq w w' bL gP bM/\∃gP' cP' nP' nM',zcV w' B bS bL bM gP' cP' nP' nM' m ps'/\(gP'=gP∨w.heap.size<=gP')
end
section
open Go.RowKit Game
open Go.Maps (Keyed IsMap)
theorem zdv.run{w:World}{b n m:Nat}{ks:LL}{v:LI}(ai:zdv w b n m ks)(hv:v.length=m)(hw:zpt v):
 (Instr.lookup 137 (.map (some b)) (zbo v) false).run Tryz.prog w= .ok (.bool (decide (v∈ks))) w:=by
 obtain⟨D,hD,-,lP⟩:=ai;obtain⟨u,ps,cz,hu⟩:=hD.lookup zjZ Tryz.underlying137 (zAV w) (plainElem_bool (H:=Unit) Tryz.underlying4 false) (zhh hw);obtain⟨z,rfl,hz⟩:=zmu Tryz.underlying4 hu;rw[lP v hv hw] at hz;simp at hz;rw[cz,hz.1]
theorem zky{w w2 w3:World}{bL gP bM:Nat}(h:Below w.heap.size w w2)(hs:∃k,w3=w2.drewN k):zrq w w3 bL gP bM:=by
 have hb:=zaf h hs;exact⟨hb.os,hb.tape,hb.output,hb.size,fun k hk _ _ _=>hb.block k hk⟩
theorem zmi(B bS bL bM bH gP cP nP nM gr cr gs cs n n2:Nat)(ps:List PairRef)(r s:LI)(w:World)(hn:r.length=n)(da:s.length=n2)(h4:r.length<=4)(hw:zpt r)(yY:nP<=1000)(st:zcV w B bS bL bM gP cP nP nM r.length ps)
 (hH:w.heap[bH]? =some (.cells #[.int .i64 12] 3 (0,0))) (aY:Own w B gr cr r) (eG:Own w B gs cs s) (ao:∀p∈ps,p.1.1≠gr):
 Calls Tryz.prog 188 #[(qS (some ⟨gr,0,none⟩) n cr),(qS (some ⟨gs,0,none⟩) n2 cs),.pointer (some ⟨bS,0,none⟩),.pointer (some ⟨bH,0,none⟩),.pointer (some ⟨bL,0,none⟩)] w (zFS B bS bL bM gP r.length w (zeF ps ((gr,cr,r),(gs,cs,s)))):=by
 subst hn;subst da;have jZ:zbo r= .agg #[.int .i64 (r.getD 0 0),.int .i64 (r.getD 1 0),.int .i64 (r.getD 2 0),.int .i64 (r.getD 3 0)]:=rfl;have Ce:(w.alloc (.cells #[.int .i64 0,.int .i64 0,.int .i64 0,.int .i64 0] 104)).heap[w.heap.size]? =some (.cells #[.int .i64 0,.int .i64 0,.int .i64 0,.int .i64 0] 104 (0,0)):=heap_alloc_new _ _;have ad:Below w.heap.size w (w.alloc (.cells #[.int .i64 0,.int .i64 0,.int .i64 0,.int .i64 0] 104)):=(Below.refl _ _).alloc (qr _) _;have yh:=qd Ce;have su:=qd ad;have lW:=qd aY;clear Ce ad
 go_enter Tryz.func188,Tryz.ntmps188
 go_wp2_with (refine wpList_copy_splice (o:=⟨some 11,_,_,_,_,_⟩) rfl (.tmp 9) (.tmp 10) 25 25 rfl 3 Tryz.underlying25 (by kernel_rfl) (some ⟨w.heap.size,0,none⟩) (some ⟨gr,0,none⟩) 4 4 r.length cr rfl rfl w.heap.size 0 [.int .i64 0,.int .i64 0,.int .i64 0,.int .i64 0] 104 yh.out (r.map (Value.int .i64)) (by rw[List.length_map];exact(Nat.min_eq_left h4).symm) (fun _=>⟨rfl,⟨gr,0,none⟩,rfl,?_⟩) (by simp;omega) (ints_oneCell _ _) w.heap.size w ?_ (qr _) ?_)
 ·intro j u hu;have hj:j<r.length:=by have:=(List.getElem?_eq_some_iff.1 hu).1;simpa using this
  rw[Addr.add_lit];have h1:zag (w.alloc (.cells #[.int .i64 0,.int .i64 0,.int .i64 0,.int .i64 0] 104)) gr 0 r:=lW.out.cells.below su.out lW.out.lt;rw[h1 j hj,<-hu];simp[List.getD,hj]
 ·exact su.out
 ·intro w2 yf az;have yi:=yf.out;rw[zxc r h4] at yi;have st2:=st.below az;have dJ:=aY.below az aY.lt;have rM:=eG.below az eG.lt;have JN:=(az.block bH (zcy hH)).trans hH;have mL:=qd jZ;obtain⟨⟨a0,a1,a2,a3⟩,af⟩:=zxW yi;have qSd:=(zfM st2.hS).1;have qH:=(zfM JN).1;clear jZ yf yi yh su lW aY eG hH st;have Hs:Hid (∀q,Calls Tryz.prog 189 #[(qS (some ⟨gr,0,none⟩) r.length cr)] (w2.drewN q) (zap (w2.drewN q) (.int .i64 (zdq r)))):=qd fun q=>zop gr 0 r.length cr r (w2.drewN q) rfl (by omega) (dJ.cells.still ⟨q,rfl⟩)
  have Hh:Hid (∀q,Calls Tryz.prog 101 #[(qS (some ⟨gr,0,none⟩) r.length cr)] (w2.drewN q) (zap (w2.drewN q) (.int .i64 (zak r)))):=qd fun q=>zdE gr 0 r.length cr r (w2.drewN q) rfl (by omega) (dJ.cells.still ⟨q,rfl⟩)
  have bh:=zEu r;have cz:=fun q=>zdv.run (w:=w2.drewN q) (b:=bM) (ks:=zbm ps) (v:=r) (st2.hM.still ⟨q,rfl⟩) rfl hw
  rw[mL.out] at cz;generalize r.getD 0 0=y0 at*;generalize r.getD 1 0=y1 at*;generalize r.getD 2 0=y2 at*;generalize r.getD 3 0=y3 at*;clear af;by_cases be:r∈zbm ps
  ·rw[decide_eq_true be] at cz;have Hq:Hid (zeF ps ((gr,cr,r),(gs,cs,s))=ps):=qd (by unfold zeF;rw[if_neg (fun h=>h.2.2 be)]);clear bh;go_wp2_with fail;go_quiet (first|(go_at_call 189;first|with_reducible exact Calls.quiet_of (Hs.out _)|with_reducible exact zap.quiet4 (Hs.out _))|(go_at_call 101;first|with_reducible exact Calls.quiet_of (Hh.out _)|with_reducible exact zap.quiet4 (Hh.out _)))
   go_wp2_with fail
   go_end0
   exact⟨rfl,zky az ⟨_,rfl⟩,gP,cP,nP,nM,by rw[Hq.out];exact st2.still ⟨_,rfl⟩,.inl rfl⟩
  rw[decide_eq_false be] at cz;by_cases hp:zed r=true
  ·have d1:(zdq r==1)=true:=by rw[bh];exact hp
   by_cases hh:zak r<=12
   ·have d2:decide (zak r<=12)=true:=decide_eq_true hh;have Hq:Hid (zeF ps ((gr,cr,r),(gs,cs,s))=ps++[((gr,cr,r),(gs,cs,s))]):=qd (by unfold zeF;rw[if_pos ⟨hp,hh,be⟩]);generalize zdq r=sg at*;generalize zak r=hr at*;clear bh hh be hp;have hnM:=st2.hnM;go_wp2_with fail;go_quiet (first|(go_at_call 189;first|with_reducible exact Calls.quiet_of (Hs.out _)|with_reducible exact zap.quiet4 (Hs.out _))|(go_at_call 101;first|with_reducible exact Calls.quiet_of (Hh.out _)|with_reducible exact zap.quiet4 (Hh.out _)))
    go_wp2_with (at_mapUpdate;refine zpu rfl _ _ _ rfl bM nM r.length (zbm ps) r rfl h4 hw (st2.hM.still ⟨_,rfl⟩) (by omega) rfl (by rw[mL.out];rfl) rfl ?_);intro w3 Nz qb;have aK:w2.grownBy w3 (some bM):=⟨qb.os,qb.tape,qb.output,qb.size,qb.block⟩;clear qb;obtain⟨n1,n2,n3,n4,n5,n6⟩:=st2.ne;have lB:=(aK.block bS (zcy st2.hS) (by intro e;exact n1 (Option.some.inj e))).trans st2.hS;have Gz:=(aK.block bL (zcy st2.hL) (by intro e;exact n2 (Option.some.inj e))).trans st2.hL;have zb:=st2.hP.grown aK (by intro e;exact n3 (Option.some.inj e));have qLd:=(zfM Gz).1;go_wp2_with (at_builtin;refine zmv rfl _ _ rfl B gP cP nP w3.heap.size ps ((gr,cr,r),(gs,cs,s)) w3 _ st2.hn rfl rfl zb rfl rfl (by omega) ?_);intro g4 c4 w4 Dt aT bq;have uc:=(aT.block bS (zcy lB) (by intro e;exact n4 (Option.some.inj e))).trans lB;have JO:=(aT.block bL (zcy Gz) (by intro e;exact n5 (Option.some.inj e))).trans Gz;have fL:=(zfM JO).2;have cL:=(zfM JO).1;go_wp2
    go_end0
    have sw:∀k,k<w2.heap.size->k≠bL->k≠gP->k≠bM->(w4.setCell ⟨bL,0,none⟩ (qS (some ⟨g4,0,none⟩) (nP+1) c4)).heap[k]? =w2.heap[k]? :=fun k hk h1 h2 h3=>
     (zfz h1).trans ((aT.block k (qL hk aK.size) (by intro e;exact h2 (Option.some.inj e))).trans (aK.block k hk (by intro e;exact h3 (Option.some.inj e))))
    have JP:g4≠bL:=by
     have:=zcy Gz
     rcases bq with h|h
     ·rw[h];exact Ne.symm n5
     ·omega
    refine⟨rfl,⟨aT.os.trans (aK.os.trans az.os),aT.tape.trans (aK.tape.trans az.tape),aT.output.trans (aK.output.trans az.output),?_,fun k hk h1 h2 h3=>(sw k (qL hk az.size) h1 h2 h3).trans (az.block k hk)⟩,g4,c4,nP+1,nM+1,?_,bq.imp id (fun h=>by have:=az.size;have:=aK.size;omega)⟩
    ·rw[zot];exact qt az.size (qt aK.size aT.size)
    ·rw[Hq.out];refine⟨(zfz n6).trans uc,one_setCell JO,zaE.same Dt (zfz JP),by rw[qA,st2.hn];rfl,?_,by omega,?_,?_,st2.bL_ge,st2.bM_ge⟩
     ·rw[List.map_append];exact Nz.same ((zfz (Ne.symm n2)).trans (aT.block bM Nz.lt (by intro e;exact n3 (Option.some.inj e).symm)))
     ·intro p hp
      rcases List.mem_append.1 hp with h|h
      ·have h1:=st2.rows p h;have a1:=st2.neOwn h1.1;have a2:=st2.neOwn h1.2;exact⟨h1.1.same (sw _ h1.1.lt a1.2.1 a1.2.2.2 a1.2.2.1),h1.2.same (sw _ h1.2.lt a2.2.1 a2.2.2.2 a2.2.2.1)⟩
      ·rw[List.mem_singleton] at h;subst h;have a1:=st2.neOwn dJ;have a2:=st2.neOwn rM;exact⟨dJ.same (sw _ dJ.lt a1.2.1 a1.2.2.2 a1.2.2.1),rM.same (sw _ rM.lt a2.2.1 a2.2.2.2 a2.2.2.1)⟩
     ·rw[List.map_append,List.nodup_append];refine⟨st2.nodup,by simp,?_⟩;intro a ha b hb e;obtain⟨p,hp,rfl⟩:=List.mem_map.1 ha;rw[List.map_cons,List.map_nil,List.mem_singleton] at hb;exact ao p hp (e.trans hb)
   ·have d2:decide (zak r<=12)=false:=decide_eq_false hh;have dw:¬(zed r=true/\zak r<=12/\r ∉ zbm ps):=fun h=>hh h.2.1
    have Hq:Hid (zeF ps ((gr,cr,r),(gs,cs,s))=ps):=qd (by unfold zeF;rw[if_neg dw]);generalize zdq r=sg at*;generalize zak r=hr at*;clear bh dw hh;go_wp2_with fail;go_quiet (first|(go_at_call 189;first|with_reducible exact Calls.quiet_of (Hs.out _)|with_reducible exact zap.quiet4 (Hs.out _))|(go_at_call 101;first|with_reducible exact Calls.quiet_of (Hh.out _)|with_reducible exact zap.quiet4 (Hh.out _)))
    go_wp2_with fail
    go_end0
    exact⟨rfl,zky az ⟨_,rfl⟩,gP,cP,nP,nM,by rw[Hq.out];exact st2.still ⟨_,rfl⟩,.inl rfl⟩
  ·have d1:(zdq r==1)=false:=by rw[bh];simpa using hp
   have Hq:Hid (zeF ps ((gr,cr,r),(gs,cs,s))=ps):=qd (by unfold zeF;rw[if_neg (fun h=>hp h.1)]);generalize zdq r=sg at*;clear bh;go_wp2_with fail;go_quiet (first|(go_at_call 189;first|with_reducible exact Calls.quiet_of (Hs.out _)|with_reducible exact zap.quiet4 (Hs.out _))|(go_at_call 101;first|with_reducible exact Calls.quiet_of (Hh.out _)|with_reducible exact zap.quiet4 (Hh.out _)))
   go_wp2_with fail
   go_end0
   exact⟨rfl,zky az ⟨_,rfl⟩,gP,cP,nP,nM,by rw[Hq.out];exact st2.still ⟨_,rfl⟩,.inl rfl⟩
end
section
open Go.RowKit
def zhM(Q:LL)(r:LI):LL:=if zed r=true/\zak r<=12/\r ∉ Q then Q++[r] else Q
theorem zvb(ps:List PairRef)(p:PairRef):zbm (zeF ps p)=zhM (zbm ps) p.1.2.2:=by
 unfold zeF zhM
 split
 ·simp[zbm]
 ·rfl
structure zfN(c Q:LL)(k i:Nat):Prop where
 nodup:Q.Nodup
 sub:∀x∈Q,x∈zaq c
 simp:∀j,j<c.length->zbn c.length j∈Q
 done:∀j t,(j<k/\t<c.length∨j=k/\t<i)->j<Q.length->zed (zbk c t (Q.getD j []))=true->zak (zbk c t (Q.getD j []))<=12->zbk c t (Q.getD j [])∈Q
theorem zpv{Q:LL}{r:LI}:∀x∈Q,x∈zhM Q r:=fun x hx=>by
 unfold zhM;split
 ·exact List.mem_append_left _ hx
 ·exact hx
theorem zsd{Q:LL}{r:LI}{j:Nat}(hj:j<Q.length):(zhM Q r).getD j []=Q.getD j []:=by
 unfold zhM;split
 ·simp[List.getD,hj,List.getElem?_append_left hj]
 ·rfl
theorem zFT{Q:LL}{r:LI}:Q.length<=(zhM Q r).length/\(zhM Q r).length<=Q.length+1:=by
 unfold zhM;split <;> simp
theorem zfN.step{c Q:LL}{k i:Nat}(hP:zbI c)(h:zfN c Q k i)(hk:k<Q.length)(hi:i<c.length):zfN c (zhM Q (zbk c i (Q.getD k []))) k (i+1):=by
 have hx:Q.getD k []∈Q:=by simp[List.getD,hk]
 refine⟨?_,?_,fun j hj=>zpv _ (h.simp j hj),?_⟩
 ·unfold zhM
  split
  ·rename_i hc
   rw[List.nodup_append];refine⟨h.nodup,by simp,?_⟩;intro a ha b hb e;rw[List.mem_singleton] at hb;subst hb;subst e;exact hc.2.2 ha
  ·exact h.nodup
 ·intro x tS;unfold zhM at tS
  split at tS
  ·rename_i hc
   rcases List.mem_append.1 tS with g|g
   ·exact h.sub x g
   ·rw[List.mem_singleton] at g;subst g;exact hP.closed.step _ (h.sub _ hx) i hi hc.1 hc.2.1
  ·exact h.sub x tS
 ·intro j t Du hj h1 h2
  have NA:j<Q.length:=by
   rcases Du with⟨g,-⟩|⟨g,-⟩ <;> omega
  rw[zsd NA] at h1 h2 ⊢;by_cases e:j=k/\t=i
  ·obtain⟨rfl,rfl⟩:=e;by_cases hm:zbk c t (Q.getD j [])∈Q
   ·exact zpv _ hm
   ·unfold zhM;rw[if_pos ⟨h1,h2,hm⟩];simp
  ·refine zpv _ (h.done j t ?_ NA h1 h2)
   rcases Du with g|⟨g1,g2⟩
   ·exact .inl g
   ·exact .inr ⟨g1,by omega⟩
theorem zfN.next{c Q:LL}{k:Nat}(h:zfN c Q k c.length):zfN c Q (k+1) 0:=
 ⟨h.nodup,h.sub,h.simp,fun j t Du=>h.done j t (by rcases Du with⟨g1,g2⟩|⟨-,g2⟩ <;> omega)⟩
theorem zfN.few{c Q:LL}{k i:Nat}(hP:zbI c)(h:zfN c Q k i):Q.length<=24:=by
 exact qt (h.nodup.length_le_of_subset h.sub) hP.few
theorem zfN.fin{c Q:LL}{k:Nat}(h:zfN c Q k 0)(hk:Q.length<=k):zxI Q=zaq c:=by
 refine zGP h.nodup h.sub ⟨h.simp,fun r hr i hi h1 h2=>?_⟩;obtain⟨j,hj,rfl⟩:=List.mem_iff_getElem.1 hr;have e:Q.getD j []=Q[j]:=by simp[List.getD,hj]
 have:=h.done j i (.inl ⟨by omega,hi⟩) hj;rw[e] at this;exact this h1 h2
theorem zfN.start{c:LL}(h:∀j,j<c.length->zbn c.length j∈(zcg c).map (·.1))(hn:((zcg c).map (·.1)).Nodup)(hP:zbI c):zfN c ((zcg c).map (·.1)) 0 0:=
 ⟨hn,fun x hx=>by
  obtain⟨p,hp,rfl⟩:=List.mem_map.1 hx;unfold zcg at hp;obtain⟨i,hi,rfl⟩:=List.mem_map.1 hp;exact hP.closed.simp i (List.mem_range.1 hi),h,fun j t Du=>by omega⟩
end
end Go.Proofs.YtlgcmaoimpgedaaGreatDoor

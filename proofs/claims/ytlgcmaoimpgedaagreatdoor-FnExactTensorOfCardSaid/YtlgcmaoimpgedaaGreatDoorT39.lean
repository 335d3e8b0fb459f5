/- PosI3 DbI Wts Wal -/
import Derived.Test.YtlgcmaoimpgedaaGreatDoorT38
set_option maxHeartbeats 8000000
set_option maxRecDepth 100000
set_option linter.unusedSimpArgs false
namespace Go.Proofs.YtlgcmaoimpgedaaGreatDoor
open Go.Value renaming slice->qS
section
open Go.RowKit Game
theorem zou(gc oc n cc:Nat)(c:LL)(w:World)(hn:c.length=n)(hC:IsC c)(hP:zbI c)(ah:gc<w.heap.size)(hr:zal w gc oc c):
 Calls Tryz.prog 166 #[(qS (some ⟨gc,oc,none⟩) n cc),.int .i64 12] w (zbC w (zaq c)):=by
 subst hn;have aR:=hC.2.1;have bD:=hC.2.2.1;have aa:=zcz gc oc _ cc c w rfl (by omega) (fun j hj=>by have:=bD j hj;omega) hr;rw[decide_eq_true hC] at aa;have ab:=qd aa;have Hr:=qd hr;have HP:=qd hP;have HC:=qd hC;clear aa hr hP bD hC
 go_enter Tryz.func166,Tryz.ntmps166
 go_wp2_with fail;refine ab.out.mono ?_;rintro e w1 ⟨rfl,bh⟩;have ad:=zaf (Below.refl w.heap.size w) bh;have aH:=zmw (fun _ _=>True) gc oc _ cc c w1 rfl HC.out HP.out (ztf.any c) (qL ah ad.size) (Hr.out.still bh);have fi:=qd aH;clear aH ab bh;go_wp2_with fail;refine fi.out.mono ?_;rintro e w2 ⟨g,cap,rs,g2,cap2,rs2,rfl,br,-,-,hO,-,ae⟩;have hb:=ad.trans (ae.mono ad.size);have gH:=hO.mono ad.size;clear fi hO ae;go_wp2_with fail;go_ret;exact⟨g,cap,rs,rfl,br,gH,hb⟩
theorem zeB(gc oc n cc:Nat)(c:LL)(w:World)(hn:c.length=n)(hl:c.length<=1048576)(an:∀j,j<c.length->(c.getD j []).length<=1048576)(ah:gc<w.heap.size)(hr:zal w gc oc c):
 Calls Tryz.prog 122 #[(qS (some ⟨gc,oc,none⟩) n cc)] w (zaj w (zpr c) (zaN c)):=by
 have aa:=zdd gc oc n cc c w hn hl an ah hr
 cases hf:zaN c with
 |false=>
  rw[hf] at aa;rw[zuT hf];have ab:=qd aa;clear aa
  go_enter Tryz.func122,Tryz.ntmps122
  go_wp2_with fail;refine ab.out.mono ?_;rintro e w1 ⟨rfl,ad⟩;go_wp2_with fail;go_ret2;exact⟨_,0,[],rfl,rfl,zab.empty ad.size,ad.alloc ad.size _⟩
 |true=>
  rw[hf] at aa;rw[zeA hf];have ab:=qd aa;have Hr:=qd (fun W (hW:Below w.heap.size w W)=>zou gc oc n cc c W hn (zlD hf) (zcJ hf) (qL ah hW.size) (hr.below hW ah));clear aa hr hf an hl hn
  go_enter Tryz.func122,Tryz.ntmps122
  go_wp2_with fail;refine ab.out.mono ?_;rintro e w1 ⟨rfl,ad⟩;go_wp2_with fail;refine(Hr.out w1 ad).mono ?_;rintro e w2 ⟨g,cp,rs,rfl,Db,ho,ae⟩;go_wp2_with fail;go_ret2;exact⟨g,cp,rs,rfl,Db,ho.mono ad.size,ad.trans (ae.mono ad.size)⟩
end
section
open Go.RowKit Game
open Go.Sort (SWO)
theorem zkT{P:Program}{ops:Array Oper}{rest:List Oper}{d:Option Tmp}{op:Op}{ty:TypeId}{ps:String}{af:Array Edge}{gd:Option (Nat × Bool)}{a:Act}{w:World}{Q:Exit->Act->World->Prop}
 (hw:Region.wanted ⟨d,op,ty,ps,af,gd⟩ (yielded ops a.tmps)=true) (h:wpList P ops Q (⟨d,op,ty,ps,af,none⟩::rest) a w):wpList P ops Q (⟨d,op,ty,ps,af,gd⟩::rest) a w:=by
 unfold wpList at h ⊢;rw[if_pos hw];rw[if_pos (by simp[Region.wanted])] at h;exact h
theorem zgJ(gc oc n cc g o m cv:Nat)(c:LL)(v:LI)(M:LL)(b:Bool)(w:World)(hn:c.length=n)(hm:v.length=m)(hS:zbi c v)(hP:zbI c)(hM:zxS (nxD c) (zaq c).length v M b)
 (ah:gc<w.heap.size) (hg:g<w.heap.size) (hr:zal w gc oc c) (hv:zag w g o v):
 Calls Tryz.prog 117 #[(qS (some ⟨gc,oc,none⟩) n cc),(qS (some ⟨g,o,none⟩) m cv)] w (zaj w M b):=by
 subst hn;have dq:=hS.len;obtain rfl:c.length=m:=by omega
 have hC:=hS.hC;have aR:=hC.2.1;have bD:=hC.2.2.1;have uC:v.length<=4:=by omega
 have aW:=zeB gc oc _ cc c w rfl (by omega) (fun j hj=>by have:=bD j hj;omega) ah hr;rw[zeA hS.fin,hS.fin] at aW
 have bZ:∀W,zag W g o v->Calls Tryz.prog 39 #[(qS (some ⟨gc,oc,none⟩) c.length cc),(qS (some ⟨g,o,none⟩) c.length cv)] W (zap W (.bool true)):=fun W hW=>by
  have:=zdn gc oc _ cc g o _ cv c v W rfl dq (by omega) (by omega) hW
  rwa [decide_eq_true (show Sml c.length v from⟨dq,fun j hj=>hS.small j (by omega)⟩)] at this
 have ze:WfV v:=zik fun j hj=>by have:=hS.small j (by omega);omega
 have nu:=@run_makeMap Tryz.prog;have jC:=qd aW;have eH:=qd bZ;have dY:=qd bD;have HC:=qd hC;have Km:=qd ze;have jg:=qd dq;have zw:=qd (fun r (hr:r∈zaq c)=>(zji r hr).1);have lE:=qd (fun x hx=>zbw.rch hS hP (x:=x) hx);have sj:(zaq c).length<=24:=by have:=(zlE c).1;rwa [zeA hS.fin] at this
 clear aW bZ bD hS hC hP ze;clear dq
 go_enter Tryz.func117,Tryz.ntmps117
 go_wp2_with fail;refine jC.out.mono ?_;rintro e w0 ⟨gR,cR,rsR,rfl,sq,mO,aN⟩;have ue:=mO.lt;have uf:=mO.rows2;rw[sq] at uf;have NL:=qd (eH.out w0 (hv.below aN hg));have ra:w.heap.size<=w0.heap.size:=aN.size;have AY:=qd aN;have qg:g<w0.heap.size:=qL hg ra;have nW:=hv.below aN hg;have oD:gc<w0.heap.size:=qL ah ra;have fm:=hr.below aN ah;clear jC mO sq eH aN hv hr;go_wp2_with fail;refine NL.out.mono ?_;rintro e w01 ⟨rfl,DK⟩;have qh:Below w0.heap.size w0 w01:=zaf (Below.refl _ _) DK;clear NL DK;go_wp2_with (at_builtin;refine zaV (w:=w01) rfl _ _ rfl g o _ cv v jg.out (qL qg qh.size) (nW.below qh qg) rfl rfl (by omega) ?_);intro g1 c1 w1 au ad;have dc:=qh.trans (ad.mono qh.size);have DL:=au.mono qh.size;clear qh ad au
 have gH:zab ((w1.alloc (.cells #[(qS (some ⟨g1,0,none⟩) c.length c1)] 25)).alloc (.map #[] 0)) w0.heap.size w1.heap.size 1 [(g1,c1,v)]:=by
  have h2:=zaI.new (w:=w1) (B:=w0.heap.size) (E:=25) (qS (some ⟨g1,0,none⟩) c.length c1) rfl dc.size
  have h3:zab (w1.alloc (.cells #[(qS (some ⟨g1,0,none⟩) c.length c1)] 25)) w0.heap.size w1.heap.size 1 [(g1,c1,v)]:=
   ⟨by simpa [zah,jg.out] using h2,⟨fun r hr=>by rw[List.mem_singleton] at hr;subst hr;exact DL.alloc _,by simp⟩⟩
  exact h3.below ((Below.refl _ _).alloc (qr _) _)
 have az:Below w0.heap.size w0 ((w1.alloc (.cells #[(qS (some ⟨g1,0,none⟩) c.length c1)] 25)).alloc (.map #[] 0)):=(dc.alloc dc.size _).alloc (by simp;have:=dc.size;omega) _
 have zf:zbV ((w1.alloc (.cells #[(qS (some ⟨g1,0,none⟩) c.length c1)] 25)).alloc (.map #[] 0)) (w1.heap.size+1) 0 c.length []:=by
  have:=zbV.start (w1.alloc (.cells #[(qS (some ⟨g1,0,none⟩) c.length c1)] 25)) c.length;simpa using this
 go_wp2_with fail;refine(zbQ g o c.length cv v _ jg.out uC (qL qg az.size) (nW.below az qg)).mono ?_;rintro e w3 ⟨rfl,ag⟩;have bg:=gH.below ag;have ap:=az.trans (ag.mono az.size);have lB:=zf.below ag zf.lt;have ub:w0.heap.size<=w1.heap.size+1:=by have:=dc.size;omega
 clear gH az zf ag DL dc nu;generalize w1.heap.size+1=bM at*;generalize w1.heap.size=gO0 at*;go_wp2_with (refine zil (o:=⟨none,_,_,_,_,_⟩) rfl _ _ _ rfl v jg.out aR Km.out lB (by omega) rfl rfl rfl ?_);intro w4 uc aT;have cV:zab w4 w0.heap.size gO0 1 [(g1,c1,v)]:=⟨bg.1.grown aT (by intro e;exact lB.neV bg.1 (Option.some.inj e).symm),fun r hr=>(bg.2.1 r hr).grown aT (by intro e;exact lB.neOwn (bg.2.1 r hr) (Option.some.inj e).symm),bg.2.2⟩;have aG:=ap.grown aT ap.size (by intro j hj;cases hj;exact ub);clear bg lB ap aT;have gI:=qd (BSt.start (nxD c) (zaq c).length v);obtain⟨P,rC⟩:∃P,(zaq c).length=P:=⟨_,rfl⟩;rw[rC] at gI hM lE sj ⊢;have JK:=qd rC;clear rC;go_wp2_with fail;go_loopw [8,10] (fun ov kv wr=>∃(k gO cO nO:Nat) (rs:List RowRef),kv= .int .i64 k/\ov=(qS (some ⟨gO,0,none⟩) nO cO)/\Hid (rs.length=nO)/\k<=nO/\nO<=200/\Hid (BSt (nxD c) P v (zaa rs) k 0)/\zab wr w0.heap.size gO cO rs/\(∃nM,nM<=nO/\zbV wr bM nM c.length (zaa rs))/\Below w0.heap.size w0 wr) (fun _ kv _=>200-(intOf kv).toNat)
 case atStart=>
  exact⟨0,gO0,1,1,[(g1,c1,v)],rfl,rfl,rfl,by omega,by omega,gI,cV,⟨1,by omega,uc⟩,aG⟩
 case round=>
  clear cV uc aG gI;obtain⟨k,gO,cO,nO,rs,rfl,rfl,an,hk,zh,aL,hO,⟨nM,hnM,hS⟩,hb⟩:=hrel;obtain⟨wo,rfl⟩:∃wo:World,wo=wr:=⟨_,rfl⟩;by_cases ac:k<nO
  ·go_wp2_with fail;go_loopw [8,47] (fun ov iv wj=>∃(i gO cO nO:Nat) (rs:List RowRef),i<=P/\iv= .int .i64 i/\ov=(qS (some ⟨gO,0,none⟩) nO cO)/\Hid (rs.length=nO)/\k<nO/\nO<=200+i/\Hid (BSt (nxD c) P v (zaa rs) k i)/\zab wj w0.heap.size gO cO rs/\(∃nM,nM<=nO/\zbV wj bM nM c.length (zaa rs))/\Below w0.heap.size w0 wj) (fun _ iv _=>P-(intOf iv).toNat)
   case atStart=>exact⟨0,gO,cO,nO,rs,qz _,rfl,rfl,an,ac,by omega,aL,hO,⟨nM,hnM,hS⟩,hb⟩
   case round=>
    clear hO hb aL an ac zh hk hS hnM;obtain⟨i,gO,cO,nO,rs,hi,rfl,rfl,an,hk,zh,aL,hO,⟨nM,hnM,hS⟩,hb⟩:=hrel;by_cases bG:i<P
    ·have cH:k<rs.length:=by rw[an.out];exact hk
     have NM:k<(zaa rs).length:=by rw[zac];exact cH
     have qX:i<(zaq c).length:=by rw[JK.out];exact bG
     obtain⟨gj,oj,cj,q1,q2,q3,q4⟩:=(uf.below hb ue) i qX;have aC:=lE.out _ (aL.out.row NM);have Ub:=zfW cH
     have hq:wr.cell? ⟨gO,k,none⟩=some (zah rs[k]):=by
      rw[hO.1.cell k (by simpa using cH)];simp
     have iS:=hO.2.1 _ (List.getElem_mem cH);have pS:(zaq c).getD i []∈zaq c:=by simp[List.getD,qX]
     have pB:=zw.out _ pS;have fw:=fun z h1 h2=>aL.out.add NM bG (z:=z) h1 h2
     have et:=aL.out.skip (i:=i);have Bv:=fun z=>zxp (c:=c) (x:=(zaa rs).getD k []) (r:=(zaq c).getD i []) (z:=z) (t:=i) rfl
     have By:=fun z=>zAU (c:=c) (x:=(zaa rs).getD k []) (r:=(zaq c).getD i []) (z:=z) (t:=i) rfl
     rw[Ub] at aC fw et Bv By;generalize (zaq c).getD i []=r at*;generalize rs[k]=rk at*;obtain⟨bi,ci,y⟩:=rk;have gZ:y.length=c.length:=aC.len;have eK:wr.cell? ⟨gO,k,none⟩=some (qS (some ⟨bi,0,none⟩) c.length ci):=by rw[<-gZ];exact hq
     have aU:Own wr w0.heap.size bi ci y:=iS;have ji:=aU.lt;have Dq:y.length<=4:=by omega
     rw[pB,Nat.zero_add] at q1;have dS:=qd fw;have fQ:=qd et;have CM:=qd Bv;have qO:=qd By;have kV:=qd gZ;have uA:=qd pB;clear fw et Bv By aC pS gZ q2 hq iS Ub pB;have vg:=hO.lt;have Br:∀o1,(wr.alloc o1).cell? ⟨gO,k,none⟩=some (qS (some ⟨bi,0,none⟩) c.length ci):=fun o1=>(((Below.refl wr.heap.size wr).alloc (qr _) o1).cell (p:=⟨gO,k,none⟩) vg).trans eK
     have lC:∀o1,zag (wr.alloc o1) bi 0 y:=fun o1=>aU.cells.below ((Below.refl _ _).alloc (qr _) _) ji
     go_wp2_with (at_builtin;refine zaV rfl _ _ rfl bi 0 _ ci y kV.out ji aU.cells rfl rfl (by omega) ?_);intro g3 c3 w3 al ag;have ap:=hb.trans (ag.mono hb.size);have bg:=hO.below ag;have lB:=hS.below ag hS.lt;have aK:wr.heap.size<=g3:=al.base;have zi:w0.heap.size<=g3:=qt hb.size aK;have Kn:=qd hb.size;have sb:∀r∈rs,r.1<g3:=fun r df=>qL (hO.2.1 r df).lt aK
     have Tj:gO<g3:=qL hO.lt aK;have Cy:bM<g3:=qL hS.lt aK;have aa:=zhc gc oc _ cc gj oj _ cj c r w3 rfl uA.out HC.out uA.out (qL oD ap.size) (qL q3 ag.size) (fm.below ap oD) (q4.below ag q3);have ab:=qd aa;clear aa hO hS hb ag eK aU q1 q3 q4 Br lC vg;go_wp2_with fail;refine ab.out.mono ?_;rintro e w4 ⟨gr,cr,rfl,aY,aM⟩;have cV:=bg.below aM;have uc:=lB.below aM lB.lt;have aG:=ap.trans (aM.mono ap.size);have aw:=al.below aM al.lt;have Rp:g3<gr:=qL al.lt aY.base;have xN:=aY.cells;have ry:=zgT c r;rw[ry];generalize hp:wtR c r=p at*;have NN:=qd (zyi y p);have NO:=qd (fun k=>(zuO y p k).trans kV.out);have NP:=qd (fun k (hk:k<c.length)=>zyj (x:=y) (p:=p) (k:=k) (by rw[kV.out];exact hk));have NQ:=qd (fun k (hk:k<c.length)=>zAb (x:=y) (p:=p) (k:=k) (by rw[kV.out];exact hk));have NR:Hid (zdI y p c.length=zcN y p):=by rw[<-kV.out];exact zAc y p
     clear ab bg lB ap al aM aY hp;go_wp2_with fail;go_loopw [61] (fun tv wi=>∃t:Nat,t<=c.length/\tv= .int .i64 t/\Own wi wr.heap.size g3 c3 (zdI y p t)/\w4.grownBy wi (some g3)) (fun tv _=>c.length-(intOf tv).toNat)
     case atStart=>exact⟨0,qz _,rfl,by rw[NN.out];exact aw,World.grownBy.refl _ _⟩
     case round=>
      clear aw;obtain⟨t,ht,rfl,bN,kE⟩:=hrel;by_cases bU:t<c.length
      ·have k2:w4.cell? ⟨gr,0+t,none⟩=_:=xN t (by omega);rw[Nat.zero_add] at k2;have k2:=kE.cell (a:=⟨gr,t,none⟩) k2 (fun e=>by have h:=Option.some.inj e;change gr=g3 at h;omega);have x0:=bN.cell t (by rw[NO.out];exact bU);rw[NP.out t bU] at x0;have y0:=bN.frozen t;have s1:=bN.set t (wrap64 (y.getD t 0-p.getD t 0));rw[NQ.out t bU] at s1;obtain⟨s1,s2⟩:=s1;have s3:=World.grownBy.trans' kE s2;generalize y.getD t 0=yy at*;generalize p.getD t 0=pp at*;have ew:IntKind.i64.wrap (yy-pp)=wrap64 (yy-pp):=by simp only[wrap64,IntKind.wrap_i64]
       generalize wrap64 (yy-pp)=zz at*;clear bN kE s2;go_wp2_with fail;go_roundw
       case rel=>exact⟨t+1,by omega,by go_num,s1,s3⟩
       case measure=>simp[intOf];omega
      ·obtain rfl:t=c.length:=by omega
       rw[NR.out] at bN;obtain⟨w5,rfl⟩:∃w5:World,w5=wr:=⟨_,rfl⟩;have eW:zab w5 w0.heap.size gO cO rs:=⟨cV.1.grown kE (by intro e;have:=Option.some.inj e;omega),fun r df=>(cV.2.1 r df).grown kE (by intro e;have h1:=Option.some.inj e;have h2:=sb r df;omega),cV.2.2⟩;have zj:=uc.grown kE (by intro e;have:=Option.some.inj e;omega);have bj:Below w0.heap.size w0 w5:=aG.grown kE aG.size (by intro j hj;cases hj;exact zi);have qa:(zcN y p).length=c.length:=by rw[zko];exact kV.out
       have NS:=zDH y p;have lF:=CM.out (zcN y p) rfl;have lG:=qO.out (zcN y p) rfl;clear cV uc aG kE NN NO NP NQ NR xN;generalize hz:zcN y p=z at*;clear hz;have sr:=qd qa;have Ko:=qd NS;have lF:=qd lF;have lG:=qd lG;clear qa NS CM qO;obtain⟨y0,j0⟩:∃t,t=z.getD 0 0:=⟨_,rfl⟩;obtain⟨y1,j1⟩:∃t,t=z.getD 1 0:=⟨_,rfl⟩;obtain⟨y2,j2⟩:∃t,t=z.getD 2 0:=⟨_,rfl⟩;obtain⟨y3,j3⟩:∃t,t=z.getD 3 0:=⟨_,rfl⟩;have jZ:zbo z= .agg #[.int .i64 y0,.int .i64 y1,.int .i64 y2,.int .i64 y3]:=by unfold zbo;rw[j0,j1,j2,j3]
       have aa:=zbQ g3 0 c.length c3 z w5 sr.out (by rw[sr.out];exact aR) bN.lt bN.cells;rw[jZ] at aa;have ab:=qd aa;have mL:=qd jZ;clear j0 j1 j2 j3 aa jZ;go_wp2_with fail;refine ab.out.mono ?_;rintro e w6 ⟨rfl,bJ⟩;have wT:=eW.below bJ;have CY:=zj.below bJ zj.lt;have de:=bj.trans (bJ.mono bj.size);have aO:=bN.below bJ bN.lt;clear eW zj bj bJ bN ab;have pc:zbV (w6.alloc (.cells #[.int .i64 y0,.int .i64 y1,.int .i64 y2,.int .i64 y3] 105)) bM nM c.length (zaa rs):=CY.grown (World.grownBy_alloc _ _ none) (by simp);have nw:zab (w6.alloc (.cells #[.int .i64 y0,.int .i64 y1,.int .i64 y2,.int .i64 y3] 105)) w0.heap.size gO cO rs:=wT.below ((Below.refl _ _).alloc (qr _) _);have bY:Own (w6.alloc (.cells #[.int .i64 y0,.int .i64 y1,.int .i64 y2,.int .i64 y3] 105)) w0.heap.size g3 c3 z:=(aO.mono Kn.out).alloc _;have iy:Below w0.heap.size w0 (w6.alloc (.cells #[.int .i64 y0,.int .i64 y1,.int .i64 y2,.int .i64 y3] 105)):=de.alloc de.size _;have zk:Hid ((w6.alloc (.cells #[.int .i64 y0,.int .i64 y1,.int .i64 y2,.int .i64 y3] 105)).heap[w6.heap.size]? =some (.cells #[.int .i64 y0,.int .i64 y1,.int .i64 y2,.int .i64 y3] 105 (0,0))):=heap_alloc_new _ _;have aa:=zhq g3 0 _ c3 z _ sr.out (by rw[sr.out];omega) bY.cells;have Rq:=bY.lt;have Kq:∀s∈rs,s.1≠g3:=fun s hs e=>by have:=sb s hs;omega
       clear CY wT aO de
       cases hd:(zaG z).isNone with
       |false=>
        rw[hd] at aa;have ab:=qd aa;have fD:=fQ.out (fun y hy=>by rw[lG.out hd] at hy;cases hy);have kU:=qd fD;clear aa fD lF lG hd;go_wp2_with fail;refine ab.out.mono ?_;rintro e w8 ⟨rfl,iU⟩;clear ab;go_wp2_with fail;go_roundw
        case rel=>exact⟨i+1,gO,cO,nO,rs,by omega,by go_num,rfl,an,hk,by omega,kU.out,nw.still iU,⟨nM,hnM,pc.still iU⟩,zaf iy iU⟩
        case measure=>simp[intOf];omega
       |true=>
        rw[hd] at aa;have ab:=qd aa;have fk:=lF.out hd;clear aa lF lG hd;by_cases be:z∈zaa rs
        ·have fD:=fQ.out (fun y hy=>by rw[fk] at hy;cases hy;exact be);have sc:decide (z∈zaa rs)=true:=decide_eq_true be;have kU:=qd fD;have zm:=qd sc;clear fD sc be fk;go_wp2_with fail;refine ab.out.mono ?_;rintro e w8 ⟨rfl,iU⟩;have pd:=pc.still iU;have nA:=nw.still iU;have kd:=zaf iy iU
         have sK:∀j (hj:j<4),w8.cell? ⟨w6.heap.size,j,none⟩=some (#[.int .i64 y0,.int .i64 y1,.int .i64 y2,.int .i64 y3][j]'hj):=fun j hj=>by
          obtain⟨q,rfl⟩:=iU;show(w6.alloc _).cell? _=_;simp only[World.cell?,zk.out];simp[hj]
         have e0:=sK 0 (by omega);have e1:=sK 1 (by omega);have e2:=sK 2 (by omega);have e3:=sK 3 (by omega);simp only[List.getElem_toArray,List.getElem_cons_zero,List.getElem_cons_succ] at e0 e1 e2 e3;clear sK;clear ab pc nw iy iU zk;go_wp2_with (refine zkT (by rfl) ?_;at_lookup;refine zet rfl _ _ rfl bM nM c.length (zaa rs) z sr.out Ko.out pd rfl (by rw[mL.out];rfl) true zm.out ?_);go_roundw
         case rel=>exact⟨i+1,gO,cO,nO,rs,by omega,by go_num,rfl,an,hk,by omega,kU.out,nA,⟨nM,hnM,pd⟩,kd⟩
         case measure=>simp[intOf];omega
        ·have sa:=dS.out z fk be;have sc:decide (z∈zaa rs)=false:=decide_eq_false be;have yX:=qd sa;have zm:=qd sc;clear sa sc be fk;go_wp2_with fail;refine ab.out.mono ?_;rintro e w8 ⟨rfl,iU⟩;have pd:=pc.still iU;have nA:=nw.still iU;have kd:=zaf iy iU;have cI:=bY.still iU;have Rr:=pd.lt
         have sK:∀j (hj:j<4),w8.cell? ⟨w6.heap.size,j,none⟩=some (#[.int .i64 y0,.int .i64 y1,.int .i64 y2,.int .i64 y3][j]'hj):=fun j hj=>by
          obtain⟨q,rfl⟩:=iU;show(w6.alloc _).cell? _=_;simp only[World.cell?,zk.out];simp[hj]
         have e0:=sK 0 (by omega);have e1:=sK 1 (by omega);have e2:=sK 2 (by omega);have e3:=sK 3 (by omega);simp only[List.getElem_toArray,List.getElem_cons_zero,List.getElem_cons_succ] at e0 e1 e2 e3;clear sK;clear ab pc nw iy iU bY
         go_wp2_with (first
          |(refine zkT (by rfl) ?_;at_lookup;refine zet rfl _ _ rfl bM nM c.length (zaa rs) z sr.out Ko.out pd rfl (by rw[mL.out];rfl) false zm.out ?_)
          |(at_mapUpdate;refine zjR rfl _ _ _ rfl bM nM c.length (zaa rs) z sr.out aR Ko.out pd (by omega) rfl (by rw[mL.out];rfl) rfl ?_))
         intro w9 Da js;have dG:zab w9 w0.heap.size gO cO rs:=⟨nA.1.grown js (by intro e;exact pd.neV nA.1 (Option.some.inj e).symm),fun r df=>(nA.2.1 r df).grown js (by intro e;exact pd.neOwn (nA.2.1 r df) (Option.some.inj e).symm),nA.2.2⟩;have gX:Own w9 w0.heap.size g3 c3 z:=cI.grown js (by intro e;exact pd.neOwn cI (Option.some.inj e).symm);have bk:Below w0.heap.size w0 w9:=kd.grown js kd.size (by intro j hj;cases hj;exact ub);clear pd nA cI kd js zk e0 e1 e2 e3;go_wp2_with (at_builtin;refine zao rfl _ _ rfl w0.heap.size gO cO nO w9.heap.size rs (g3,c3,z) _ an.out (by unfold zah;rw[sr.out]) rfl dG gX Kq rfl rfl (by omega) ?_);intro g10 c10 w10 Kr zN DN;have Ks:=Da.grown zN (by intro e;exact Da.neV dG.1 (Option.some.inj e));have Kt:Below w0.heap.size w0 w10:=bk.grown zN bk.size (by intro j hj;cases hj;exact dG.base);clear dG Da bk gX zN DN;go_wp2_with fail;go_roundw
         case rel=>
          refine⟨i+1,g10,c10,nO+1,rs++[(g3,c3,z)],by omega,by go_num,rfl,?_,by omega,by omega,?_,Kr,⟨nM+1,by omega,by rw[zcZ];exact Ks⟩,Kt⟩
          ·show _=_;rw[qA,an.out];rfl
          ·show BSt _ _ _ _ _ _;rw[zcZ];exact yX.out
         case measure=>simp[intOf];omega
    ·obtain rfl:i=P:=by omega
     have fk:=aL.out.next (by rw[zac,an.out];exact hk);by_cases kC:200<nO
     ·have aJ:=fk.big (by rw[zac,an.out];exact kC)
      have ix:M=[]/\b=false:=by
       rcases hM with⟨h1,h2,-⟩|⟨-,h1,h2⟩
       ·exact absurd ⟨M,h1,h2⟩ aJ
       ·exact⟨h1,h2⟩
      obtain⟨rfl,rfl⟩:=ix;have zn:(200:Int)<(nO:Int):=by omega
      have gJ:=AY.out.trans (hb.mono ra);clear fk aJ;go_wp2_with fail;go_ret2;exact zaj.mk' _ _ [] rfl rfl (zab.empty gJ.size) (gJ.alloc gJ.size _)
     ·have zn:¬(200:Int)<(nO:Int):=by omega
      have nt:=qd fk;clear fk;go_wp2_with fail;go_roundw
      case rel=>exact⟨k+1,gO,cO,nO,rs,by go_num,rfl,an,by omega,by omega,nt.out,hO,⟨nM,hnM,hS⟩,hb⟩
      case measure=>simp[intOf];omega
  ·obtain rfl:k=nO:=by omega
   have aE:∀x,x∈zaa rs↔Rch (nxD c) P v x:=by
    refine BSt.all ?_;rw[zac,an.out];exact aL.out
   have ez:=aL.out.nodup
   have fx:∀r∈rs,r.2.2.length<=1048576:=by
    intro r df;have:=(lE.out _ ((aE r.2.2).1 (List.mem_map.2 ⟨r,df,rfl⟩))).len;omega
   have aa:=znr 83 zbc zpp zhJ (enters_of Tryz.func83 (by kernel_rfl) rfl) w0.heap.size gO cO k rs wo an.out (by rw[an.out];omega) fx hO;have ab:=qd aa;have gY:=qd aE;have ud:=qd ez;clear aa aE ez fx;go_wp2_with fail;refine ab.out.mono ?_;rintro e w4 ⟨rfl,rs4,cZ,fy,cV,aT⟩;have aG:Below w0.heap.size w0 w4:=hb.grown aT hb.size (by intro j hj;cases hj;exact hO.base);have dV:rs4.length=k:=by rw[cZ.length_eq];exact an.out
   have qZ:(zaa rs4).Perm (zaa rs):=cZ.map _
   have lH:zer (nxD c) P v (zaa rs4):=by
    have hm:∀x,x∈zaa rs4↔Rch (nxD c) P v x:=fun x=>qZ.mem_iff.trans (gY.out x)
    exact⟨zhK (n:=c.length) (fy.imp (by intro a b h;omega)) (qZ.nodup_iff.2 ud.out) (fun x hx=>(lE.out x ((hm x).1 hx)).len),hm⟩
   have ix:M=zaa rs4/\b=true:=by
    rcases hM with⟨h1,h2,h3⟩|⟨h0,-,-⟩
    ·exact⟨h1.uniq lH,h3⟩
    ·exact absurd ⟨_,lH,by rw[zac,dV];omega⟩ h0
   obtain⟨rfl,rfl⟩:=ix;have yK:=qd dV;clear dV qZ lH hM fy cZ hO hb hS ab aT;go_wp2_with fail;go_ret2;exact zaj.mk' gO cO rs4 yK.out rfl (cV.mono ra) (AY.out.trans (aG.mono ra))
theorem zga(gc oc n cc g o m cv:Nat)(c:LL)(v:LI)(w:World)(hn:c.length=n)(hm:v.length=m)(hx:c.length<=1048576)(eP:v.length<=1048576)(an:∀j,j<c.length->(c.getD j []).length<=1048576)
 (aJ:(zaN c&&decide (Sml c.length v))=false) (ah:gc<w.heap.size) (hg:g<w.heap.size) (hr:zal w gc oc c) (hv:zag w g o v):
 Calls Tryz.prog 117 #[(qS (some ⟨gc,oc,none⟩) n cc),(qS (some ⟨g,o,none⟩) m cv)] w (zaj w [] false):=by
 have aW:=zeB gc oc n cc c w hn hx an ah hr
 have bZ:∀W,zag W g o v->Calls Tryz.prog 39 #[(qS (some ⟨gc,oc,none⟩) n cc),(qS (some ⟨g,o,none⟩) m cv)] W (zap W (.bool (decide (Sml c.length v)))):=fun W hW=>
  zdn gc oc n cc g o m cv c v W hn hm hx eP hW
 cases hf:zaN c with
 |false=>
  rw[hf] at aW;have jC:=qd aW;clear aW bZ aJ hf
  go_enter Tryz.func117,Tryz.ntmps117
  go_wp2_with fail;refine jC.out.mono ?_;rintro e w0 ⟨gR,cR,rsR,rfl,-,-,aN⟩;clear jC;go_wp2_with fail;go_ret2;exact zaj.mk' _ _ [] rfl rfl (zab.empty aN.size) (aN.alloc aN.size _)
 |true=>
  rw[hf,Bool.true_and] at aJ;rw[aJ] at bZ;rw[hf] at aW;have jC:=qd aW;have eH:=qd bZ;have Hv:=qd hv;clear aW bZ aJ hf hv
  go_enter Tryz.func117,Tryz.ntmps117
  go_wp2_with fail;refine jC.out.mono ?_;rintro e w0 ⟨gR,cR,rsR,rfl,-,-,aN⟩;have Hc:=qd (eH.out w0 (Hv.out.below aN hg));clear jC eH;go_wp2_with fail;refine Hc.out.mono ?_;rintro e w1 ⟨rfl,bh⟩;have ad:=zaf aN bh;clear Hc aN bh;go_wp2_with fail;go_ret2;exact zaj.mk' _ _ [] rfl rfl (zab.empty ad.size) (ad.alloc ad.size _)
end
section
open Go.RowKit Game
variable {c:LL}
theorem zyB{A:Mat}{n:Nat}(hA:Car A n){l l':List Nat}{x d d':Vec}(hd:Dom n d)(NT:Dom n d')(h:zaF A n l x d)(h':zaF A n l' x d'):d=d':=by
 obtain⟨l2,h1,-,-⟩:=h.any hA hd h'.1
 have h2:zaF A n l2 d' d:=by
  have e:=h1.2;rw[ziE,h'.2] at e;refine⟨?_,e⟩;have hl:=h1.1;have hx:=h'.2;clear h h1 e hd NT h';subst hx
  induction l' generalizing x with
  |nil=>exact hl
  |cons i l' ih=>exact ih hl.2.2
 have e:=Dom.stuck (A:=A) (d':=d) NT h2;subst e;exact h2.2.symm
theorem zIG{t t' x:LI}(hD:zbY c t)(Rs:zbY c t')(hT:Dom c.length (toV t))(NU:Dom c.length (toV t'))(hx:zbv c t x)(tS:zbv c t' x):t=t':=by
 obtain⟨hl,w,hw,e⟩:=hx;obtain⟨-,w',ic,e'⟩:=tS;obtain⟨l,hp,-⟩:=zdg (zbS hD.hC) hT w hw;obtain⟨l',uE,-⟩:=zdg (zbS hD.hC) NU w' ic;rw[<-e] at hp;rw[<-e'] at uE;exact zgC (by rw[hD.len,Rs.len]) (zyB (zbS hD.hC) hT NU hp uE)
def zhi(c:LL)(L M:LL):Prop:=Game.Desc M/\∀x,x∈M↔∃t∈L,zbv c t x
def zlH(c:LL)(L:LL):Prop:=¬∃M,zhi c L M/\M.length<=200
def zJG(c:LL)(L M:LL)(b:Bool):Prop:=(zhi c L M/\M.length<=200/\b=true)∨(zlH c L/\M=[]/\b=false)
theorem zhi.uniq{L M M':LL}(h:zhi c L M)(h':zhi c L M'):M=M':=h.1.uniq h'.1 fun x=>(h.2 x).trans (h'.2 x).symm
theorem zIH(c L:LL):∃M b,zJG c L M b:=by
 by_cases h:∃M,zhi c L M/\M.length<=200
 ·obtain⟨M,h1,h2⟩:=h;exact⟨M,true,.inl ⟨h1,h2,rfl⟩⟩
 ·exact⟨[],false,.inr ⟨h,rfl,rfl⟩⟩
structure zeC(c L:LL)(k:Nat)(Q:LL):Prop where
 nodup:Q.Nodup
 mem:∀x,x∈Q↔∃t∈L.take k,zbv c t x
 le:k<=L.length
section
variable {L Q O:LL} {k:Nat}
theorem zeC.start(c L:LL):zeC c L 0 []:=⟨List.nodup_nil,by simp,qz _⟩
theorem zlI{L:LL}(hk:k<L.length):L.take (k+1)=L.take k++[L.getD k []]:=by
 have e:L.getD k []=L[k]:=by simp[List.getD,hk]
 rw[e];exact qT hk
theorem zeC.apart(h:zeC c L k Q)(hL:L.Nodup)(hD:∀t∈L,zbY c t/\Dom c.length (toV t))(hk:k<L.length)(hO:zfv c (L.getD k []) O):∀x∈Q,x ∉ O:=by
 intro x hx ho;obtain⟨t,ht,Bh⟩:=(h.mem x).1 hx;have hm:L.getD k []∈L:=by simp[List.getD,hk]
 have e:=zIG (hD t (List.mem_of_mem_take ht)).1 (hD _ hm).1 (hD t (List.mem_of_mem_take ht)).2 (hD _ hm).2 Bh ((hO.2 x).1 ho);have hn:=hL.sublist (List.take_sublist (k+1) L);rw[zlI hk] at hn;exact(List.nodup_append.1 hn).2.2 t ht (L.getD k []) (by simp) e
theorem zeC.add(h:zeC c L k Q)(hk:k<L.length)(hO:zfv c (L.getD k []) O){Q':LL}(hn:Q'.Nodup)(hQ:∀x,x∈Q'↔x∈Q∨x∈O):zeC c L (k+1) Q':=by
 refine⟨hn,fun x=>?_,hk⟩;rw[hQ x,h.mem x,hO.2 x,zlI hk];constructor
 ·rintro (⟨t,ht,hx⟩|hx)
  ·exact⟨t,by simp[ht],hx⟩
  ·exact⟨_,by simp,hx⟩
 ·rintro ⟨t,ht,hx⟩
  rcases List.mem_append.1 ht with h1|h1
  ·exact .inl ⟨t,h1,hx⟩
  ·rw[List.mem_singleton] at h1;subst h1;exact .inr hx
theorem zeC.app(h:zeC c L k Q)(hL:L.Nodup)(hD:∀t∈L,zbY c t/\Dom c.length (toV t))(hk:k<L.length)(hO:zfv c (L.getD k []) O):zeC c L (k+1) (Q++O):=
 h.add hk hO (List.nodup_append.2 ⟨h.nodup,hO.1.nodup,fun a ha b hb e=>h.apart hL hD hk hO a ha (by rw[e];exact hb)⟩) fun x=>List.mem_append
theorem zhi.has(h:zhi c L O)(hs:zeC c L k Q):∀x∈Q,x∈O:=fun x hx=>by
 obtain⟨t,ht,Bh⟩:=(hs.mem x).1 hx;exact(h.2 x).2 ⟨t,List.mem_of_mem_take ht,Bh⟩
theorem zsf{t:LI}(ht:t∈L)(aJ:zlq c t):zlH c L:=by
 rintro ⟨M,hM,hl⟩;have pH:∀x,Decidable (zbv c t x):=fun x=>Classical.propDecidable _
 refine aJ ⟨M.filter fun x=>decide (zbv c t x),⟨hM.1.sublist List.filter_sublist,fun x=>?_⟩,qt (List.length_filter_le _ _) hl⟩;rw[List.mem_filter,decide_eq_true_eq];exact⟨fun h=>h.2,fun h=>⟨(hM.2 x).2 ⟨t,ht,h⟩,h⟩⟩
theorem zeC.many(h:zeC c L k Q)(hl:200<Q.length):zlH c L:=by
 rintro ⟨M,hM,h2⟩;have:=zhB h.nodup hM.1.nodup (hM.has h);omega
theorem zeC.done(h:zeC c L L.length Q):∀x,x∈Q↔∃t∈L,zbv c t x:=by
 intro x;rw[h.mem x,List.take_length]
theorem zeC.all(h:zeC c L L.length Q){M:LL}(hd:Game.Desc M)(hm:∀x,x∈M↔x∈Q):zhi c L M:=⟨hd,fun x=>(hm x).trans (h.done x)⟩
end
def zfX(c:LL)(W:LL)(out:List Wt):List Wt:=W.map fun x=>(x,zaC out (zbd c x))
end
section
open Go.RowKit Game
open Go.Sort (SWO)
def WtM(c:LL)(v:LI)(M:LL)(b:Bool):Prop:=
 ∃L bL,zxS (nxD c) (zaq c).length v L bL/\((bL=true/\zJG c L M b)∨(bL=false/\M=[]/\b=false))
theorem zJH(c:LL)(v:LI):∃M b,WtM c v M b:=by
 obtain⟨L,bL,h⟩:=znP (nxD c) (zaq c).length v
 cases bL with
 |true=>
  obtain⟨M,b,h2⟩:=zIH c L;exact⟨M,b,L,true,h,.inl ⟨rfl,h2⟩⟩
 |false=>exact⟨[],false,L,false,h,.inr ⟨rfl,rfl,rfl⟩⟩
theorem zxr{c:LL}{v:LI}(hS:zbi c v)(hP:zbI c){L:LL}(hL:zer (nxD c) (zaq c).length v L):L.Nodup/\∀t∈L,zbY c t/\Dom c.length (toV t):=
 ⟨hL.1.nodup,fun t ht=>by have hb:=zbw.rch hS hP ((hL.2 t).1 ht);exact⟨hb.domW hS,hb.dom⟩⟩
theorem zfO{L:LL}{k:Nat}(hk:k<L.length):L.getD k []∈L:=by simp[List.getD,hk]
theorem zrr{O A:LL}{t:Nat}(ht:t<O.length):(O.take (t+1)).foldl zcD A=zcD ((O.take t).foldl zcD A) (O.getD t []):=by
 rw[zlI ht,List.foldl_append];rfl
theorem zov(gc oc n cc g o m cv:Nat)(c:LL)(v:LI)(M:LL)(b:Bool)(w:World)(hn:c.length=n)(hm:v.length=m)(hS:zbi c v)(hP:zbI c)(hM:WtM c v M b)
 (ah:gc<w.heap.size) (hg:g<w.heap.size) (hr:zal w gc oc c) (hv:zag w g o v):
 Calls Tryz.prog 73 #[(qS (some ⟨gc,oc,none⟩) n cc),(qS (some ⟨g,o,none⟩) m cv)] w (zaj w M b):=by
 obtain⟨L,bL,hL,hM⟩:=hM;have aa:=zgJ gc oc n cc g o m cv c v L bL w hn hm hS hP hL ah hg hr hv;subst hn;subst hm;have aR:=hS.hC.2.1
 rcases hM with⟨rfl,hM⟩|⟨rfl,rfl,rfl⟩
 ·have iB:zer (nxD c) (zaq c).length v L/\L.length<=200:=by
   rcases hL with⟨h1,h2,-⟩|⟨-,-,h⟩
   ·exact⟨h1,h2⟩
   ·cases h
  obtain⟨ez,hD⟩:=zxr hS hP iB.1;have DO:=iB.2;have ab:=qd aa;have HD:=qd hD;have ud:=qd ez;clear aa hL iB hD hS hP ez
  go_enter Tryz.func73,Tryz.ntmps73
  go_wp2_with fail;refine ab.out.mono ?_;rintro e w1 ⟨gL,cL,rsL,rfl,pi,nE,ad⟩;have DR:=nE.rows2;have hgL:=nE.lt;rw[pi] at DR;clear ab nE pi;go_wp2_with fail;have lp:w.heap.size<=w1.heap.size:=ad.size;have su:=qd ad;have sL:gc<w1.heap.size:=qL ah lp;have nH:=hr.below ad ah;clear ad hr;go_loopw [8,25] (fun ov kv wr=>∃(k gO cO nO:Nat) (rs:List RowRef),k<=L.length/\kv= .int .i64 k/\ov=(qS (some ⟨gO,0,none⟩) nO cO)/\Hid (rs.length=nO)/\nO<=200/\Hid (zeC c L k (zaa rs))/\zab wr w1.heap.size gO cO rs/\Below w1.heap.size w1 wr) (fun _ kv _=>L.length-(intOf kv).toNat)
  case atStart=>exact⟨0,w1.heap.size,0,0,[],qz _,rfl,rfl,rfl,by omega,zeC.start c L,zab.empty (qr _),(Below.refl _ _).alloc (qr _) _⟩
  case round=>
   obtain⟨k,gO,cO,nO,rs,hk,rfl,rfl,an,zh,aL,hO,hb⟩:=hrel;by_cases ac:k<L.length
   ·obtain⟨gj,oj,cj,q1,q2,q3,q4⟩:=(DR.below hb hgL) k ac;have zO:=HD.out _ (zfO ac);obtain⟨O,bO,jE⟩:=zwZ c (L.getD k []);have aa:=zpq gc oc _ cc gj oj _ cj c (L.getD k []) O bO wr rfl rfl zO.1 jE (qL sL hb.size) q3 (nH.below hb sL) q4;have am:=zO.1.len;have sM:=fun h=>aL.out.app ud.out HD.out ac (O:=O) h
    have DT:=fun(h:zlq c (L.getD k []))=>zsf (c:=c) (L:=L) (zfO ac) h
    rw[Nat.zero_add] at q1;generalize L.getD k []=t at*;rw[am] at q1 aa;have ab:=qd aa;have oE:=qd sM;have sN:=qd DT;clear aa sM DT am q2 q4 zO;have Rt:=hO.lt
    cases bO with
    |false=>
     have aJ:zlH c L:=by
      rcases jE with⟨-,-,h⟩|⟨h,-,-⟩
      ·cases h
      ·exact sN.out h
     have ix:M=[]/\b=false:=by
      rcases hM with⟨h1,h2,-⟩|⟨-,h1,h2⟩
      ·exact absurd ⟨M,h1,h2⟩ aJ
      ·exact⟨h1,h2⟩
     obtain⟨rfl,rfl⟩:=ix;clear aJ oE sN jE hM;go_wp2_with fail;refine ab.out.mono ?_;rintro e w3 ⟨g3,c3,rs3,rfl,-,-,ag⟩;have ap:=su.out.trans ((hb.trans (ag.mono hb.size)).mono lp);clear ab;go_wp2_with fail;go_ret2;exact zaj.mk' _ _ [] rfl rfl (zab.empty ap.size) (ap.alloc ap.size _)
    |true=>
     have vE:zfv c t O/\O.length<=200:=by
      rcases jE with⟨h1,h2,-⟩|⟨-,-,h⟩
      ·exact⟨h1,h2⟩
      ·cases h
     have DU:=oE.out vE.1;have sO:=vE.2;have DV:=qd DU;clear oE sN jE DU vE;go_wp2_with fail;refine ab.out.mono ?_;rintro e w3 ⟨g3,c3,rs3,rfl,eE,bg,ag⟩;obtain⟨n3,lU⟩:∃n3,O.length=n3:=⟨_,rfl⟩;have ol:rs3.length=n3:=by rw[<-lU,<-eE,zac]
     rw[lU];rw[lU] at sO;have ap:=hb.trans (ag.mono hb.size);have DW:=bg.mono hb.size;have DX:=hO.below ag
     have ao:∀r∈rs,∀s∈rs3,r.1≠s.1:=fun r df s hs e=>by
      have h1:=(hO.2.1 r df).lt;have h2:=(bg.2.1 s hs).base;omega
     have Bq:=qd ol;have zd:=qd eE;have BB:=qd lU;clear ab ol eE hO bg hb ag lU;by_cases kC:200<nO+n3
     ·have aJ:zlH c L:=DV.out.many (by rw[qA,zac,an.out,BB.out];exact kC)
      have ix:M=[]/\b=false:=by
       rcases hM with⟨h1,h2,-⟩|⟨-,h1,h2⟩
       ·exact absurd ⟨M,h1,h2⟩ aJ
       ·exact⟨h1,h2⟩
      obtain⟨rfl,rfl⟩:=ix;have zn:(200:Int)<(nO:Int)+(n3:Int):=by omega
      have gJ:=su.out.trans (ap.mono lp);clear aJ hM;go_wp2_with fail;go_ret2;exact zaj.mk' _ _ [] rfl rfl (zab.empty gJ.size) (gJ.alloc gJ.size _)
     ·have zn:¬(200:Int)<(nO:Int)+(n3:Int):=by omega
      go_wp2_with (at_builtin;refine zih rfl _ _ rfl w1.heap.size gO cO nO g3 c3 n3 rs rs3 w3 an.out Bq.out DX DW ao rfl rfl (by omega) ?_);intro g4 c4 w4 cV aT bq;have aG:=ap.grown aT ap.size (by intro j hj;cases hj;exact DX.base);have sP:Hid (zaa (rs++rs3)=zaa rs++O):=by show _=_;rw[<-zd.out];simp[zaa]
      clear DX DW aT bq ap;go_wp2_with fail;go_roundw
      case rel=>exact⟨k+1,g4,c4,nO+n3,rs++rs3,by omega,by go_num,rfl,by show _=_;rw[qA,an.out,Bq.out],by omega,by rw[sP.out];exact DV.out,cV,aG⟩
      case measure=>simp[intOf];omega
   ·obtain rfl:k=L.length:=by omega
    have iR:=aL.out.done
    have fx:∀r∈rs,r.2.2.length<=1048576:=by
     intro r df;obtain⟨t,ht,hx⟩:=(iR r.2.2).1 (List.mem_map.2 ⟨r,df,rfl⟩);have:=hx.1;omega
    have aa:=znr 83 zbc zpp zhJ (enters_of Tryz.func83 (by kernel_rfl) rfl) w1.heap.size gO cO nO rs wr an.out (by rw[an.out];omega) fx hO;have ab:=qd aa;have xp:=qd iR;clear aa iR fx;go_wp2_with fail;refine ab.out.mono ?_;rintro e w4 ⟨rfl,rs4,cZ,fy,cV,aT⟩;have aG:Below w1.heap.size w1 w4:=hb.grown aT hb.size (by intro j hj;cases hj;exact hO.base);have dV:rs4.length=nO:=by rw[cZ.length_eq];exact an.out
    have qZ:(zaa rs4).Perm (zaa rs):=cZ.map _
    have aE:zhi c L (zaa rs4):=aL.out.all (zhK (n:=c.length) (fy.imp (by intro a b h;omega)) (qZ.nodup_iff.2 aL.out.nodup) (fun x hx=>by
     obtain⟨t,ht,hx⟩:=(xp.out x).1 (qZ.mem_iff.1 hx);exact hx.1)) fun x=>qZ.mem_iff
    have ix:M=zaa rs4/\b=true:=by
     rcases hM with⟨h1,h2,h3⟩|⟨h0,-,-⟩
     ·exact⟨h1.uniq aE,h3⟩
     ·exact absurd ⟨_,aE,by rw[zac,dV];omega⟩ h0
    obtain⟨rfl,rfl⟩:=ix;have yK:=qd dV;clear dV qZ aE hM fy cZ hO hb ab aT aL xp;go_wp2_with fail;go_ret2;exact zaj.mk' gO cO rs4 yK.out rfl (cV.mono lp) (su.out.trans (aG.mono lp))
 ·have ab:=qd aa;clear aa hL hS hP
  go_enter Tryz.func73,Tryz.ntmps73
  go_wp2_with fail;refine ab.out.mono ?_;rintro e w3 ⟨g3,c3,rs3,rfl,-,-,ag⟩;clear ab;go_wp2_with fail;go_ret2;exact zaj.mk' _ _ [] rfl rfl (zab.empty ag.size) (ag.alloc ag.size _)
theorem zow(gc oc n cc g o m cv:Nat)(c:LL)(v:LI)(M:LL)(b:Bool)(w:World)(hn:c.length=n)(hm:v.length=m)(aS:m<=cv)(hS:zbi c v)(hP:zbI c)(hM:WtM c v M b)
 (ah:gc<w.heap.size) (hg:g<w.heap.size) (hr:zal w gc oc c) (hv:zag w g o v):
 Calls Tryz.prog 87 #[(qS (some ⟨gc,oc,none⟩) n cc),(qS (some ⟨g,o,none⟩) m cv)] w (zaj w M b):=by
 obtain⟨L,bL,hL,hM⟩:=hM;have aa:=zgI gc oc n cc g o m cv c v L bL w hn hm aS hS hP hL ah hg hr hv;subst hn;subst hm;have aR:=hS.hC.2.1
 rcases hM with⟨rfl,hM⟩|⟨rfl,rfl,rfl⟩
 ·have iB:zer (nxD c) (zaq c).length v L/\L.length<=200:=by
   rcases hL with⟨h1,h2,-⟩|⟨-,-,h⟩
   ·exact⟨h1,h2⟩
   ·cases h
  obtain⟨ez,hD⟩:=zxr hS hP iB.1;have DO:=iB.2;have ab:=qd aa;have HD:=qd hD;have ud:=qd ez;clear aa hL iB hD hS hP ez
  go_enter Tryz.func87,Tryz.ntmps87
  go_wp2_with fail;refine ab.out.mono ?_;rintro e w1 ⟨gL,cL,rsL,rfl,pi,nE,ad⟩;have DR:=nE.rows2;have hgL:=nE.lt;rw[pi] at DR;clear ab nE pi;go_wp2_with fail;have lp:w.heap.size<=w1.heap.size:=ad.size;have su:=qd ad;have sL:gc<w1.heap.size:=qL ah lp;have nH:=hr.below ad ah;clear ad hr;go_loopw [8,9] (fun ov kv wr=>∃(k gO cO nO:Nat) (rs:List RowRef),k<=L.length/\kv= .int .i64 k/\ov=(qS (some ⟨gO,0,none⟩) nO cO)/\Hid (rs.length=nO)/\nO<=200/\Hid (zeC c L k (zaa rs))/\Hid (Game.Desc (zaa rs))/\zab wr w1.heap.size gO cO rs/\Below w1.heap.size w1 wr) (fun _ kv _=>L.length-(intOf kv).toNat)
  case atStart=>exact⟨0,w1.heap.size,0,0,[],qz _,rfl,rfl,rfl,by omega,zeC.start c L,List.Pairwise.nil,zab.empty (qr _),(Below.refl _ _).alloc (qr _) _⟩
  case round=>
   obtain⟨k,gO,cO,nO,rs,hk,rfl,rfl,an,zh,aL,fb,hO,hb⟩:=hrel;by_cases ac:k<L.length
   ·obtain⟨gj,oj,cj,q1,q2,q3,q4⟩:=(DR.below hb hgL) k ac;have zO:=HD.out _ (zfO ac);obtain⟨O,bO,jE⟩:=zwZ c (L.getD k []);have aa:=zpo gc oc _ cc gj oj _ cj c (L.getD k []) O bO wr rfl rfl zO.1 jE (qL sL hb.size) q3 (nH.below hb sL) q4;have am:=zO.1.len;have sM:=fun h=>aL.out.app ud.out HD.out ac (O:=O) h
    have fw:=fun(h:zfv c (L.getD k []) O) Q'=>aL.out.add ac h (Q':=Q')
    have DT:=fun(h:zlq c (L.getD k []))=>zsf (c:=c) (L:=L) (zfO ac) h
    rw[Nat.zero_add] at q1;generalize L.getD k []=t at*;rw[am] at q1 aa;have ab:=qd aa;have oE:=qd sM;have sN:=qd DT;have dS:=qd fw;clear aa sM DT fw am q2 q4 zO
    cases bO with
    |false=>
     have aJ:zlH c L:=by
      rcases jE with⟨-,-,h⟩|⟨h,-,-⟩
      ·cases h
      ·exact sN.out h
     have ix:M=[]/\b=false:=by
      rcases hM with⟨h1,h2,-⟩|⟨-,h1,h2⟩
      ·exact absurd ⟨M,h1,h2⟩ aJ
      ·exact⟨h1,h2⟩
     obtain⟨rfl,rfl⟩:=ix;clear aJ oE sN dS jE hM;go_wp2_with fail;refine ab.out.mono ?_;rintro e w3 ⟨g3,c3,rs3,rfl,-,-,ag⟩;have ap:=su.out.trans ((hb.trans (ag.mono hb.size)).mono lp);clear ab;go_wp2_with fail;go_ret2;exact zaj.mk' _ _ [] rfl rfl (zab.empty ap.size) (ap.alloc ap.size _)
    |true=>
     have vE:zfv c t O/\O.length<=200:=by
      rcases jE with⟨h1,h2,-⟩|⟨-,-,h⟩
      ·exact⟨h1,h2⟩
      ·cases h
     have DU:=oE.out vE.1;have sO:=vE.2;have DV:=qd DU;have Ru:=qd (fun Q'=>dS.out vE.1 Q');have eo:=qd (fun x (hx:x∈O)=>((vE.1.2 x).1 hx).1);clear oE sN dS jE DU vE;go_wp2_with fail;refine ab.out.mono ?_;rintro e w3 ⟨g3,c3,rs3,rfl,eE,bg,ag⟩;obtain⟨n3,lU⟩:∃n3,O.length=n3:=⟨_,rfl⟩;rw[lU];rw[lU] at sO;have ap:=hb.trans (ag.mono hb.size);have qV:=bg.rows2;rw[eE] at qV;have aK:=bg.lt;have DX:=hO.below ag;have BB:=qd lU;clear ab eE hO bg hb ag lU;by_cases kC:200<nO+n3
     ·have aJ:zlH c L:=DV.out.many (by rw[qA,zac,an.out,BB.out];exact kC)
      have ix:M=[]/\b=false:=by
       rcases hM with⟨h1,h2,-⟩|⟨-,h1,h2⟩
       ·exact absurd ⟨M,h1,h2⟩ aJ
       ·exact⟨h1,h2⟩
      obtain⟨rfl,rfl⟩:=ix;have zn:(200:Int)<(nO:Int)+(n3:Int):=by omega
      have gJ:=su.out.trans (ap.mono lp);clear aJ hM;go_wp2_with fail;go_ret2;exact zaj.mk' _ _ [] rfl rfl (zab.empty gJ.size) (gJ.alloc gJ.size _)
     ·have zn:¬(200:Int)<(nO:Int)+(n3:Int):=by omega
      have AN:Hid (∀x∈zaa rs,x.length=c.length):=qd (fun x hx=>by
       obtain⟨t,ht,hx⟩:=(aL.out.mem x).1 hx;exact hx.1)
      go_wp2_with fail;go_loopw [8,12] (fun ov tv wi=>∃(t gP cP nP:Nat) (rp:List RowRef),t<=n3/\tv= .int .i64 t/\ov=(qS (some ⟨gP,0,none⟩) nP cP)/\Hid (rp.length=nP)/\nP<=nO+t/\Hid (zaa rp=(O.take t).foldl zcD (zaa rs))/\zab wi w1.heap.size gP cP rp/\Below w3.heap.size w3 wi) (fun _ tv _=>n3-(intOf tv).toNat)
      case atStart=>exact⟨0,gO,cO,nO,rs,qz _,rfl,rfl,an,by omega,rfl,DX,Below.refl _ _⟩
      case round=>
       obtain⟨t,gP,cP,nP,rp,ht,rfl,rfl,bP,yY,fj,hP,bX⟩:=hrel;by_cases bU:t<n3
       ·have Ku:t<O.length:=by rw[BB.out];exact bU
        have bQ:=zrr (A:=zaa rs) Ku;obtain⟨gy,oy,cy,y1,y2,y3,y5⟩:=(qV.below bX aK) t Ku;have gZ:=eo.out _ (zfO Ku)
        have bI:∀r∈rp,r.2.2.length=(O.getD t []).length:=by
         intro r df;have h1:r.2.2∈zaa rp:=List.mem_map.2 ⟨r,df,rfl⟩;rw[fj.out] at h1;rw[gZ]
         rcases((zeq _ _ fb.out).2 _).1 h1 with h|h
         ·exact eo.out _ (List.mem_of_mem_take h)
         ·exact AN.out _ h
        generalize O.getD t []=y at*;rw[gZ,Nat.zero_add] at y1;have aa:=zhe w1.heap.size gP cP nP gy oy c.length cy rp y wr bP.out gZ (by have:=bP.out;omega) (by omega) bI hP y3 y5;rw[fj.out,<-bQ] at aa;have ab:=qd aa
        have iX:((O.take (t+1)).foldl zcD (zaa rs)).length<=nP+1:=by
         rw[bQ];have:=zkn ((O.take t).foldl zcD (zaa rs)) y;rw[<-fj.out,zac,bP.out] at this;rw[<-fj.out];omega
        have wS:=qd iX;clear aa gZ bQ iX bI hP y2 y5;go_wp2_with fail;refine ab.out.mono ?_;rintro e w5 ⟨g5,c5,rp5,rfl,fK,Rv,-,aQ⟩;obtain⟨n5,Kv⟩:∃n5,((O.take (t+1)).foldl zcD (zaa rs)).length=n5:=⟨_,rfl⟩;have lw:rp5.length=n5:=by rw[<-Kv,<-fK,zac]
        rw[Kv] at wS ⊢;have Rx:=wS.out;have zq:=qd fK;have Dd:=qd lw;clear Kv fK lw ab;go_wp2_with fail;go_roundw
        case rel=>exact⟨t+1,g5,c5,n5,rp5,by omega,by go_num,rfl,Dd.out,by omega,zq.out,Rv,bX.trans (aQ.mono bX.size)⟩
        case measure=>simp[intOf];omega
       ·obtain rfl:t=n3:=by omega
        have he:O.take t=O:=qF (by rw[BB.out];exact qr _);rw[he] at fj;have tW:=zeq O (zaa rs) fb.out;rw[<-fj.out] at tW;have db:=Ru.out (zaa rp) tW.1.nodup fun x=>(tW.2 x).trans or_comm
        have am:nP<=200:=by
         have h1:=zhB (Q:=zaa rp) (L:=zaa rs++O) tW.1.nodup DV.out.nodup fun x hx=>List.mem_append.2 ((tW.2 x).1 hx).symm
         rw[qA,zac,zac,bP.out,an.out,BB.out] at h1;omega
        have fN:=qd db;have Hd:=qd tW.1;clear db tW fj he;go_wp2_with fail;go_roundw
        case rel=>exact⟨k+1,gP,cP,nP,rp,by omega,by go_num,rfl,bP,am,fN.out,Hd.out,hP,ap.trans (bX.mono ap.size)⟩
        case measure=>simp[intOf];omega
   ·obtain rfl:k=L.length:=by omega
    have aE:zhi c L (zaa rs):=aL.out.all fb.out fun x=>Iff.rfl
    have ix:M=zaa rs/\b=true:=by
     rcases hM with⟨h1,h2,h3⟩|⟨h0,-,-⟩
     ·exact⟨h1.uniq aE,h3⟩
     ·exact absurd ⟨_,aE,by rw[zac,an.out];omega⟩ h0
    obtain⟨rfl,rfl⟩:=ix;clear aE hM aL;go_wp2_with fail;go_ret2;exact zaj.mk' gO cO rs an.out rfl (hO.mono lp) (su.out.trans (hb.mono lp))
 ·obtain rfl:L=[]:=by
   rcases hL with⟨-,-,h⟩|⟨-,h,-⟩
   ·cases h
   ·exact h
  have ab:=qd aa;clear aa hL hS hP
  go_enter Tryz.func87,Tryz.ntmps87
  go_wp2_with fail;refine ab.out.mono ?_;rintro e w3 ⟨g3,c3,rs3,rfl,-,-,ag⟩;clear ab;go_wp2_with fail;go_loopw [8,9] (fun ov kv wr=>kv= .int .i64 0/\ov=(qS (some ⟨w3.heap.size,0,none⟩) 0 0)/\wr=w3.alloc (.cells #[] 25)) (fun _ _ _=>0)
  case atStart=>exact⟨rfl,rfl,rfl⟩
  case round=>
   obtain⟨rfl,rfl,rfl⟩:=hrel;go_wp2_with fail;go_ret2;exact zaj.mk' _ _ [] rfl rfl (zab.empty ag.size) (ag.alloc ag.size _)
theorem zmx(gc oc n cc g o m cv:Nat)(c:LL)(v:LI)(w:World)(hn:c.length=n)(hm:v.length=m)(hx:c.length<=1048576)(eP:v.length<=1048576)(an:∀j,j<c.length->(c.getD j []).length<=1048576)
 (aJ:(zaN c&&decide (Sml c.length v))=false) (ah:gc<w.heap.size) (hr:zal w gc oc c) (hv:zag w g o v):
 Calls Tryz.prog 87 #[(qS (some ⟨gc,oc,none⟩) n cc),(qS (some ⟨g,o,none⟩) m cv)] w (zaj w [] false):=by
 have aa:=zfZ gc oc n cc g o m cv c v w hn hm hx eP an aJ ah hr hv;have ab:=qd aa;clear aa aJ
 go_enter Tryz.func87,Tryz.ntmps87
 go_wp2_with fail;refine ab.out.mono ?_;rintro e w3 ⟨g3,c3,rs3,rfl,-,-,ag⟩;clear ab;go_wp2_with fail;go_loopw [8,9] (fun ov kv wr=>kv= .int .i64 0/\ov=(qS (some ⟨w3.heap.size,0,none⟩) 0 0)/\wr=w3.alloc (.cells #[] 25)) (fun _ _ _=>0)
 case atStart=>exact⟨rfl,rfl,rfl⟩
 case round=>
  obtain⟨rfl,rfl,rfl⟩:=hrel;go_wp2_with fail;go_ret2;exact zaj.mk' _ _ [] rfl rfl (zab.empty ag.size) (ag.alloc ag.size _)
theorem zmy(gc oc n cc g o m cv:Nat)(c:LL)(v:LI)(w:World)(hn:c.length=n)(hm:v.length=m)(hx:c.length<=1048576)(eP:v.length<=1048576)(an:∀j,j<c.length->(c.getD j []).length<=1048576)
 (aJ:(zaN c&&decide (Sml c.length v))=false) (ah:gc<w.heap.size) (hg:g<w.heap.size) (hr:zal w gc oc c) (hv:zag w g o v):
 Calls Tryz.prog 73 #[(qS (some ⟨gc,oc,none⟩) n cc),(qS (some ⟨g,o,none⟩) m cv)] w (zaj w [] false):=by
 have aa:=zga gc oc n cc g o m cv c v w hn hm hx eP an aJ ah hg hr hv;have ab:=qd aa;clear aa aJ
 go_enter Tryz.func73,Tryz.ntmps73
 go_wp2_with fail;refine ab.out.mono ?_;rintro e w3 ⟨g3,c3,rs3,rfl,-,-,ag⟩;clear ab;go_wp2_with fail;go_ret2;exact zaj.mk' _ _ [] rfl rfl (zab.empty ag.size) (ag.alloc ag.size _)
end
end Go.Proofs.YtlgcmaoimpgedaaGreatDoor

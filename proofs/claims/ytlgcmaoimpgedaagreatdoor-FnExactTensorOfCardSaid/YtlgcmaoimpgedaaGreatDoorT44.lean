/- MulI ChI Coo FrS -/
import Derived.Test.YtlgcmaoimpgedaaGreatDoorT43
import Derived.Test.YtlgcmaoimpgedaaGreatDoorT41
set_option maxHeartbeats 4000000
set_option maxRecDepth 100000
set_option linter.unusedSimpArgs false
namespace Go.Proofs.YtlgcmaoimpgedaaGreatDoor
open Go.Value renaming slice->qS
section
open Go.RowKit Game Stb
open Go.Sort (SWO)
def zaO(w:World)(L:List Wt)(b:Bool)(e:Ending)(w':World):Prop:=
 ∃g cap rs,e= .returned (.tuple #[(qS (some ⟨g,0,none⟩) L.length cap),.bool b])/\zaz rs=L/\zas w' w.heap.size g cap rs/\Below w.heap.size w w'
theorem zaO.mk'{w w':World}{L:List Wt}{b:Bool}{n:Nat}(g cap:Nat)(rs:List WRef)(hl:rs.length=n)(hc:zaz rs=L)(ho:zas w' w.heap.size g cap rs)(hb:Below w.heap.size w w'):
 zaO w L b (.returned (.tuple #[(qS (some ⟨g,0,none⟩) n cap),.bool b])) w':=by
 subst hl;subst hc;exact⟨g,cap,rs,by simp[zaz],rfl,ho,hb⟩
theorem zvu(N:Nat)(d:Nat->RowRef):zaa (lst N d)=(List.range N).map fun k=>(d k).2.2:=by simp[zaa,lst]
theorem zab.tst{E:TE}{w:World}{B g cap:Nat}{rs:List RowRef}(h:zab w B g cap rs)(aV:∀r∈rs,E.ok r.2.2)(hc:zrv E w g):∃d,TSt E w w B g cap rs.length d/\lst rs.length d=rs:=by
 have e:lst rs.length (fun k=>rs.getD k (0,0,[]))=rs:=by
  apply List.ext_getElem (by simp[lst]);intro k h1 h2;simp[lst,List.getD,h2]
 refine⟨fun k=>rs.getD k (0,0,[]),⟨by rw[e];exact h.1,by rw[e];exact h.2,World.grownBy.refl _ _,by rw[e];exact aV,hc⟩,e⟩
theorem zJO{c:LL}{v:LI}{L:LL}{bc bv N:Nat}{d d2:Nat->RowRef}(hS:zbi c v)(hP:zbI c)(hL:zer (nxD c) (zaq c).length v L)(hd:zaa (lst N d)=L)(is:Srt (ltOf (znC c v bc bv).cf) d2 0 N)(dT:(lst N d2).Perm (lst N d)):
 zgx c v (zaa (lst N d2))/\∀t,t∈zaa (lst N d2)↔t∈L:=by
 have hp:(zaa (lst N d2)).Perm L:=by rw[<-hd];exact dT.map _
 refine⟨⟨hp.nodup_iff.2 hL.1.nodup,fun t ht=>zbw.rch hS hP ((hL.2 t).1 (hp.mem_iff.1 ht)),hp.mem_iff.2 ((hL.2 v).2 (Rch.self v)),?_⟩,fun t=>hp.mem_iff⟩;rw[zvu,List.pairwise_map,List.pairwise_iff_getElem];intro i j hi hj iP;have fC:j<N:=by simpa using hj
 simp only[List.getElem_range];have h1:=is i j (qz _) iP fC;have h2:¬(zcM (hgL c v (d2 j)) (hgL c v (d2 i))<0):=of_decide_eq_false h1;rw[zxv] at h2;show hgL c v (d2 i)<=hgL c v (d2 j);omega
theorem zox{w:World}{b n m:Nat}{out:List Wt}{ops:Array Oper}{rest:List Oper}{o:Oper}{a:Act}{Q:Exit->Act->World->Prop}
 (hg:o.guard=none) (x y z:Operand) (cS:o.op=Op.insert 107 x y z) (v:LI) (ct:Int) (hv:v.length=m) (h4:m<=4) (hw:WfV v) (hL:∀u∈out,u.1≠v)
 (BC:-9223372036854775808<=ct/\ct<=9223372036854775807) (ai:zcl w b n m out) (hn:n<1048576) (hx:a.eval x= .map (some b)) (hy:a.eval y=zbo v) (hz:a.eval z= .int .i64 ct)
 (hK:∀w' n',n'<=n+1->zcl w' b n' m (out++[(v,ct)])->w.grownBy w' (some b)->wpList Tryz.prog ops Q rest (a.put o.dst undef) w'):
 wpList Tryz.prog ops Q (o::rest) a w:=by
 refine wpList_plain hg fun K' Ch=>?_
 obtain⟨D,hD,dh,lP⟩:=ai;obtain⟨w',cz,dr,bn⟩:=hD.update zdW Tryz.underlying107 (by unfold maxLen;omega) (zdh hw) (plainElem_int (H:=Unit) Tryz.underlying3 (zAd BC));unfold Oper.wp;simp[execOp,cS,hx,hy,hz,cz,Result.andThen];refine Ch _ _ (hK w' _ (qr _) ⟨_,dr,?_,fun u hu oY=>?_⟩ bn)
 ·obtain⟨es,rfl⟩:=dh;exact⟨_,rfl⟩
 ·by_cases e:u=v
  ·subst e;rw[Maps.atKey_put_same dh (zdW.key (zdh hw)),zgU hL]
  ·have ao:zgf u≠zgf v:=fun h=>e (zlv oY hw (by omega) (by omega) h)
   rw[Maps.atKey_put_other ao,lP u hu oY,zkp fun y hy=>by rw[List.mem_singleton] at hy;subst hy;exact fun h=>e h.symm]
theorem zwN{w:World}{b n m:Nat}{out:List Wt}(v:LI)(ct:Int)(h4:m<=4)(hv:v.length=m)(hw:WfV v)(hL:∀u∈out,u.1≠v)
 (BC:-9223372036854775808<=ct/\ct<=9223372036854775807) (ai:zcl w b n m out) (hn:n<1048576):
 ∃w' n',(Instr.mapUpdate 107 (.map (some b)) (zbo v) (.int .i64 ct)).run Tryz.prog w= .ok () w'/\n'<=n+1/\zcl w' b n' m (out++[(v,ct)])/\w.grownBy w' (some b):=by
 obtain⟨D,hD,dh,lP⟩:=ai;obtain⟨w',cz,dr,bn⟩:=hD.update zdW Tryz.underlying107 (by unfold maxLen;omega) (zdh hw) (plainElem_int (H:=Unit) Tryz.underlying3 (zAd BC));refine⟨w',_,cz,qr _,⟨_,dr,?_,fun u hu oY=>?_⟩,bn⟩
 ·obtain⟨es,rfl⟩:=dh;exact⟨_,rfl⟩
 ·by_cases e:u=v
  ·subst e;rw[Maps.atKey_put_same dh (zdW.key (zdh hw)),zgU hL]
  ·have ao:zgf u≠zgf v:=fun h=>e (zlv oY hw (by omega) (by omega) h)
   rw[Maps.atKey_put_other ao,lP u hu oY,zkp fun y hy=>by rw[List.mem_singleton] at hy;subst hy;exact fun h=>e h.symm]
structure zjy(c:LL)(v:LI)(w0 W:World)(bM nM gO cO gL cL gd cd gR cR N:Nat)(d2:Nat->RowRef)(rsR:List RowRef)(rs:List WRef)(K:List Wt):Prop where
 out:zas W w0.heap.size gO cO rs
 map:zcl W bM nM c.length K
 lst:zab W w0.heap.size gL cL (lst N d2)
 dv:Own W w0.heap.size gd cd (zbt c)
 rt:zab W w0.heap.size gR cR rsR
 bel:Below w0.heap.size w0 W
 mle:w0.heap.size<=bM
section
variable {c:LL} {v:LI} {w0 W W':World} {bM nM gO cO gL cL gd cd gR cR N:Nat} {d2:Nat->RowRef} {rsR:List RowRef} {rs:List WRef} {K:List Wt}
theorem zjy.below(h:zjy c v w0 W bM nM gO cO gL cL gd cd gR cR N d2 rsR rs K)(hb:Below W.heap.size W W'):zjy c v w0 W' bM nM gO cO gL cL gd cd gR cR N d2 rsR rs K:=
 ⟨h.out.below hb,h.map.below hb h.map.lt,h.lst.below hb,h.dv.below hb h.dv.lt,h.rt.below hb,h.bel.trans (hb.mono h.bel.size),h.mle⟩
theorem zjy.put(h:zjy c v w0 W bM nM gO cO gL cL gd cd gR cR N d2 rsR rs K){nM':Nat}{K':List Wt}(hm:zcl W' bM nM' c.length K')(hg:W.grownBy W' (some bM)):zjy c v w0 W' bM nM' gO cO gL cL gd cd gR cR N d2 rsR rs K':=
 ⟨h.map.wts h.out hg,hm,h.map.rows h.lst hg,h.dv.grown hg (fun e=>h.map.neOwn h.dv (Option.some.inj e).symm),h.map.rows h.rt hg,h.bel.grown hg h.bel.size (by intro j hj;cases hj;exact h.mle),h.mle⟩
theorem zab.besideW{w w':World}{B g cap B' g' cap':Nat}{rs:List RowRef}{ts:List WRef}(h:zab w B g cap rs)(hW:zas w B' g' cap' ts)(hg:w.grownBy w' (some g')):zab w' B g cap rs:=
 ⟨h.1.grown hg (fun e=>by have h1:=zaE.neV hW.1 h.1 (by decide);exact h1 (Option.some.inj e).symm),fun r hr=>(h.2.1 r hr).grown hg (fun e=>hW.ne (h.2.1 r hr) (Option.some.inj e).symm),h.2.2⟩
theorem zjy.app(h:zjy c v w0 W bM nM gO cO gL cL gd cd gR cR N d2 rsR rs K){gO' cO':Nat}{rs':List WRef}(ho:zas W' w0.heap.size gO' cO' rs')(hg:W.grownBy W' (some gO)):zjy c v w0 W' bM nM gO' cO' gL cL gd cd gR cR N d2 rsR rs' K:=
 ⟨ho,h.map.grown hg (fun e=>h.map.neW h.out (Option.some.inj e)),h.lst.besideW h.out hg,h.dv.grown hg (fun e=>h.out.ne h.dv (Option.some.inj e).symm),h.rt.besideW h.out hg,h.bel.grown hg h.bel.size (by intro j hj;cases hj;exact h.out.1.base),h.mle⟩
end
theorem zso{W:World}{B g cap N k:Nat}{d2:Nat->RowRef}{rs:List WRef}(h:zab W B g cap (lst N d2))(hk:k<N)(hr:rs.map (·.1)=lst k d2):∀s∈rs,s.1.1≠(d2 k).1:=fun s hs e=>by
 have h1:s.1∈lst k d2:=by rw[<-hr];exact List.mem_map.2 ⟨s,hs,rfl⟩
 obtain⟨j,hj,BA⟩:=List.mem_map.1 h1;have fC:j<k:=List.mem_range.1 hj;have ez:=h.2.2;unfold lst at ez;rw[List.map_map,List.nodup_iff_pairwise_ne,List.pairwise_map,List.pairwise_iff_getElem] at ez;have:=ez j k (by simp;omega) (by simpa using hk) fC;simp only[List.getElem_range,Function.comp] at this;exact this (by rw[BA];exact e)
theorem zsp(k:Nat)(d2:Nat->RowRef):lst (k+1) d2=lst k d2++[d2 k]:=by simp[lst,List.range_succ]
theorem zhl(gc oc n cc g o m cv:Nat)(c:LL)(v:LI)(w:World)(hn:c.length=n)(hm:v.length=m)(aS:n<=cc)(hS:zbi c v)(kG:zeR w)
 (ah:gc<w.heap.size) (hg:g<w.heap.size) (hr:zal w gc oc c) (hv:zag w g o v):
 Calls Tryz.prog 74 #[(qS (some ⟨gc,oc,none⟩) n cc),(qS (some ⟨g,o,none⟩) m cv)] w (fun e w'=>∃out b,MlM c v out b/\zaO w out b e w'):=by
 subst hn;have dq:=hS.len;obtain rfl:c.length=m:=by omega
 have hP:=zcJ hS.fin;have hC:=hS.hC;have aR:=hC.2.1;have bD:=hC.2.2.1;obtain⟨L,bL,hL⟩:=znP (nxD c) (zaq c).length v;have il:=fun W (hW:Below w.heap.size w W)=>zgJ gc oc _ cc g o _ cv c v L bL W rfl dq hS hP hL (qL ah hW.size) (qL hg hW.size) (hr.below hW ah) (hv.below hW hg)
 have fJ:=fun W (hW:Below w.heap.size w W)=>zqz gc oc _ cc c W rfl (by omega) (fun j hj=>by have:=bD j hj;omega) (qL ah hW.size) (hr.below hW ah) (kG.below hW)
 have En:=fun W (hW:Below w.heap.size w W)=>zkV gc oc _ cc c W rfl hC hS.fin (qL ah hW.size) (hr.below hW ah)
 have kY:=fun W (hW:Below w.heap.size w W)=>zeB gc oc _ cc c W rfl (by omega) (fun j hj=>by have:=bD j hj;omega) (qL ah hW.size) (hr.below hW ah)
 rw[zeA hS.fin,hS.fin] at kY;have mT:=qd il;have tX:=qd fJ;have Eo:=qd En;have sW:=qd kY;have HS:=qd hS;have HP:=qd hP;have HC:=qd hC;have HL:=qd hL;have jg:=qd dq;have dY:=qd bD;clear il fJ En kY hS hP hC hL dq bD kG;have aN:Below w.heap.size w ((w.alloc (.cells #[(qS (some ⟨gc,oc,none⟩) c.length cc)] 24)).alloc (.cells #[(qS (some ⟨g,o,none⟩) c.length cv)] 25)):=zgu
 have kc0:((w.alloc (.cells #[(qS (some ⟨gc,oc,none⟩) c.length cc)] 24)).alloc (.cells #[(qS (some ⟨g,o,none⟩) c.length cv)] 25)).cell? ⟨w.heap.size,0,none⟩=some (qS (some ⟨gc,oc,none⟩) c.length cc):=by
  have h1:=(zaI.new (w:=w) (B:=w.heap.size) (E:=24) (qS (some ⟨gc,oc,none⟩) c.length cc) rfl (qr _)).cell 0 (by simp);exact(((Below.refl _ _).alloc (qr _) _).cell (p:=⟨w.heap.size,0,none⟩) (by simp)).trans h1
 have kv0:((w.alloc (.cells #[(qS (some ⟨gc,oc,none⟩) c.length cc)] 24)).alloc (.cells #[(qS (some ⟨g,o,none⟩) c.length cv)] 25)).cell? ⟨w.heap.size+1,0,none⟩=some (qS (some ⟨g,o,none⟩) c.length cv):=by
  have h1:=(zaI.new (w:=w.alloc (.cells #[(qS (some ⟨gc,oc,none⟩) c.length cc)] 24)) (B:=0) (E:=25) (qS (some ⟨g,o,none⟩) c.length cv) rfl (qz _)).cell 0 (by simp);have e:(w.alloc (.cells #[(qS (some ⟨gc,oc,none⟩) c.length cc)] 24)).heap.size=w.heap.size+1:=by simp
  rw[e] at h1;exact h1
 go_enter Tryz.func74,Tryz.ntmps74
 go_wp2_with fail;have rh:=qd (mT.out _ aN);obtain⟨w0,ra⟩:∃w0,((w.alloc (.cells #[(qS (some ⟨gc,oc,none⟩) c.length cc)] 24)).alloc (.cells #[(qS (some ⟨g,o,none⟩) c.length cv)] 25))=w0:=⟨_,rfl⟩;have pm:w0.heap.size=w.heap.size+2:=by rw[<-ra];simp
 rw[ra] at rh aN kc0 kv0 ⊢;obtain⟨bc,AP⟩:∃bc,w.heap.size=bc:=⟨_,rfl⟩;have Tq:=qd AP;have RR:w.heap.size<=bc:=by omega
 have Ep:bc+1<w0.heap.size:=by omega
 rw[AP] at kc0 kv0 ⊢;have oD:gc<w0.heap.size:=qL ah aN.size;have qg:g<w0.heap.size:=qL hg aN.size;have fm:=hr.below aN ah;have nW:=hv.below aN hg;have AY:=qd aN;have wE:=qd (fun W (hW:Below w0.heap.size w0 W)=>show Below w.heap.size w W from aN.trans (hW.mono aN.size));have KR:w.heap.size<=w0.heap.size:=aN.size;clear ra pm AP aN hr hv ah hg;refine rh.out.mono ?_;rintro e w1 ⟨gL,cL,rsL,rfl,pi,nE,ad⟩;have kc1:=(ad.cell (p:=⟨bc,0,none⟩) (by show bc<_;omega)).trans kc0;have kv1:=(ad.cell (p:=⟨bc+1,0,none⟩) Ep).trans kv0
 cases bL with
 |false=>
  have aJ:zlr (nxD c) (zaq c).length v:=by
   rcases HL.out with⟨-,-,h⟩|⟨h,-,-⟩
   ·cases h
   ·exact h
  have sN:=qd aJ;have dc:=wE.out w1 ad;clear aJ rh;go_wp2_with fail;go_ret2;exact⟨[],false,.inr ⟨rfl,rfl,.inr sN.out⟩,zaO.mk' _ _ [] rfl rfl (zas.empty dc.size) (dc.alloc dc.size _)⟩
 |true=>
  have iB:zer (nxD c) (zaq c).length v L/\L.length<=200:=by
   rcases HL.out with⟨h1,h2,-⟩|⟨-,-,h⟩
   ·exact⟨h1,h2⟩
   ·cases h
  have kH:=qd iB;have gC:=qd (tX.out w1 (wE.out w1 ad));clear iB rh tX;by_cases aB:szO c<=200
  ·have KS:¬(200:Int)<szO c:=by omega
   have hF:=zro HC.out HS.out.fin aB;have hK:=zpm HS.out.fin;have HF:=qd hF;have HK:=qd hK;have vK:=qd aB;clear hF hK aB;go_wp2_with fail;refine gC.out.mono ?_;rintro e w2 ⟨rfl,ae⟩;have az:=ad.trans (ae.mono ad.size);have kc2:=(ae.cell (p:=⟨bc,0,none⟩) (by have:=ad.size;show bc<_;omega)).trans kc1;have kv2:=(ae.cell (p:=⟨bc+1,0,none⟩) (by have:=ad.size;show bc+1<_;omega)).trans kv1;have sX:=nE.below ae;have Er:=qd (Eo.out w2 (wE.out w2 az));clear gC Eo ad ae kc1 kv1 nE;go_wp2_with fail;refine Er.out.mono ?_;rintro e w3 ⟨gd,cd,rfl,my,ag⟩
   replace my:=my.mono az.size
   have ap:=az.trans (ag.mono az.size);have kc3:=(ag.cell (p:=⟨bc,0,none⟩) (by have:=az.size;show bc<_;omega)).trans kc2;have kv3:=(ag.cell (p:=⟨bc+1,0,none⟩) (by have:=az.size;show bc+1<_;omega)).trans kv2;have oH:=sX.below ag;have xa:=qd (sW.out w3 (wE.out w3 ap));have mI:=(znw HC.out HS.out.fin).len;rw[mI];have tZ:=qd mI;clear Er sW az ag kc2 kv2 sX mI;go_wp2_with fail;refine xa.out.mono ?_;rintro e w4 ⟨gR,cR,rsR,rfl,sq,mO,aM⟩;have aG:=ap.trans (aM.mono ap.size);have kc4:=(aM.cell (p:=⟨bc,0,none⟩) (by have:=ap.size;show bc<_;omega)).trans kc3;have kv4:=(aM.cell (p:=⟨bc+1,0,none⟩) (by have:=ap.size;show bc+1<_;omega)).trans kv3;have oI:=oH.below aM;have Es:=qd oH.lt;have sY:=my.below aM my.lt
   have Oi:gL≠gd:=by
    have h1:=oH.1;exact h1.ne my.toV (by decide)
   have KT:=qd ap.size;clear xa ap aM kc3 kv3 oH my;have Oj:rsL.length=L.length:=by rw[<-pi,zac]
   have jr:∀r∈rsL,zbw c v r.2.2:=fun r hr=>zbw.rch HS.out HP.out ((kH.out.1.2 _).1 (by rw[<-pi];exact List.mem_map.2 ⟨r,hr,rfl⟩))
   have pP:zrv (znC c v bc (bc+1)) w4 gL:=fun x y W hW hx hy bN iV=>by
    have GL:=aG.grown hW aG.size (by intro j hj;cases hj;exact oI.base);have DD:=oI.base
    exact zIO gc oc cc g o cv bc (bc+1) c v x y W HK.out HS.out aS hx hy (hW.cell kc4 (fun e=>by have h1:=Option.some.inj e;change bc=gL at h1;omega)) (hW.cell kv4 (fun e=>by have h1:=Option.some.inj e;change bc+1=gL at h1;omega))
     (qL oD GL.size) (qL qg GL.size) (fm.below GL oD) (nW.below GL qg) bN iV
   obtain⟨d1,S1,dZ⟩:=oI.tst (E:=znC c v bc (bc+1)) jr pP;rw[Oj] at S1 dZ;have pn:L.length<=200:=kH.out.2;have xz:=qd (zrw (znC c v bc (bc+1)) w0.heap.size gL cL L.length d1 w4 (zIN c v bc (bc+1)) (by omega) S1);have Et:Hid (zaa (lst L.length d1)=L):=by show _=_;rw[dZ,pi]
   have KV:=qd sq;have Eu:=qd mO;clear Oj jr pP S1 dZ oI pi sq mO;go_wp2_with fail;refine xz.out.mono ?_;rintro e w5 ⟨rfl,d2,S5,t5,r5⟩;obtain⟨wR,be⟩:=zJO HS.out HP.out kH.out.1 Et.out t5 r5.perm;have bj:=aG.grown S5.grown aG.size (by intro j hj;cases hj;exact S5.rows.base);have DD:=S5.rows.base;have kc5:=S5.grown.cell kc4 (fun e=>by have h1:=Option.some.inj e;change bc=gL at h1;omega);have kv5:=S5.grown.cell kv4 (fun e=>by have h1:=Option.some.inj e;change bc+1=gL at h1;omega);have oJ:=sY.grown S5.grown (fun e=>Oi (Option.some.inj e).symm);have sZ:=(Eu.out.keep S5.grown Es.out).mono KT.out;have eW:=S5.rows;have ze:WfV v:=zik fun j hj=>by have:=HS.out.small j (by rw[<-jg.out];exact hj);omega
   have RS:0<L.length:=by have:=(be v).1 wR.has;exact List.length_pos_of_mem this
   have gI:=qd wR;have pF:=qd be;have Km:=qd ze;clear xz S5 t5 r5 wR be aG kc4 kv4 sY Oi Eu Es ze;have nu:=@run_makeMap Tryz.prog;have de:=bj.alloc bj.size (.map #[] 0);have KW:zcl (w5.alloc (.map #[] 0)) w5.heap.size 0 c.length []:=zcl.start w5 c.length;have bJ:Below w5.heap.size w5 (w5.alloc (.map #[] 0)):=(Below.refl _ _).alloc (qr _) _;have kv6:=(bJ.cell (p:=⟨bc+1,0,none⟩) (by have:=bj.size;show bc+1<_;omega)).trans kv5;go_wp2_with fail;refine(zbQ g o c.length cv v _ jg.out (by rw[jg.out];exact aR) (qL qg de.size) (nW.below de qg)).mono ?_;rintro e w7 ⟨rfl,dA⟩;have iy:=de.trans (dA.mono de.size);have wX:=KW.below dA KW.lt;have GM:=bJ.trans (dA.mono bJ.size);have Ev:w0.heap.size<=w5.heap.size:=bj.size;have nw:=eW.below GM;have zY:=oJ.below GM oJ.lt;have Ew:=sZ.below GM;clear KW bJ de dA kc5 kv5 kv6 eW oJ sZ GM bj nu;generalize w5.heap.size=bM at*;go_wp2_with (refine zox (o:=⟨none,_,_,_,_,_⟩) rfl _ _ _ rfl v 1 jg.out aR Km.out (by simp) (by omega) wX (by omega) rfl rfl rfl ?_);intro w8 n8 Tr KY ny;have kd:=iy.grown ny iy.size (by intro j hj;cases hj;exact Ev);have nA:=wX.rows nw ny;have vL:=wX.rows Ew ny;have ta:=zY.grown ny (fun e=>wX.neOwn zY (Option.some.inj e).symm)
   have Ol:zjy c v w0 (w8.alloc (.cells #[] 36)) bM n8 w8.heap.size 0 gL cL gd cd gR cR L.length d2 rsR [] [(v,1)]:=by
    have hb:=(Below.refl w8.heap.size w8).alloc (qr _) (.cells #[] 36);exact⟨zas.empty kd.size,KY.below hb KY.lt,nA.below hb,ta.below hb ta.lt,vL.below hb,kd.alloc kd.size _,Ev⟩
   clear iy wX nw Ew zY ny KY nA vL ta kd;go_wp2_with fail;obtain⟨us,vM⟩:∃us,zaa (lst L.length d2)=us:=⟨_,rfl⟩;have fp:us.length=L.length:=by rw[<-vM];simp[zaa,lst]
   have RU:=qd (fun k (hk:k<L.length)=>show us.getD k []=(d2 k).2.2 from by rw[<-vM,zvu];simp[List.getD,hk]);rw[vM] at gI pF;have eS:=qd fp;clear vM fp;go_loopw [13,50] (fun ov kv wr=>∃(k gO cO nM:Nat) (rs:List WRef),k<=L.length/\kv= .int .i64 k/\ov=(qS (some ⟨gO,0,none⟩) k cO)/\Hid (rs.length=k)/\Hid (rs.map (·.1)=lst k d2)/\Hid (zaz rs=zaX c (zbt c) v (zaD c v) (us.take k))/\nM<=k+2/\zjy c v w0 wr bM nM gO cO gL cL gd cd gR cR L.length d2 rsR rs (if k=0 then[(v,1)] else zaX c (zbt c) v (zaD c v) (us.take k))) (fun _ kv _=>L.length-(intOf kv).toNat)
   case atStart=>exact⟨0,w8.heap.size,0,n8,[],qz _,rfl,rfl,rfl,rfl,rfl,by omega,Ol⟩
   case round=>
    clear Ol;obtain⟨k,gO,cO,nM,rs,hk,rfl,rfl,an,dh,ak,hnM,hW⟩:=hrel;by_cases ac:k<L.length
    ·have hq:wr.cell? ⟨gL,k,none⟩=some (zah (d2 k)):=by
      rw[hW.lst.1.cell k (by simpa [lst] using ac)];simp[lst]
     have bR:d2 k∈lst L.length d2:=zoh ac;have GN:=RU.out k ac;have tb:k<us.length:=by rw[eS.out];exact ac
     have Ex:=gI.out.bel (us.getD k []) (by simp[List.getD,tb]);have vN:=zoS (c:=c) (v:=v) (zbt c) tb;have db:=gI.out.new (zbt c) tb;have BD:=fun h0=>gI.out.fr HK.out HS.out HP.out HF.out (znw HC.out HS.out.fin) tb h0
     have oK:=gI.out.first HK.out HS.out;have jH:=fun h0=>gI.out.later HK.out HS.out tb h0
     rw[GN] at Ex vN db BD jH;generalize bV:d2 k=rk at*;obtain⟨gr,cr,u⟩:=rk;dsimp only at Ex vN db BD jH GN;have zZ:u.length=c.length:=Ex.len;have eK:wr.cell? ⟨gL,k,none⟩=some (qS (some ⟨gr,0,none⟩) c.length cr):=by rw[<-zZ];exact hq
     have Om:WfV u:=zik fun j hj=>by have:=Ex.box j (by omega);omega
     have jI:=qd zZ;have KZ:=qd Om;have iq:=qd bR;have BE:=qd bV;have RV:=qd GN;clear zZ Om bR hq bV Ex GN;by_cases nh:k=0
     ·subst nh;have Bm:¬(0:Int)<((0:Nat):Int):=by omega
      have tc:u=v:=by rw[<-RV.out];exact oK
      have La:[(v,(1:Int))]=zaX c (zbt c) v (zaD c v) (us.take (0+1)):=by
       rw[vN,if_pos tc,tc];rfl
      have td:=hW;rw[if_pos rfl,La] at td;obtain⟨F,hF⟩:∃F:Int,F=1:=⟨_,rfl⟩;have Lb:Hid (zaC (zaX c (zbt c) v (zaD c v) (us.take (0+1))) u=F):=by show _=_;rw[<-La,tc,hF];simp[zaC]
      have Ey:Hid (zaX c (zbt c) v (zaD c v) (us.take (0+1))=zaX c (zbt c) v (zaD c v) (us.take 0)++[(u,F)]):=by show _=_;rw[vN,if_pos tc,hF]
      obtain⟨w9,rfl⟩:∃w9:World,w9=wr:=⟨_,rfl⟩;clear vN db BD oK jH hW tc La hF;have iO:=zbQ gr 0 c.length cr u w9 jI.out (by rw[jI.out];exact aR) (td.lst.2.1 _ iq.out).lt (td.lst.2.1 _ iq.out).cells;obtain⟨y0,j0⟩:∃t,t=u.getD 0 0:=⟨_,rfl⟩;obtain⟨y1,j1⟩:∃t,t=u.getD 1 0:=⟨_,rfl⟩;obtain⟨y2,j2⟩:∃t,t=u.getD 2 0:=⟨_,rfl⟩;obtain⟨y3,j3⟩:∃t,t=u.getD 3 0:=⟨_,rfl⟩;have jZ:zbo u= .agg #[.int .i64 y0,.int .i64 y1,.int .i64 y2,.int .i64 y3]:=by unfold zbo;rw[j0,j1,j2,j3]
      rw[jZ] at iO;have uu:=qd iO;have mL:=qd jZ;clear j0 j1 j2 j3 iO jZ;go_wp2_with fail;refine uu.out.mono ?_;rintro e w10 ⟨rfl,cX⟩;have iD:=td.below cX;have jJ:=iD.lst.2.1 _ iq.out;have jK:=zso iD.lst ac dh.out;rw[BE.out] at jK;clear uu td cX
      go_wp2_with (first
       |(at_lookup;refine zgq rfl _ _ rfl u F Lb.out jI.out KZ.out iD.map rfl (by rw[mL.out];rfl) ?_)
       |(at_builtin;refine zbj (w:=w10) rfl _ _ rfl w0.heap.size gO cO 0 w10.heap.size gr cr c.length rs u F _ an.out jI.out rfl rfl iD.out jJ jK rfl rfl (by omega) ?_))
      intro g11 c11 w11 te tf tg;have Aa:=iD.app te tf;clear iD te tf tg jJ jK;go_wp2_with fail;go_roundw
      case rel=>
       refine⟨0+1,g11,c11,nM,rs++[((gr,cr,u),F)],by omega,by go_num,rfl,?_,?_,?_,by omega,?_⟩
       ·show _=_;rw[qA,an.out];rfl
       ·show _=_;rw[List.map_append,dh.out,zsp,BE.out];rfl
       ·show _=_;rw[Ey.out,<-ak.out];simp[zaz]
       ·rw[if_neg (by omega)];exact Aa
      case measure=>simp[intOf];omega
     ·have pe:0<k:=by omega
      have Bm:(0:Int)<(k:Int):=by omega
      have BF:=hW;rw[if_neg nh] at BF;have ao:=jH pe;rw[if_neg ao] at vN;obtain⟨F,hF⟩:∃F,frV c (zbt c) v (zaD c v u) (zaX c (zbt c) v (zaD c v) (us.take k)) u=F:=⟨_,rfl⟩;have Lc:=zxo (BD pe);rw[hF] at vN Lc
      have HV:∀W,Below wr.heap.size wr W->Calls Tryz.prog 127 #[(qS (some ⟨gr,0,none⟩) c.length cr)] W fun e w'=>e= .returned (zbo u)/\Below W.heap.size W w':=fun W Ab=>by
       have ho:=(BF.lst.2.1 _ iq.out).below Ab (BF.lst.2.1 _ iq.out).lt;exact zbQ gr 0 c.length cr u W jI.out (by rw[jI.out];exact aR) ho.lt ho.cells
      have On:∀W,Below wr.heap.size wr W->Calls Tryz.prog 128 #[(qS (some ⟨gc,oc,none⟩) c.length cc),(qS (some ⟨gd,0,none⟩) c.length cd),(qS (some ⟨gR,0,none⟩) ((zaq c).length) cR),(qS (some ⟨g,o,none⟩) c.length cv),(qS (some ⟨gr,0,none⟩) c.length cr),.map (some bM)] W (zbb W (.int .i64 F)):=fun W Ab=>by
       have h9:=BF.below Ab;have ho:=h9.lst.2.1 _ iq.out;have BG:=h9.rt.rows2;rw[KV.out] at BG;have:=zmt gc oc _ cc gd 0 cd gR 0 _ cR g o cv gr 0 cr bM nM c (zbt c) v u (zaX c (zbt c) v (zaD c v) (us.take k)) W rfl aS rfl (BD pe) (qL oD h9.bel.size) h9.dv.lt h9.rt.lt (qL qg h9.bel.size) ho.lt (fm.below h9.bel oD) h9.dv.cells BG (nW.below h9.bel qg) ho.cells h9.map
       rwa [hF] at this
      have x0:wr.drew.cell? ⟨bc,0,none⟩=some (qS (some ⟨gc,oc,none⟩) c.length cc):=(hW.bel.cell (p:=⟨bc,0,none⟩) (by show bc<_;omega)).trans kc0;have x1:wr.drew.cell? ⟨bc+1,0,none⟩=some (qS (some ⟨g,o,none⟩) c.length cv):=(hW.bel.cell (p:=⟨bc+1,0,none⟩) Ep).trans kv0;have hX:Below wr.heap.size wr wr.drew:=Below.drew (Below.refl _ _);have k1:=qd HV;have k2:=qd On;have Ld:=qd BF;have fN:=qd db;have Ey:Hid (zaX c (zbt c) v (zaD c v) (us.take (k+1))=zaX c (zbt c) v (zaD c v) (us.take k)++[(u,F)]):=vN;have Le:Hid (some bc≠some bM):=fun e=>by have h1:=Option.some.inj e;have:=hW.mle;omega
      have Lf:Hid (some (bc+1)≠some bM):=fun e=>by have h1:=Option.some.inj e;have:=hW.mle;omega
      clear HV On BF hW vN BD oK jH hF db;go_wp2_with fail
      go_region_held3 (fun W=>W.cell? ⟨bc,0,none⟩=some (qS (some ⟨gc,oc,none⟩) c.length cc)/\W.cell? ⟨bc+1,0,none⟩=some (qS (some ⟨g,o,none⟩) c.length cv))
       (first|with_reducible exact⟨x0,x1⟩|with_reducible exact⟨zaB bT x0,zaB bT x1⟩|with_reducible exact⟨zaB kF (zaB bT x0),zaB kF (zaB bT x1)⟩|with_reducible exact⟨iE.cell (zaB kF (zaB bT x0)) Le.out,iE.cell (zaB kF (zaB bT x1)) Lf.out⟩)
       (first
         |(go_at_call 127;(with_reducible refine(k1.out _ hX).mono ?_);rintro e wA ⟨rfl,bT⟩)
         |(go_at_call 128;(with_reducible refine(k2.out _ (hX.trans (bT.mono hX.size))).mono ?_);rintro e wB ⟨rfl,kF⟩)
         |(obtain⟨w12,n12,tj,oq,Ez,iE⟩:=zwN (w:=wB) u F aR jI.out KZ.out fN.out Lc (Ld.out.below ((hX.trans (bT.mono hX.size)).trans (kF.mono (qt hX.size bT.size)))).map (by omega);simp only[tj,Result.andThen_ok];rw[Oper.upon_skip]))
      have td:=(Ld.out.below ((hX.trans (bT.mono hX.size)).trans (kF.mono (qt hX.size bT.size)))).put Ez iE;rw[<-Ey.out] at td;have Lb:Hid (zaC (zaX c (zbt c) v (zaD c v) (us.take (k+1))) u=F):=by show _=_;rw[Ey.out];exact zgU fN.out
      obtain⟨w9,rfl⟩:∃w9:World,w9=w12:=⟨_,rfl⟩;have Ts:n12<=k+3:=by omega
      clear Ez iE tj bT kF hX x0 x1 k1 k2 Ld fN Lc oq;have iO:=zbQ gr 0 c.length cr u w9 jI.out (by rw[jI.out];exact aR) (td.lst.2.1 _ iq.out).lt (td.lst.2.1 _ iq.out).cells;obtain⟨y0,j0⟩:∃t,t=u.getD 0 0:=⟨_,rfl⟩;obtain⟨y1,j1⟩:∃t,t=u.getD 1 0:=⟨_,rfl⟩;obtain⟨y2,j2⟩:∃t,t=u.getD 2 0:=⟨_,rfl⟩;obtain⟨y3,j3⟩:∃t,t=u.getD 3 0:=⟨_,rfl⟩;have jZ:zbo u= .agg #[.int .i64 y0,.int .i64 y1,.int .i64 y2,.int .i64 y3]:=by unfold zbo;rw[j0,j1,j2,j3]
      rw[jZ] at iO;have uu:=qd iO;have mL:=qd jZ;clear j0 j1 j2 j3 iO jZ;go_wp2_with fail;refine uu.out.mono ?_;rintro e w10 ⟨rfl,cX⟩;have iD:=td.below cX;have jJ:=iD.lst.2.1 _ iq.out;have jK:=zso iD.lst ac dh.out;rw[BE.out] at jK;clear uu td cX
      go_wp2_with (first
       |(at_lookup;refine zgq rfl _ _ rfl u F Lb.out jI.out KZ.out iD.map rfl (by rw[mL.out];rfl) ?_)
       |(at_builtin;refine zbj (w:=w10) rfl _ _ rfl w0.heap.size gO cO k w10.heap.size gr cr c.length rs u F _ an.out jI.out rfl rfl iD.out jJ jK rfl rfl (by omega) ?_))
      intro g11 c11 w11 te tf tg;have Aa:=iD.app te tf;clear iD te tf tg jJ jK;go_wp2_with fail;go_roundw
      case rel=>
       refine⟨k+1,g11,c11,n12,rs++[((gr,cr,u),F)],by omega,by go_num,rfl,?_,?_,?_,by omega,?_⟩
       ·show _=_;rw[qA,an.out];rfl
       ·show _=_;rw[List.map_append,dh.out,zsp,BE.out];rfl
       ·show _=_;rw[Ey.out,<-ak.out];simp[zaz]
       ·rw[if_neg (by omega)];exact Aa
      case measure=>simp[intOf];omega
    ·obtain rfl:k=L.length:=by omega
     have bF:=gI.out.done HK.out HS.out HP.out HF.out vK.out kH.out.1 pn pF.out (by rw[eS.out];exact pn);have kZ:=ak.out;have bQ:us.take L.length=us:=qF (by rw[eS.out];exact qr _);rw[bQ] at kZ;have dW:=qd bF;have sP:=qd kZ;have gJ:=wE.out _ hW.bel;have RX:=hW.out.mono KR;clear bF kZ bQ ak hW;go_wp2_with fail;go_ret2;exact⟨_,true,dW.out,zaO.mk' gO cO rs an.out sP.out RX gJ⟩
  ·have KS:(200:Int)<szO c:=by omega
   have vK:=qd aB;clear aB;go_wp2_with fail;refine gC.out.mono ?_;rintro e w2 ⟨rfl,ae⟩;have az:=wE.out w2 (ad.trans (ae.mono ad.size));clear gC;go_wp2_with fail;go_ret2;exact⟨[],false,.inr ⟨rfl,rfl,.inl (by have:=vK.out;omega)⟩,zaO.mk' _ _ [] rfl rfl (zas.empty az.size) (az.alloc az.size _)⟩
end
section
open Go.RowKit Game Stb
theorem zoi{c:LL}{l:List Wt}(hl:l.length<=200)(hx:∀x∈l,x.1.length=c.length)(hn:c.length<=4):zgb l:=⟨by omega,fun j hj=>by
 have h2:wOf l j=(l[j]).1:=by simp[wOf,List.getD,hj]
 rw[h2,hx _ (List.getElem_mem hj)];omega⟩
theorem zyJ{rsW:List RowRef}{rs:List WRef}{k:Nat}(ez:(rsW.map (·.1)).Nodup)(hk:k<rsW.length)(hr:rs.map (·.1)=rsW.take k):∀s∈rs,s.1.1≠(rsW[k]).1:=fun s hs e=>by
 have h1:s.1∈rsW.take k:=by rw[<-hr];exact List.mem_map.2 ⟨s,hs,rfl⟩
 have h2:((rsW.take (k+1)).map (·.1)).Nodup:=ez.sublist ((List.take_sublist _ _).map _);rw[qT hk,List.map_append] at h2;exact(List.nodup_append.1 h2).2.2 s.1.1 (List.mem_map.2 ⟨s.1,h1,rfl⟩) (rsW[k]).1 (by simp) e
theorem zhv(gc oc n cc g o m cv:Nat)(c:LL)(v:LI)(l:List Wt)(b:Bool)(w:World)(hn:c.length=n)(hm:v.length=m)(aS:n<=cc)(hS:zbi c v)(kG:zeR w)(dm:ChM c v l b)
 (ah:gc<w.heap.size) (hg:g<w.heap.size) (hr:zal w gc oc c) (hv:zag w g o v):
 Calls Tryz.prog 38 #[(qS (some ⟨gc,oc,none⟩) n cc),(qS (some ⟨g,o,none⟩) m cv)] w (zaO w l b):=by
 have hP:=zcJ hS.fin;have aR:=hS.hC.2.1;obtain⟨W,bW,out0,bO,hW,hO,aY⟩:=dm;have h1:=zov gc oc n cc g o m cv c v W bW w hn hm hS hP hW ah hg hr hv;have h2:=fun V (hV:Below w.heap.size w V)=>zhl gc oc n cc g o m cv c v V hn hm aS hS (kG.below hV) (qL ah hV.size) (qL hg hV.size) (hr.below hV ah) (hv.below hV hg)
 subst hn;subst hm;have H1:=qd h1;have H2:=qd h2;have HS:=qd hS;have HP:=qd hP;have HW:=qd hW;have HO:=qd hO;have lW:=qd aY;clear h1 h2 hS hP hW hO aY hv hg kG
 go_enter Tryz.func38,Tryz.ntmps38
 go_wp2_with fail;refine H1.out.mono ?_;rintro e w1 ⟨gW,cW,rsW,rfl,lT,lX,ad⟩;have fi:=qd (H2.out w1 ad);clear H1 H2;go_wp2_with fail;refine fi.out.mono ?_;rintro e w2 ⟨out,bO2,mN,gM,cM,rsM,rfl,tk,fR,ae⟩;have az:=ad.trans (ae.mono ad.size);obtain⟨Lg,tl⟩:=mN.uniq HS.out HP.out HO.out;subst Lg;have tm:=lX.below ae;obtain⟨f1,f2,f3,f4⟩:=zof mN;have vB:=zoi f1 f2 aR;have jd:=fR.mono (qz _);have Ac:=qd tk;have EA:=qd mN;have Ad:=qd tl;have Lh:=qd vB;clear fi ad ae lX mN tl vB f1 f2 f4 fR
 cases bW with
 |false=>
  have md:l=[]/\b=false:=by
   rcases lW.out with⟨h,-⟩|⟨-,h⟩
   ·cases h
   ·exact h
  obtain⟨rfl,rfl⟩:=md;go_wp2_with fail;go_ret2;exact zaO.mk' _ _ [] rfl rfl (zas.empty az.size) (az.alloc az.size _)
 |true=>
  cases bO2 with
  |false=>
   have md:l=[]/\b=false:=by
    rcases lW.out with⟨-,h,-⟩|⟨-,h⟩
    ·cases h
    ·exact h
   obtain⟨rfl,rfl⟩:=md;go_wp2_with fail;go_ret2;exact zaO.mk' _ _ [] rfl rfl (zas.empty az.size) (az.alloc az.size _)
  |true=>
   have md:l=zfX c W out0/\b=true:=by
    rcases lW.out with⟨-,-,h⟩|⟨h,-⟩
    ·exact h
    ·rcases h with h|h <;> cases h
   obtain⟨rfl,rfl⟩:=md;have hF:=znA HS.out HP.out (f3 rfl) HW.out;have wg:rsW.length=W.length:=by rw[<-lT,zac]
   have EB:=hF.few;have mT:=qd hF.dom;have Li:=qd lT;have Lj:=qd wg;clear hF lW f3 lT wg HO HW;go_wp2_with fail;have Lk:=jd.1.lt;go_loopw [10,37] (fun ov kv wr=>∃(k gO cO:Nat) (rs:List WRef),k<=W.length/\kv= .int .i64 k/\ov=(qS (some ⟨gO,0,none⟩) k cO)/\Hid (rs.length=k)/\Hid (rs.map (·.1)=rsW.take k)/\Hid (zaz rs=zfX c (W.take k) out)/\zas wr w.heap.size gO cO rs/\zab wr w.heap.size gW cW rsW/\zas wr 0 gM cM rsM/\gM≠gO/\Below w.heap.size w wr) (fun _ kv _=>W.length-(intOf kv).toNat)
   case atStart=>
    have hb:=(Below.refl w2.heap.size w2).alloc (qr _) (.cells #[] 36);exact⟨0,w2.heap.size,0,[],qz _,rfl,rfl,rfl,rfl,rfl,zas.empty az.size,tm.below hb,jd.below hb,by omega,az.alloc az.size _⟩
   case round=>
    clear tm jd az Lk;obtain⟨k,gO,cO,rs,hk,rfl,rfl,an,dh,ak,ho,lX,fR,ao,hb⟩:=hrel;by_cases ac:k<W.length
    ·have cH:k<rsW.length:=by rw[Lj.out];exact ac
     have hq:wr.cell? ⟨gW,k,none⟩=some (zah rsW[k]):=by
      rw[lX.1.cell k (by simpa using cH)];simp
     have lm:=lX.2.1 _ (List.getElem_mem cH);have gG:=zyJ lX.2.2 cH dh.out;have e1:=zck cH;rw[Li.out] at e1;have lY:=mT.out _ (zfO ac);have bQ:=zqK c W out ac;have Ll:rsW.take (k+1)=rsW.take k++[rsW[k]]:=qT cH;rw[e1] at lY bQ;have EC:=qd (fun V (h:zab V w.heap.size gW cW rsW)=>h.2.1 _ (List.getElem_mem cH));generalize rsW[k]=ru at*;obtain⟨bu,cu,u⟩:=ru;dsimp only at lm gG lY bQ Ll EC;have eK:wr.cell? ⟨gW,k,none⟩=some (qS (some ⟨bu,0,none⟩) c.length cu):=by rw[<-lY.len];exact hq
     have fp:=lY.len;have aa:=zhf gc oc _ cc bu 0 _ cu c u wr rfl fp lY (qL ah hb.size) lm.lt (hr.below hb ah) lm.cells;have bU:=(zjh lY.hC lY.fin fp (fun j hj=>lY.small j (by omega))).len;have ab:=qd aa;have eS:=qd fp;have fS:=qd bQ;have RY:=qd Ll;have xe:=qd bU;have GO:=qd gG;clear aa fp bQ Ll bU gG hq lm lY e1;go_wp2_with fail;refine ab.out.mono ?_;rintro e w3 ⟨g3,c3,g4,c4,rfl,al,-,ag⟩;have ap:=hb.trans (ag.mono hb.size);have jL:=ho.below ag;have mU:=lX.below ag;have oL:=fR.below ag;have Ae:=oL.wrows;rw[Ac.out] at Ae;obtain⟨F,hF⟩:∃F,zaC out (zbd c u)=F:=⟨_,rfl⟩;have fT:=zoX gM 0 out.length cM g3 0 c.length c3 out (zbd c u) w3 rfl xe.out Lh.out (by rw[xe.out];omega) oL.1.lt al.lt Ae al.cells;rw[hF] at fT fS;have qK:=qd fT;clear ab hb ag ho lX fR Ae fT hF al eK;go_wp2_with fail;refine qK.out.mono ?_;rintro e w5 ⟨rfl,aQ⟩;have bj:=ap.trans (aQ.mono ap.size);have dd:=jL.below aQ;have qq:=mU.below aQ;have eR:=oL.below aQ;have ED:=EC.out w5 qq;clear qK aQ ap jL mU oL;go_wp2_with (at_builtin;refine zbj (w:=w5) rfl _ _ rfl w.heap.size gO cO k w5.heap.size bu cu c.length rs u F _ an.out eS.out rfl rfl dd ED GO.out rfl rfl (by omega) ?_);intro g6 c6 w6 hY fG dR;have de:=bj.grown fG bj.size (by intro j hj;cases hj;exact dd.1.base);have Af:=qq.besideW dd fG;have oM:=eR.grown fG ao (fun r df e=>dd.ne (eR.ofMem df) e.symm)
     have ip:gM≠g6:=by
      rcases dR with h|h
      ·rw[h];exact ao
      ·have:=eR.1.lt;omega
     clear bj dd qq eR ED fG dR;go_wp2_with fail;go_roundw
     case rel=>
      refine⟨k+1,g6,c6,rs++[((bu,cu,u),F)],by omega,by go_num,rfl,?_,?_,?_,hY,Af,oM,ip,de⟩
      ·show _=_;rw[qA,an.out];rfl
      ·show _=_;rw[List.map_append,dh.out,RY.out];rfl
      ·show _=_;rw[fS.out,<-ak.out];simp[zaz]
     case measure=>simp[intOf];omega
    ·obtain rfl:k=W.length:=by omega
     have kZ:=ak.out;rw[qF (qr _),zvm (c:=c) (W:=W) Ad.out] at kZ;have sP:=qd kZ;clear kZ ak lX fR;go_wp2_with fail;go_ret2;exact zaO.mk' gO cO rs an.out sP.out ho hb
end
section
open Go.RowKit Game
def zgt(c:LL)(j:Nat)(v:LI)(k:Nat):LL:=(List.range c.length).map fun r=>if r<k then(c.getD r []).set j (v.getD r 0) else c.getD r []
theorem zyK(c:LL)(j:Nat)(v:LI):zgt c j v 0=c:=by
 unfold zgt;apply List.ext_getElem (by simp);intro i h1 h2;simp[List.getD,h2]
theorem zBk(c:LL)(j:Nat)(v:LI):zgt c j v c.length=zcO c j v:=by
 unfold zgt zcO;apply List.map_congr_left;intro r hr;rw[if_pos (List.mem_range.1 hr)]
theorem zvv(c:LL)(j:Nat)(v:LI)(k:Nat):(zgt c j v k).length=c.length:=by simp[zgt]
theorem zsq{c:LL}{j:Nat}{v:LI}{k:Nat}(hk:k<c.length):(zgt c j v k).getD k []=c.getD k []:=by simp[zgt,List.getD,hk]
theorem zBl{c:LL}{j:Nat}{v:LI}{k:Nat}(hk:k<c.length):zbe (zgt c j v k) k j (v.getD k 0)=zgt c j v (k+1):=by
 unfold zbe;rw[zsq hk];unfold zgt;apply List.ext_getElem (by simp);intro i h1 h2;have hi:i<c.length:=by simpa using h2
 rw[List.getElem_set];by_cases e:k=i
 ·subst e;rw[if_pos rfl];simp[hk]
 ·rw[if_neg e];simp only[List.getElem_map,List.getElem_range];by_cases h:i<k
  ·rw[if_pos h,if_pos (by omega)]
  ·rw[if_neg h,if_neg (by omega)]
theorem zGk{c:LL}{v:LI}{j:Nat}(hj:j<c.length):(crd c v).take (j+1)=(crd c v).take j++[(crd c v).getD j 0]:=by
 have hl:j<(crd c v).length:=by rw[zcj];exact hj
 rw[qT hl];simp[List.getD,hl]
theorem zjD(gc oc n cc g o cv:Nat)(c:LL)(v:LI)(w:World)(hn:c.length=n)(hC:IsC c)(hv:SmW n v)
 (ah:gc<w.heap.size) (hg:g<w.heap.size) (hr:zal w gc oc c) (iO:zag w g o v):
 Calls Tryz.prog 181 #[(qS (some ⟨gc,oc,none⟩) n cc),(qS (some ⟨g,o,none⟩) n cv)] w (zav w (crd c v)):=by
 subst hn;have aR:=hC.2.1;have dq:=hv.1
 have HX:=qd (fun(i:Nat) (hi:i<c.length) (W:World) (B gm cm:Nat) (rs:List RowRef) (ho:zab W B gm cm rs) (br:zaa rs=zcO c i v)=>by
  have h1:=zjV c.length aR gm 0 cm (zcO c i v) W (zri hC hv hi) ho.lt (by rw[<-br];exact ho.rows2);have e:det c.length (zcO c i v)=(crd c v).getD i 0:=by simp[crd,List.getD,hi]
  rw[e] at h1;exact h1)
 have HQ:=qd (fun(j:Nat) (hj:j<c.length)=>zGk (v:=v) hj);have EE:=qd (zcj c v);have HC:=qd (fun W (hW:Below w.heap.size w W)=>zjT gc oc c.length cc c W rfl (by omega) (fun j hj=>by rw[hC.2.2.1 j hj];omega) (qL ah hW.size) (hr.below hW ah));have HL:=qd (fun j (hj:j<c.length)=>hC.2.2.1 j hj);have H0:=qd (fun j=>zyK c j v);have H1:=qd (fun j=>zBk c j v);have H2:=qd (fun(j k:Nat) (hk:k<c.length)=>zsq (j:=j) (v:=v) hk);have H3:=qd (fun(j k:Nat) (hk:k<c.length)=>zBl (j:=j) (v:=v) hk);have H4:=qd (fun j k=>zvv c j v k);clear hC hv;generalize crd c v=X at*
 go_enter Tryz.func181,Tryz.ntmps181
 go_wp2_with fail;go_loopw [5,6] (fun ov iv wr=>∃(i g' c':Nat),i<=c.length/\iv= .int .i64 i/\ov=(qS (some ⟨g',0,none⟩) i c')/\Own wr w.heap.size g' c' (X.take i)/\Below w.heap.size w wr) (fun _ iv _=>c.length-(intOf iv).toNat)
 case atStart=>exact⟨0,w.heap.size,0,qz _,rfl,rfl,Own.empty (w:=w) (qr _),(Below.refl _ _).alloc (qr _) _⟩
 case round=>
  obtain⟨i,g',c',hi,rfl,rfl,ho,hb⟩:=hrel;by_cases bG:i<c.length
  ·obtain⟨wo,rfl⟩:∃wo:World,wo=wr:=⟨_,rfl⟩;go_wp2_with fail;refine(HC.out wo hb).mono ?_;rintro e w2 ⟨gm,cm,rs,rfl,RZ,Sa,ae⟩;go_wp2_with fail;go_loopw [8] (fun kv wi=>∃(k:Nat) (rs:List RowRef),k<=c.length/\kv= .int .i64 k/\Hid (zaa rs=zgt c i v k)/\zab wi wo.heap.size gm cm rs/\Below wo.heap.size wo wi) (fun kv _=>c.length-(intOf kv).toNat)
   case atStart=>exact⟨0,rs,qz _,rfl,by show _=_;rw[H0.out,RZ],Sa,ae⟩
   case round=>
    obtain⟨k,rs,hk,rfl,br,hR,bX⟩:=hrel;have qG:=hb.trans (bX.mono hb.size);by_cases nU:k<c.length
    ·obtain⟨gr,cr,⟨r0,fm,Sb⟩,nT,qW,ao,hc,bD,bK⟩:=hR.setMat br.out k (by rw[H4.out];exact nU);rw[H2.out i k nU,HL.out k nU] at hc;rw[H2.out i k nU,HL.out k nU] at bD;have Bn:=(iO.below qG hg) k (by rw[dq];exact nU);obtain⟨rs2,xY,aH,fc,gH,aP⟩:=bK i (v.getD k 0);rw[H3.out i k nU] at aH;have Tt:=(bD i bG).1;have qu:=(bD i bG).2;have az:Below wo.heap.size wo (wr.setCell ⟨gr,i,none⟩ (.int .i64 (v.getD k 0))):=bX.grown aP bX.size (by intro j hj;cases hj;exact nT);have fi:=qd aH;clear bK bD xY fc aP aH fm Sb hR bX;generalize v.getD k 0=x at*;go_wp2_with fail
     go_region
     go_wp2_with fail;go_roundw
     case rel=>exact⟨k+1,rs2,by omega,by go_num,fi.out,gH.drewN 1,below_drewN az 1⟩
     case measure=>simp[intOf];omega
    ·obtain rfl:k=c.length:=by omega
     have fT:=br.out;rw[H1.out i] at fT;have aa:=HX.out i bG wr wo.heap.size gm cm rs hR fT;have hq:=HQ.out i bG;have ln:=ho.below bX ho.lt;have qW:=ho.base;generalize X.getD i 0=x at*;have ab:=qd aa;have Hq:=qd hq;have CO:(X.take i).length=i:=by rw[List.length_take,EE.out];omega
     have Ji:=qd CO;clear aa hq fT br hR CO;go_wp2_with fail;refine ab.out.mono ?_;rintro e w2 ⟨rfl,ag⟩;have ar:=ln.below ag ln.lt;have az:Below w.heap.size w w2:=qG.trans (ag.mono qG.size);clear ag ln qG bX ho;go_wp2_with (at_builtin;refine zay rfl _ _ rfl w.heap.size g' c' i (X.take i) x Ji.out ar rfl rfl (by omega) ?_);intro g3 c3 w3 al aK _;rw[<-Hq.out] at al;go_wp2_with fail;go_roundw
     case rel=>exact⟨i+1,g3,c3,by omega,by go_num,rfl,al,az.grown aK az.size (by intro j hj;cases hj;exact qW)⟩
     case measure=>simp[intOf];omega
  ·obtain rfl:i=c.length:=by omega
   have hq:X.take c.length=X:=qF (by rw[EE.out];exact qr _);rw[hq] at ho;clear hq;go_wp2_with fail;go_ret;exact⟨g',c',by rw[EE.out];rfl,ho,hb⟩
theorem zGl{c:LL}{v:LI}{j:Nat}(hj:j<c.length):(qLd c v).getD j 0=((crd c v).getD j 0).tdiv (dC c):=by
 simp[qLd,List.getD,zcj,hj]
def qTo(c:LL)(v:LI)(k:Nat):LI:=(List.range c.length).map fun j=>if j<k then(qLd c v).getD j 0 else(crd c v).getD j 0
theorem zyL(c:LL)(v:LI)(k:Nat):(qTo c v k).length=c.length:=by simp[qTo]
theorem zGm(c:LL)(v:LI):qTo c v 0=crd c v:=by
 apply List.ext_getElem (by simp[qTo,zcj]);intro i h1 h2;simp[qTo,List.getD,h2]
theorem zIS(c:LL)(v:LI):qTo c v c.length=qLd c v:=by
 apply List.ext_getElem (by simp[qTo,zfK]);intro i h1 h2;have hi:i<c.length:=by simpa [qTo] using h1
 simp[qTo,List.getD,hi,h2]
theorem zJP{c:LL}{v:LI}{k:Nat}(hk:k<c.length):(qTo c v k).getD k 0=(crd c v).getD k 0:=by simp[qTo,List.getD,hk]
theorem zIT{c:LL}{v:LI}{k:Nat}(hk:k<c.length):(qTo c v k).set k (((crd c v).getD k 0).tdiv (dC c))=qTo c v (k+1):=by
 rw[<-zGl hk];apply List.ext_getElem (by simp[qTo]);intro i h1 h2;have hi:i<c.length:=by simpa [qTo] using h2
 rw[List.getElem_set];by_cases e:k=i
 ·subst e;rw[if_pos rfl];simp[qTo]
 ·rw[if_neg e];simp only[qTo,List.getElem_map,List.getElem_range];by_cases h:i<k
  ·rw[if_pos h,if_pos (by omega)]
  ·rw[if_neg h,if_neg (by omega)]
theorem zjz(gc oc n cc g1 o1 c1 g2 o2 c2:Nat)(c:LL)(b a:LI)(w:World)(hn:c.length=n)(ha:a.length=n)(hb:b.length=n)(kn:∀j,j<n→-900<=b.getD j 0/\b.getD j 0<=900)(eC:∀j,j<n→-1000<=a.getD j 0/\a.getD j 0<=1000)(hK:zeT c)
 (ah:gc<w.heap.size) (bm:g1<w.heap.size) (aP:g2<w.heap.size) (hr:zal w gc oc c) (aI:zag w g1 o1 b) (aH:zag w g2 o2 a):
 Calls Tryz.prog 140 #[(qS (some ⟨gc,oc,none⟩) n cc),(qS (some ⟨g1,o1,none⟩) n c1),(qS (some ⟨g2,o2,none⟩) n c2)] w (zav w (qLd c (zaS b a (-1)))):=by
 subst hn;have hC:=hK.hC;have aR:=hC.2.1
 have hV:SmW c.length (zaS b a (-1)):=⟨by rw[zcU];exact hb,fun j hj=>by
  rw[zhU _ _ _ (by omega)];have:=kn j hj;have:=eC j hj;omega⟩
 have HL:=qd (zgh g1 o1 c.length c1 g2 o2 c2 b a (-1) w hb ha (by omega) (fun j hj=>by have:=kn j hj;omega) eC (by omega) bm aP aI aH);have HX:=qd (fun W (hW:Below w.heap.size w W) g3 c3 (ho:Own W w.heap.size g3 c3 (zaS b a (-1)))=>zjD gc oc c.length cc g3 0 c3 c _ W rfl hC hV (qL ah hW.size) ho.lt (hr.below hW ah) ho.cells);have HD:=qd (fun W (hW:Below w.heap.size w W)=>show Calls Tryz.prog 151 #[(qS (some ⟨gc,oc,none⟩) c.length cc)] W (zbb W (.int .i64 (dC c))) from zjV c.length aR gc oc cc c W (Sq.toM ⟨rfl,hC.2.2.1,zid hC⟩) (qL ah hW.size) (hr.below hW ah));have Sc:=qd hV.1;have Sd:=qd (fun(i:Nat) (hi:i<c.length)=>zrY hC hV hi);have uy:=zuL hC;have rB:=hK.pos;have EE:=qd (zcj c (zaS b a (-1)));have Q0:=qd (zGm c (zaS b a (-1)));have Q1:=qd (zIS c (zaS b a (-1)));have Q2:=qd (fun k (hk:k<c.length)=>zJP (v:=zaS b a (-1)) hk);have Q3:=qd (fun k (hk:k<c.length)=>zIT (v:=zaS b a (-1)) hk);have Q4:=qd (fun k=>zyL c (zaS b a (-1)) k);rw[<-Q1.out];clear hV ha hb kn eC hK Q1;generalize dC c=d at*;generalize qTo c (zaS b a (-1))=Q at*;generalize crd c (zaS b a (-1))=X at*;generalize zaS b a (-1)=V at*
 go_enter Tryz.func140,Tryz.ntmps140
 go_wp2_with fail;refine HL.out.mono ?_;rintro e w1 ⟨g3,c3,rfl,al,ad⟩;rw[Sc.out];go_wp2_with fail;refine(HX.out w1 ad g3 c3 al).mono ?_;rintro e w2 ⟨g4,c4,rfl,aw,ae⟩;rw[EE.out];have az:=ad.trans (ae.mono ad.size);have aw:=aw.mono ad.size;clear ae al;go_wp2_with fail;refine(HD.out w2 az).mono ?_;rintro e w3 ⟨rfl,ag⟩;have ap:=az.trans (ag.mono az.size);have aD:=aw.below ag aw.lt;clear ag aw az;go_wp2_with fail;go_loopw [9] (fun iv wr=>∃i:Nat,i<=c.length/\iv= .int .i64 i/\Own wr w.heap.size g4 c4 (Q i)/\Below w.heap.size w wr) (fun iv _=>c.length-(intOf iv).toNat)
 case atStart=>exact⟨0,qz _,rfl,by rw[Q0.out];exact aD,ap⟩
 case round=>
  obtain⟨i,hi,rfl,ho,hb⟩:=hrel;by_cases bG:i<c.length
  ·have x0:=ho.cell i (by rw[Q4.out];exact bG);rw[Q2.out i bG] at x0;have y0:=ho.frozen i;have bE:=Sd.out i bG;have s1:=ho.set i ((X.getD i 0).tdiv d);rw[Q3.out i bG] at s1;have dc:Below w.heap.size w (wr.setCell ⟨g4,i,none⟩ (.int .i64 ((X.getD i 0).tdiv d))):=hb.grown s1.2 hb.size (by intro j hj;cases hj;exact ho.base);generalize X.getD i 0=x at*;obtain⟨s1,-⟩:=s1;have Qr:(d==0)=false:=by simp;omega
   go_wp2_with fail;go_roundw
   case rel=>exact⟨i+1,by omega,by go_num,s1,dc⟩
   case measure=>simp[intOf];omega
  ·obtain rfl:i=c.length:=by omega
   go_wp2_with fail;go_ret;exact⟨g4,c4,by rw[Q4.out];rfl,ho,hb⟩
end
section
open Go.RowKit Game
theorem zGn(y t:Int):wrap64 (y-18446744073709551616*t)=wrap64 y:=by unfold wrap64;omega
theorem zpD(a b:Int):wrap64 (wrap64 a*b)=wrap64 (a*b):=by
 obtain⟨q,hq⟩:∃q,wrap64 a=a-18446744073709551616*q:=⟨(a+9223372036854775808) / 18446744073709551616,by unfold wrap64;omega⟩;rw[hq,Int.sub_mul,Int.mul_assoc,zGn]
theorem zBm(m r d x:Int):wrap64 (wrap64 (wrap64 (wrap64 (2*m)*r)*d)*x)=wrap64 (2*(m*(r*d*x))):=by
 rw[zpD (2*m) r,zpD (2*m*r) d,zpD (2*m*r*d) x];congr 1;simp only[Int.mul_assoc]
theorem zBn{c:LL}{u r:LI}{k:Nat}(hu:u.length=c.length):zaS u (wtR c r) (k:Int)=ray c u r k:=by
 apply List.ext_getElem (by rw[zcU,zes,hu]);intro i h1 h2;have hi:i<c.length:=by rw[zes] at h2;exact h2
 have e1:=zhU u (wtR c r) (k:Int) (j:=i) (by omega);have e2:=zjj (u:=u) (r:=r) (k:=k) hi;have f1:(zaS u (wtR c r) (k:Int)).getD i 0=(zaS u (wtR c r) (k:Int))[i]:=by simp[List.getD,h1]
 have f2:(ray c u r k).getD i 0=(ray c u r k)[i]:=by simp[List.getD,h2]
 rw[<-f1,<-f2,e1,e2]
theorem zoy(gc oc n cc gv ov m cv gu ou cu gR oR nR cR gd od cd g6 o6 n6 c6:Nat)(v:LI)(w:World)(hm:v.length=m)(hx:m<=1048576)(iO:zag w gv ov v)(nj:zag w gu ou v):
 Calls Tryz.prog 141 #[(qS (some ⟨gc,oc,none⟩) n cc),(qS (some ⟨gv,ov,none⟩) m cv),(qS (some ⟨gu,ou,none⟩) m cu),(qS (some ⟨gR,oR,none⟩) nR cR),(qS (some ⟨gd,od,none⟩) n cd),(qS (some ⟨g6,o6,none⟩) n6 c6)] w (zbb w (.int .i64 1)):=by
 have aa:=zcK gv ov m cv gu ou m cu v v w hm hm (by omega) iO nj;rw[decide_eq_true (rfl:v=v)] at aa;have ab:=qd aa;clear aa
 go_enter Tryz.func141,Tryz.ntmps141
 go_wp2_with fail;refine ab.out.mono ?_;rintro e w1 ⟨rfl,bh⟩;have hb:=zaf (Below.refl w.heap.size w) bh;clear ab;go_wp2_with fail;go_ret;exact⟨rfl,hb⟩
theorem zpE(gc oc n cc gd od cd gR oR nR cR gv ov cv gu ou cu g6 o6 n6 c6:Nat)(c:LL)(d v u:LI)(K:List Wt)(w:World)(hn:c.length=n)(Jz:(zaq c).length=nR)(Oo:K.length=n6)(Oq:zgb K)(h:zlF c d v u K)
 (ah:gc<w.heap.size) (dH:gd<w.heap.size) (ue:gR<w.heap.size) (wV:gv<w.heap.size) (eO:gu<w.heap.size) (fG:g6<w.heap.size) (hr:zal w gc oc c) (rT:zag w gd od d) (uf:zal w gR oR (zaq c)) (iO:zag w gv ov v) (nj:zag w gu ou u) (Se:zgo w g6 o6 K):
 Calls Tryz.prog 141 #[(qS (some ⟨gc,oc,none⟩) n cc),(qS (some ⟨gv,ov,none⟩) n cv),(qS (some ⟨gu,ou,none⟩) n cu),(qS (some ⟨gR,oR,none⟩) nR cR),(qS (some ⟨gd,od,none⟩) n cd),(qS (some ⟨g6,o6,none⟩) n6 c6)] w (zbb w (.int .i64 (frV c d v (zaD c v u) K u))):=by
 subst hn;subst Jz;have aR:=h.hS.hC.2.1;have sj:(zaq c).length<=24:=by have:=(zlE c).1;rwa [zeA h.hS.fin] at this
 have dq:=h.hS.len;have fp:=h.hu.len;have jg:=qd dq;have eS:=qd fp;have H:=qd h;have zw:=qd (fun r (hr:r∈zaq c)=>zkI h.hP hr);have HE:Hid (frV c d v (zaD c v u) K u=(wrap64 (2*frS c d u K (zaq c))).tdiv (pr3 d (zaD c v u) (zcX c v u) c.length)):=rfl;have aa:=zcK gv ov c.length cv gu ou c.length cu v u w dq fp (by omega) iO nj;rw[decide_eq_false (show¬v=u from fun e=>h.ne e.symm)] at aa;have ab:=qd aa;have Sf:=qd Oq;have Sg:=qd Oo;rw[HE.out];clear dq fp h HE aa Oq Oo
 go_enter Tryz.func141,Tryz.ntmps141
 go_wp2_with fail;refine ab.out.mono ?_;rintro e w1 ⟨rfl,bh⟩;have ad:=zaf (Below.refl w.heap.size w) bh;clear ab bh;go_wp2_with fail;go_loopw [13,14] (fun sv tv wr=>∃(t:Nat) (A:Int),t<=(zaq c).length/\tv= .int .i64 t/\sv= .int .i64 (wrap64 (2*A))/\Hid (A+frS c d u K ((zaq c).drop t)=frS c d u K (zaq c))/\Below w.heap.size w wr) (fun _ tv _=>(zaq c).length-(intOf tv).toNat)
 case atStart=>exact⟨0,0,qz _,rfl,by rw[show wrap64 (2*0)=0 by unfold wrap64;omega],by show _=_;rw[List.drop_zero,Int.zero_add],ad⟩
 case round=>
  clear ad;obtain⟨t,A,ht,rfl,rfl,hA,hb⟩:=hrel;by_cases bU:t<(zaq c).length
  ·have pS:(zaq c).getD t []∈zaq c:=by simp[List.getD,bU]
   have fe:=zw.out _ pS;obtain⟨gj,oj,cj,q1,q2,q3,q4⟩:=(uf.below hb ue) t bU;have hJ:=hA.out;rw[zuV c d u K bU] at hJ;have sd:=qd (fun k (hk:k<=60) hn=>H.out.few pS (k:=k) hk hn);have zx:=qd (fun k (hk:k<=60)=>H.out.box pS (k:=k) hk);have Si:=qd (fun j (hj:j<c.length)=>(ztO H.out.hS.hC fe hj).2);have ev:=qd (fun W (hW:Below w.heap.size w W)=>(uf.below hW ue) t bU);generalize (zaq c).getD t []=r at*;rw[fe.1] at q1;have aa:=zhd gc oc _ cc gj oj _ cj c r wr rfl fe.1 H.out.hS.hC fe.1 (qL ah hb.size) q3 (hr.below hb ah) q4;have ab:=qd aa;have HA:=qd hJ;have vp:=qd fe;have Gs:=qd q4;have Ot:=qd q1;clear aa hJ hA fe q2 q4;go_wp2_with fail;refine ab.out.mono ?_;rintro e w3 ⟨gs,cs,rfl,eG,ag⟩;have ap:=hb.trans (ag.mono hb.size);have Gt:zag w3 gj oj r:=Gs.out.below ag q3;have vq:gj<w3.heap.size:=qL q3 ag.size;have EF:w3.cell? ⟨gR,oR+t,none⟩=some (qS (some ⟨gj,oj,none⟩) c.length cj):=(ag.cell (p:=⟨gR,oR+t,none⟩) (qL ue hb.size)).trans Ot.out;have Lm:gR<w3.heap.size:=qL ue ap.size;have cC:=zgT c r;rw[cC];have Be:=eG.lt;have EG:=eG.cells;have fH:=qd cC;clear ab hb ag eG cC Ot Gs q1 q3 ev;go_wp2_with fail;go_loopg [13,16] 60 (fun gk sv kv wi=>∃(k:Nat) (a:Int),1<=k/\k<=51/\61-k<=gk/\sv= .int .i64 (wrap64 (2*a))/\kv= .int .i64 k/\Hid (a+(zfH c d r u K (61-k) k+frS c d u K ((zaq c).drop (t+1)))=frS c d u K (zaq c))/\Below w3.heap.size w3 wi)
   case atStart=>exact⟨1,A,by omega,by omega,by omega,rfl,rfl,HA,Below.refl _ _⟩
   case round=>
    clear HA;obtain⟨k,a,pe,JC,Ba,rfl,rfl,hA,bX⟩:=hrel;have pT:=ap.trans (bX.mono ap.size);have gh:=zx.out k (by omega);have oC:=H.out.hu.box;have Ou:=Si.out;have aa:=zgh gu ou c.length cu gs 0 cs u (wtR c r) (k:Int) wr eS.out fH.out (by omega) (fun j hj=>by have:=oC j hj;omega) (fun j hj=>by have:=Ou j hj;omega) (by omega) (qL eO pT.size) (qL Be bX.size) (nj.below pT eO) (EG.below bX Be);rw[zBn eS.out] at aa;have an:=zes c u r k;have oA:=sd.out k (by omega)
    have gG:zfH c d r u K (61-k) k=if zaC K (zbd c (ray c u r k))=0 then 0 else zaC K (zbd c (ray c u r k))*pr3 d r (ray c u r k) c.length+zfH c d r u K (61-(k+1)) (k+1):=by
     obtain⟨f,hf⟩:∃f,61-k=f+1:=⟨60-k,by omega⟩;have wh:61-(k+1)=f:=by omega
     rw[hf,wh];rfl
    have hJ:=hA.out;rw[gG] at hJ;have hD:zbY c (ray c u r k):=⟨H.out.hS.hC,H.out.hS.fin,an,fun j hj=>by have:=gh j (by omega);omega⟩;have mz:=(zjh H.out.hS.hC H.out.hS.fin an (fun j hj=>by have:=gh j hj;omega)).len;have ab:=qd aa;have pU:=qd hJ;have HD:=qd hD;have sk:=qd oA;have pV:=qd mz;clear aa hJ hA gG hD gh oA mz oC Ou;generalize qJ:ray c u r k=x at*;clear qJ;go_wp2_with fail;refine ab.out.mono ?_;rintro e w5 ⟨g5,c5,rfl,aD,aQ⟩;have bj:=pT.trans (aQ.mono pT.size);have oB:=bX.trans (aQ.mono bX.size);rw[an];have sl:=zea gc oc _ cc g5 0 _ c5 c x w5 rfl an HD.out (qL ah bj.size) aD.lt (hr.below bj ah) aD.cells;have sn:=qd sl;have nl:=qd an;clear ab pT bX aQ sl an;go_wp2_with fail;refine sn.out.mono ?_;rintro e w6 ⟨g6',c6',g7,c7,rfl,aO,-,bJ⟩;have de:=bj.trans (bJ.mono bj.size);have pW:=oB.trans (bJ.mono oB.size);have pX:=aD.below bJ aD.lt;have so:=pX.cells;generalize zbd c x=tx at*;have pY:=ziT g6 o6 n6 c6 g6' 0 c.length c6' K tx w6 Sg.out pV.out Sf.out (Se.below de fG) aO.cells;have sp:=qd pY;clear sn bj oB aD bJ pX pY aO;go_wp2_with fail;refine sp.out.mono ?_;rintro e w7 ⟨rfl,Ag⟩;have iy:=zaf de Ag;have pZ:=zaf pW Ag;have Sj:=so.still Ag;have JE:=rT.below iy dH;have JF:zag w7 gj oj r:=Gt.below pZ vq;have EH:=(pZ.cell (p:=⟨gR,oR+t,none⟩) Lm).trans EF;clear sp de pW Ag so;by_cases hm:zaC K tx=0
    ·rw[if_pos hm] at pU;rw[hm];clear hm;have nD:Hid (a+frS c d u K ((zaq c).drop (t+1))=frS c d u K (zaq c)):=by have h:=pU.out;rw[Int.zero_add] at h;exact h
     go_wp2_with fail;go_roundw
     case rel=>exact⟨t+1,a,by omega,by go_num,rfl,nD,iy⟩
     case measure=>simp[intOf];omega
    ·rw[if_neg hm] at pU;have JG:k<=50:=sk.out hm;generalize zaC K tx=m at*;have vt:(m==0)=false:=by simpa using hm
     have uI:¬m=0:=hm;have nD:Hid (a+m*pr3 d r x c.length+(zfH c d r u K (61-(k+1)) (k+1)+frS c d u K ((zaq c).drop (t+1)))=frS c d u K (zaq c)):=by have h:=pU.out;show _=_;omega
     have sW:=qd (fun i=>zlB d r x i);have H0:Hid (pr3 d r x 0=0):=rfl;have tZ:=qd H.out.hD.len;clear hm pU;go_wp2_with fail;go_loopw [13,22] (fun sv iv wi=>∃i:Nat,i<=c.length/\iv= .int .i64 i/\sv= .int .i64 (wrap64 (2*(a+m*pr3 d r x i)))/\∃q,wi=w7.drewN q) (fun _ iv _=>c.length-(intOf iv).toNat)
     case atStart=>exact⟨0,qz _,rfl,by rw[H0.out,Int.mul_zero,Int.add_zero],0,rfl⟩
     case round=>
      obtain⟨i,hi,rfl,rfl,hs⟩:=hrel;by_cases bG:i<c.length
      ·have k0:=(zau hs _).trans EH;have k1:=(zau hs _).trans (JF i (by rw[vp.out.1];exact bG));have k2:=(zau hs _).trans (JE i (by rw[tZ.out];exact bG));have k3:=(zau hs _).trans (Sj i (by rw[nl.out];exact bG));rw[Nat.zero_add] at k3;have kY:=sW.out i
       have bF:wrap64 (wrap64 (2*(a+m*pr3 d r x i))+wrap64 (wrap64 (wrap64 (wrap64 (2*m)*r.getD i 0)*d.getD i 0)*x.getD i 0))=wrap64 (2*(a+m*pr3 d r x (i+1))):=by
        rw[zBm,zuU,kY];congr 1;rw[Int.mul_add m];omega
       generalize Ov:wrap64 (2*(a+m*pr3 d r x (i+1)))=sF at*;have Sk:=qd Ov;clear Ov;generalize wrap64 (2*(a+m*pr3 d r x i))=s0 at*;generalize r.getD i 0=ri at*;generalize d.getD i 0=di at*;generalize x.getD i 0=xi at*;obtain⟨z1,e1⟩:∃z,wrap64 (2*m)=z:=⟨_,rfl⟩;obtain⟨z2,e2⟩:∃z,wrap64 (z1*ri)=z:=⟨_,rfl⟩;obtain⟨z3,e3⟩:∃z,wrap64 (z2*di)=z:=⟨_,rfl⟩;obtain⟨z4,e4⟩:∃z,wrap64 (z3*xi)=z:=⟨_,rfl⟩;rw[e1,e2,e3,e4] at bF;have f1:IntKind.i64.wrap (2*m)=z1:=by rw[<-e1];simp only[wrap64,IntKind.wrap_i64]
       have f2:IntKind.i64.wrap (z1*ri)=z2:=by rw[<-e2];simp only[wrap64,IntKind.wrap_i64]
       have f3:IntKind.i64.wrap (z2*di)=z3:=by rw[<-e3];simp only[wrap64,IntKind.wrap_i64]
       have f4:IntKind.i64.wrap (z3*xi)=z4:=by rw[<-e4];simp only[wrap64,IntKind.wrap_i64]
       have f5:IntKind.i64.wrap (s0+z4)=sF:=by rw[<-bF];simp only[wrap64,IntKind.wrap_i64]
       clear kY;go_wp2_with fail;go_quiet (fail)
       go_wp2_with fail;go_roundw
       case rel=>exact⟨i+1,by omega,by go_num,by rw[Sk.out],zbg hs ⟨nq,rfl⟩⟩
       case measure=>simp[intOf];omega
      ·obtain rfl:i=c.length:=by omega
       have kd:=zaf iy hs;have zC:=zaf pZ hs;go_wp2_with fail
       go_roundg (61-(k+1))
       case measure=>omega
       case rel=>exact⟨k+1,a+m*pr3 d r x c.length,by omega,by omega,qr _,rfl,by go_num,nD,zC⟩
  ·obtain rfl:t=(zaq c).length:=by omega
   have hJ:=hA.out;have he:(zaq c).drop (zaq c).length=[]:=List.drop_length;rw[he] at hJ
   have nD:A=frS c d u K (zaq c):=by
    have e0:frS c d u K []=0:=rfl;omega
   subst nD;have oC:=H.out.hu.box;have bZ:=H.out.hS.small;have wY:=zjs H.out.hK H.out.hS H.out.hu;have Nl:=zpl H.out.hK H.out.hS H.out.hu H.out.ne H.out.hD.box;have aa:=zjz gc oc _ cc gv ov cv gu ou cu c v u wr rfl eS.out jg.out (fun j hj=>by have:=bZ j hj;omega) (fun j hj=>by have:=oC j hj;omega) H.out.hK (qL ah hb.size) (qL wV hb.size) (qL eO hb.size) (hr.below hb ah) (iO.below hb wV) (nj.below hb eO);have tn:Calls Tryz.prog 140 #[(qS (some ⟨gc,oc,none⟩) c.length cc),(qS (some ⟨gv,ov,none⟩) c.length cv),(qS (some ⟨gu,ou,none⟩) c.length cu)] wr (zav wr (zaD c v u)):=aa;have Sl:=qd (fun k hk=>znZ (d:=d) (r:=zaD c v u) (x:=zcX c v u) (n:=c.length) (fun j hj=>zcx (by have:=H.out.hD.box j hj;omega)) (fun j hj=>zcx (by have:=wY.box j hj;omega)) (fun j hj=>zcx (by rw[zfU hj];have:=bZ j hj;have:=oC j hj;omega)) k hk);have Sn:=qd (fun j (hj:j<c.length)=>zfU (c:=c) (v:=v) (u:=u) hj);have sW:=qd (fun i=>zlB d (zaD c v u) (zcX c v u) i);have H0:Hid (pr3 d (zaD c v u) (zcX c v u) 0=0):=rfl;have tZ:=qd (zcY c v u);have Ln:=qd wY.box;have we:=qd H.out.hD;have Ow:=qd oC;have eH:=qd bZ;have ab:=qd tn;clear hJ he hA aa tn wY oC bZ;generalize frS c d u K (zaq c)=FS at*;generalize zaD c v u=dep at*;go_wp2_with fail;refine ab.out.mono ?_;rintro e w3 ⟨g3,c3,rfl,al,ag⟩;have ap:=hb.trans (ag.mono hb.size);have Lo:=al.cells;rw[tZ.out];clear ab hb ag al;go_wp2_with fail;go_loopw [24,25] (fun sv iv wi=>∃i:Nat,i<=c.length/\iv= .int .i64 i/\sv= .int .i64 (pr3 d dep (zcX c v u) i)/\∃q,wi=w3.drewN q) (fun _ iv _=>c.length-(intOf iv).toNat)
   case atStart=>exact⟨0,qz _,rfl,by rw[H0.out],0,rfl⟩
   case round=>
    obtain⟨i,hi,rfl,rfl,hs⟩:=hrel;by_cases bG:i<c.length
    ·have k1:=(zau hs _).trans (Lo i (by rw[tZ.out];exact bG));rw[Nat.zero_add] at k1;have k2:=(zau hs _).trans (rT.below ap dH i (by rw[we.out.len];exact bG));have k3:=(zau hs _).trans (iO.below ap wV i (by rw[jg.out];exact bG));have k4:=(zau hs _).trans (nj.below ap eO i (by rw[eS.out];exact bG));have kY:=sW.out i;rw[Sn.out i bG] at kY;have b1:=Sl.out i (by omega);have b2:=zhH (A:=200) (B:=6) (zcx (x:=dep.getD i 0) (by have:=Ln.out i bG;omega)) (zcx (x:=d.getD i 0) (by have:=we.out.box i bG;omega));have b3:=zhH (A:=200*6) (B:=1000) b2 (zcx (x:=v.getD i 0+u.getD i 0+2) (by have:=eH.out i bG;have:=Ow.out i bG;omega));have b4:=eH.out i bG;have b5:=Ow.out i bG;have Tu:i<=4:=by omega
     generalize dep.getD i 0=qi at*;generalize d.getD i 0=di at*;generalize v.getD i 0=vi at*;generalize u.getD i 0=ui at*;generalize pr3 d dep (zcX c v u) i=S at*;have e1:wrap64 (qi*di)=qi*di:=IntWalk.wrap64_in _ ⟨by omega,by omega⟩;have e2:wrap64 (vi+ui)=vi+ui:=IntWalk.wrap64_in _ ⟨by omega,by omega⟩;have e3:wrap64 (vi+ui+2)=vi+ui+2:=IntWalk.wrap64_in _ ⟨by omega,by omega⟩;have e4:wrap64 (qi*di*(vi+ui+2))=qi*di*(vi+ui+2):=IntWalk.wrap64_in _ ⟨by omega,by omega⟩;have e5:wrap64 (S+qi*di*(vi+ui+2))=S+qi*di*(vi+ui+2):=IntWalk.wrap64_in _ ⟨by omega,by omega⟩;have f1:IntKind.i64.wrap (qi*di)=qi*di:=IntWalk.i64_in _ ⟨by omega,by omega⟩;have f2:IntKind.i64.wrap (vi+ui)=vi+ui:=IntWalk.i64_in _ ⟨by omega,by omega⟩;have f3:IntKind.i64.wrap (vi+ui+2)=vi+ui+2:=IntWalk.i64_in _ ⟨by omega,by omega⟩;have f4:IntKind.i64.wrap (qi*di*(vi+ui+2))=qi*di*(vi+ui+2):=IntWalk.i64_in _ ⟨by omega,by omega⟩;have f5:IntKind.i64.wrap (S+qi*di*(vi+ui+2))=S+qi*di*(vi+ui+2):=IntWalk.i64_in _ ⟨by omega,by omega⟩;have vK:=qd kY;clear kY b1 b2 b3;go_wp2_with fail;go_quiet (fail)
     go_wp2_with fail;go_roundw
     case rel=>exact⟨i+1,by omega,by go_num,by rw[vK.out],zbg hs ⟨nq,rfl⟩⟩
     case measure=>simp[intOf];omega
    ·obtain rfl:i=c.length:=by omega
     have kd:=zaf ap hs;have Nn:-9223372036854775808<=wrap64 (2*FS)/\wrap64 (2*FS)<=9223372036854775807:=by unfold wrap64;omega
     generalize pr3 d dep (zcX c v u) c.length=D at*;have JJ:¬D=0:=by omega
     go_wp2_with fail;go_ret;exact⟨rfl,kd⟩
end
end Go.Proofs.YtlgcmaoimpgedaaGreatDoor

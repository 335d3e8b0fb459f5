/- PosR FrI Szr SzrK -/
import Derived.Test.YtlgcmaoimpgedaaGreatDoorT31
import Derived.Test.YtlgcmaoimpgedaaGreatDoorT32
import Derived.Test.YtlgcmaoimpgedaaGreatDoorT30
set_option maxHeartbeats 4000000
set_option maxRecDepth 100000
set_option linter.unusedSimpArgs false
namespace Go.Proofs.YtlgcmaoimpgedaaGreatDoor
open Go.Value renaming slice->qS
section
open Go.RowKit Game
def zpr(c:LL):LL:=if zaN c=true then zaq c else[]
theorem zeA{c:LL}(h:zaN c=true):zpr c=zaq c:=if_pos h
theorem zuT{c:LL}(h:zaN c=false):zpr c=[]:=if_neg (by rw[h];decide)
theorem zlD{c:LL}(h:zaN c=true):IsC c:=by
 unfold zaN at h;rw[Bool.and_eq_true] at h;simpa using h.1
theorem zcJ{c:LL}(h:zaN c=true):zbI c:=zCt (zIB (zlD h) h)
theorem zgm(gc oc n cc:Nat)(c:LL)(w:World)(hn:c.length=n)(hl:c.length<=1048576)(an:∀j,j<c.length->(c.getD j []).length<=1048576)(ah:gc<w.heap.size)(hr:zal w gc oc c):
 Calls Tryz.prog 94 #[(qS (some ⟨gc,oc,none⟩) n cc)] w (zaj w (zpr c) (zaN c)):=by
 have aa:=fun W (hW:Below w.heap.size w W)=>zcE gc oc n cc c W hn hl an (qL ah hW.size) (hr.below hW ah)
 cases hf:zaN c with
 |false=>
  rw[hf] at aa;rw[zuT hf];exact zkx gc oc n cc w (aa w (Below.refl _ _))
 |true=>
  rw[hf] at aa;rw[zeA hf];exact zkw gc oc n cc c w hn (zlD hf) (zcJ hf) ah hr aa
theorem zlE(c:LL):(zpr c).length<=24/\∀x∈zpr c,x.length<=4:=by
 unfold zpr
 split
 ·rename_i h
  exact⟨(zcJ h).few,fun x hx=>by rw[zxn c x hx];exact(zlD h).2.1⟩
 ·exact⟨by simp,by simp⟩
end
section
open Go.RowKit Game
theorem zuU(a b:Int):wrap64 (wrap64 a+wrap64 b)=wrap64 (a+b):=by unfold wrap64;omega
theorem zAh(a:Int):wrap64 (2*wrap64 a)=wrap64 (2*a):=by unfold wrap64;omega
theorem zFf{c:LL}{u r:LI}(hu:u.length=c.length):ray c u r 0=u:=by
 apply List.ext_getElem (by simp[ray,hu]);intro i h1 h2;have hi:i<c.length:=by simpa [ray] using h1
 simp[ray,List.getD,h2]
theorem zFg{c:LL}{u r:LI}{k:Nat}(hb:∀j,j<c.length→-1000<=(ray c u r (k+1)).getD j 0/\(ray c u r (k+1)).getD j 0<=1000):addTo (ray c u r k) (wtR c r) c.length=ray c u r (k+1):=by
 apply List.ext_getElem (by simp[addTo,ray]);intro i h1 h2;have hi:i<c.length:=by simpa [ray] using h2
 have h3:=hb i hi;rw[zjj hi] at h3;have e1:(addTo (ray c u r k) (wtR c r) c.length)[i]=wrap64 ((ray c u r k).getD i 0+(wtR c r).getD i 0):=by simp[addTo]
 have e2:(ray c u r (k+1))[i]=u.getD i 0+((k+1:Nat):Int)*(wtR c r).getD i 0:=by simp[ray]
 rw[e1,e2,zjj hi]
 have e3:u.getD i 0+(k:Int)*(wtR c r).getD i 0+(wtR c r).getD i 0=u.getD i 0+((k+1:Nat):Int)*(wtR c r).getD i 0:=by
  rw[Int.natCast_add,Int.add_mul];simp;omega
 rw[e3];exact IntWalk.wrap64_in _ ⟨by omega,by omega⟩
theorem zFh(c:LL)(d u:LI)(K:List Wt)(r:LI)(R:LL):frS c d u K (r::R)=zfH c d r u K 60 1+frS c d u K R:=by simp[frS]
theorem zuV(c:LL)(d u:LI)(K:List Wt){R:LL}{t:Nat}(ht:t<R.length):frS c d u K (R.drop t)=zfH c d (R.getD t []) u K 60 1+frS c d u K (R.drop (t+1)):=by
 rw[List.drop_eq_getElem_cons ht,zFh];simp[List.getD,ht]
theorem zsb{c:LL}{v u:LI}(hv:∀j,j<c.length→-1000<=v.getD j 0/\v.getD j 0<=1000)(hu:∀j,j<c.length→-1000<=u.getD j 0/\u.getD j 0<=1000){j:Nat}(hj:j<c.length):(addTo v u c.length).getD j 0=v.getD j 0+u.getD j 0:=by
 have e:(addTo v u c.length).getD j 0=wrap64 (v.getD j 0+u.getD j 0):=by simp[addTo,List.getD,hj]
 rw[e];have:=hv j hj;have:=hu j hj;exact IntWalk.wrap64_in _ ⟨by omega,by omega⟩
def zec(n:Nat)(x:LI)(k:Nat):LI:=(List.range n).map fun j=>if j<k then x.getD j 0+2 else x.getD j 0
theorem zuW(n:Nat)(x:LI)(k:Nat):(zec n x k).length=n:=by simp[zec]
theorem zyt{n:Nat}{x:LI}(hx:x.length=n):zec n x 0=x:=by
 apply List.ext_getElem (by simp[zec,hx]);intro i h1 h2;simp[zec,List.getD,h2]
theorem zyu{n:Nat}{x:LI}{k:Nat}(hk:k<n):(zec n x k).getD k 0=x.getD k 0:=by simp[zec,List.getD,hk]
theorem zAi{n:Nat}{x:LI}{k:Nat}(_hk:k<n):(zec n x k).set k (x.getD k 0+2)=zec n x (k+1):=by
 apply List.ext_getElem (by simp[zec]);intro i h1 h2;have hi:i<n:=by simpa [zec] using h2
 rw[List.getElem_set];by_cases e:k=i
 ·subst e;rw[if_pos rfl];simp[zec]
 ·rw[if_neg e];simp only[zec,List.getElem_map,List.getElem_range];by_cases h:i<k
  ·rw[if_pos h,if_pos (by omega)]
  ·rw[if_neg h,if_neg (by omega)]
theorem zAj{c:LL}{v u x:LI}(h:∀j,j<c.length->x.getD j 0=v.getD j 0+u.getD j 0):zec c.length x c.length=zcX c v u:=by
 apply List.ext_getElem (by simp[zec,zcX]);intro i h1 h2;have hi:i<c.length:=by simpa [zec] using h1
 have:=h i hi;simp[zec,zcX,hi] at this ⊢;omega
structure DOk(c:LL)(d:LI):Prop where
 len:d.length=c.length
 box:∀j,j<c.length->1<=d.getD j 0/\d.getD j 0<=6
structure zlF(c:LL)(d v u:LI)(K:List Wt):Prop where
 hS:zbi c v
 hP:zbI c
 hF:zpe c
 hK:zeT c
 hD:DOk c d
 hu:zbw c v u
 ne:u≠v
 mem:∀x∈K,zbw c v x.1
theorem zlF.few{c:LL}{d v u r:LI}{K:List Wt}(h:zlF c d v u K)(hr:r∈zaq c){k:Nat}(hk:k<=60)(hn:zaC K (zbd c (ray c u r k))≠0):k<=50:=by
 refine Classical.byContradiction fun aJ=>hn ?_
 refine zjl fun x hx e=>aJ ?_
 exact zHM h.hS h.hP h.hF h.hu (h.mem x hx) hr hk e.symm
theorem zlF.box{c:LL}{d v u r:LI}{K:List Wt}(h:zlF c d v u K)(hr:r∈zaq c){k:Nat}(hk:k<=60):∀j,j<c.length→-180<=(ray c u r k).getD j 0/\(ray c u r k).getD j 0<=202:=znS h.hS.hC h.hS.fin hr h.hu.box hk
theorem zgq{w:World}{b n m:Nat}{out:List Wt}{ops:Array Oper}{rest:List Oper}{o:Oper}{a:Act}{Q:Exit->Act->World->Prop}
 (hg:o.guard=none) (x y:Operand) (cS:o.op=Op.lookup 107 x y false) (v:LI) (z:Int) (hz:zaC out v=z) (hv:v.length=m) (hw:WfV v)
 (ai:zcl w b n m out) (hx:a.eval x= .map (some b)) (hy:a.eval y=zbo v)
 (hK:wpList Tryz.prog ops Q rest (a.put o.dst (.int .i64 z)) w):
 wpList Tryz.prog ops Q (o::rest) a w:=by
 subst hz;exact zrj hg x y cS b n m out v hv hw ai hx hy hK
theorem zcx{x:Int}{N:Nat}(h:-(N:Int)<=x/\x<=N):x.natAbs<=N:=by omega
theorem zmt(gc oc n cc gd od cd gR oR nR cR gv ov cv gu ou cu bM nM:Nat)(c:LL)(d v u:LI)(K:List Wt)(w:World)(hn:c.length=n)(aS:n<=cc)(Jz:(zaq c).length=nR)(h:zlF c d v u K)
 (ah:gc<w.heap.size) (dH:gd<w.heap.size) (ue:gR<w.heap.size) (wV:gv<w.heap.size) (eO:gu<w.heap.size) (hr:zal w gc oc c) (rT:zag w gd od d) (uf:zal w gR oR (zaq c)) (iO:zag w gv ov v) (nj:zag w gu ou u) (hM:zcl w bM nM n K):
 Calls Tryz.prog 128 #[(qS (some ⟨gc,oc,none⟩) n cc),(qS (some ⟨gd,od,none⟩) n cd),(qS (some ⟨gR,oR,none⟩) nR cR),(qS (some ⟨gv,ov,none⟩) n cv),(qS (some ⟨gu,ou,none⟩) n cu),.map (some bM)] w (zbb w (.int .i64 (frV c d v (zaD c v u) K u))):=by
 subst hn;subst Jz;have aR:=h.hS.hC.2.1;have sj:(zaq c).length<=24:=by have:=(zlE c).1;rwa [zeA h.hS.fin] at this
 have dq:=h.hS.len;have fp:=h.hu.len;have jg:=qd dq;have eS:=qd fp;have H:=qd h;have zw:=qd (fun r (hr:r∈zaq c)=>zkI h.hP hr);have HE:Hid (frV c d v (zaD c v u) K u=(wrap64 (2*frS c d u K (zaq c))).tdiv (pr3 d (zaD c v u) (zcX c v u) c.length)):=rfl;rw[HE.out];have mN:=hM.lt;clear dq fp h HE
 go_enter Tryz.func128,Tryz.ntmps128
 go_wp2_with fail;go_loopw [13,27] (fun sv tv wr=>∃(t:Nat) (A:Int),t<=(zaq c).length/\tv= .int .i64 t/\sv= .int .i64 (wrap64 A)/\Hid (A+frS c d u K ((zaq c).drop t)=frS c d u K (zaq c))/\Below w.heap.size w wr) (fun _ tv _=>(zaq c).length-(intOf tv).toNat)
 case atStart=>exact⟨0,0,qz _,rfl,by rw[show wrap64 0=0 by unfold wrap64;omega],by show _=_;rw[List.drop_zero,Int.zero_add],Below.refl _ _⟩
 case round=>
  obtain⟨t,A,ht,rfl,rfl,hA,hb⟩:=hrel;by_cases bU:t<(zaq c).length
  ·have pS:(zaq c).getD t []∈zaq c:=by simp[List.getD,bU]
   have fe:=zw.out _ pS;obtain⟨gj,oj,cj,q1,q2,q3,q4⟩:=(uf.below hb ue) t bU;have hJ:=hA.out;rw[zuV c d u K bU] at hJ;have sd:=qd (fun k (hk:k<=60) hn=>H.out.few pS (k:=k) hk hn);have zx:=qd (fun k (hk:k<=60)=>H.out.box pS (k:=k) hk);generalize (zaq c).getD t []=r at*;rw[fe.1] at q1;have aa:=zhc gc oc _ cc gj oj _ cj c r wr rfl fe.1 H.out.hS.hC fe.1 (qL ah hb.size) q3 (hr.below hb ah) q4;have ab:=qd aa;have HA:=qd hJ;have vp:=qd fe;have Gs:=qd q4;clear aa hJ hA fe q2 q4;go_wp2_with fail;refine ab.out.mono ?_;rintro e w3 ⟨gs,cs,rfl,eG,ag⟩;have ap:=hb.trans (ag.mono hb.size);have Gt:zag w3 gj oj r:=Gs.out.below ag q3;have vq:gj<w3.heap.size:=qL q3 ag.size;have cC:=zgT c r;rw[cC];have bD:=zjg gu ou c.length cu u w3 eS.out (by rw[eS.out];omega) (qL eO ap.size) (nj.below ap eO);have dY:=qd bD;clear ab hb ag bD;go_wp2_with fail;refine dY.out.mono ?_;rintro e w4 ⟨gx,cx,rfl,bN,aM⟩;have aG:=ap.trans (aM.mono ap.size);have QG:=Gt.below aM vq;have JA:gj<w4.heap.size:=qL vq aM.size;have zy:=eG.below aM eG.lt;have Di:=zy.lt;have JB:=zy.cells;have Dj:=bN.lt;have Dk:=bN.cells;rw[eS.out];have ux:=qd (zFf (c:=c) (r:=r) eS.out);have fH:=qd cC;clear ap Gt eG zy bN aM dY cC;go_wp2_with fail;go_loopg [13,17] 60 (fun gk sv xv wi=>∃(k gx cx:Nat) (a:Int),k<=51/\60-k<=gk/\sv= .int .i64 (wrap64 a)/\xv=(qS (some ⟨gx,0,none⟩) c.length cx)/\Hid (a+(zfH c d r u K (60-k) (k+1)+frS c d u K ((zaq c).drop (t+1)))=frS c d u K (zaq c))/\zag wi gx 0 (ray c u r k)/\gx<wi.heap.size/\Below w4.heap.size w4 wi)
   case atStart=>exact⟨0,gx,cx,A,by omega,by omega,rfl,rfl,HA,by rw[ux.out];exact Dk,Dj,Below.refl _ _⟩
   case round=>
    clear Dk Dj HA;obtain⟨k,gx,cx,a,JC,Ba,rfl,rfl,hA,Ni,kE,bX⟩:=hrel;have pT:=aG.trans (bX.mono aG.size);have gh:=zx.out (k+1) (by omega);have gn:=zFg (c:=c) (u:=u) (r:=r) (k:=k) (fun j hj=>by have:=gh j hj;omega);have aa:=zeb gx 0 c.length cx gs 0 cs (ray c u r k) (wtR c r) wr (zes _ _ _ _) fH.out (by omega) kE (qL Di bX.size) Ni (JB.below bX Di);rw[gn] at aa;have an:=zes c u r (k+1);have oA:=sd.out (k+1) (by omega)
    have gG:zfH c d r u K (60-k) (k+1)=if zaC K (zbd c (ray c u r (k+1)))=0 then 0 else zaC K (zbd c (ray c u r (k+1)))*pr3 d r (ray c u r (k+1)) c.length+zfH c d r u K (60-(k+1)) (k+1+1):=by
     obtain⟨f,hf⟩:∃f,60-k=f+1:=⟨59-k,by omega⟩;have wh:60-(k+1)=f:=by omega
     rw[hf,wh];rfl
    have hJ:=hA.out;rw[gG] at hJ;have hD:zbY c (ray c u r (k+1)):=⟨H.out.hS.hC,H.out.hS.fin,an,fun j hj=>by have:=gh j (by omega);omega⟩;have mz:=(zjh H.out.hS.hC H.out.hS.fin an (fun j hj=>by have:=gh j hj;omega)).len;have Nj:WfV (zbd c (ray c u r (k+1))):=zIi c (zik fun j hj=>by have:=gh j (by omega);omega);have nC:=fun W g9 c9 h1 h2 h3=>zjW gd od cd gj oj cj g9 0 c9 c.length d r (ray c u r (k+1)) W aR H.out.hD.len vp.out.1 an (fun j hj=>zcx (by have:=H.out.hD.box j hj;omega)) (fun j hj=>zcx (by have:=vp.out.2 j hj;omega)) (fun j hj=>zcx (by have:=gh j hj;omega)) h1 h2 h3
    have ab:=qd aa;have wW:=qd nC;have pU:=qd hJ;have HD:=qd hD;have Nk:=qd Nj;have sk:=qd oA;have pV:=qd mz;clear aa nC hJ hA gG hD Nj gh gn oA mz Ni kE;generalize qJ:ray c u r (k+1)=x at*;have BO:=qd qJ;clear qJ;go_wp2_with fail;refine ab.out.mono ?_;rintro e w5 ⟨g5,c5,rfl,aD,aQ⟩;have bj:=pT.trans (aQ.mono pT.size);have oB:=bX.trans (aQ.mono bX.size);rw[an];have sl:=zhf gc oc _ cc g5 0 _ c5 c x w5 rfl an HD.out (qL ah bj.size) aD.lt (hr.below bj ah) aD.cells;have sn:=qd sl;have nl:=qd an;clear ab pT bX aQ sl an;go_wp2_with fail;refine sn.out.mono ?_;rintro e w6 ⟨g6,c6,g7,c7,rfl,aO,-,bJ⟩;have de:=bj.trans (bJ.mono bj.size);have pW:=oB.trans (bJ.mono oB.size);have pX:=aD.below bJ aD.lt;have zA:=pX.lt;have so:=pX.cells;generalize zbd c x=tx at*;obtain⟨y0,j0⟩:∃t,t=tx.getD 0 0:=⟨_,rfl⟩;obtain⟨y1,j1⟩:∃t,t=tx.getD 1 0:=⟨_,rfl⟩;obtain⟨y2,j2⟩:∃t,t=tx.getD 2 0:=⟨_,rfl⟩;obtain⟨y3,j3⟩:∃t,t=tx.getD 3 0:=⟨_,rfl⟩;have jZ:zbo tx= .agg #[.int .i64 y0,.int .i64 y1,.int .i64 y2,.int .i64 y3]:=by unfold zbo;rw[j0,j1,j2,j3]
    have pY:=zbQ g6 0 c.length c6 tx w6 pV.out (by rw[pV.out];exact aR) aO.lt aO.cells;rw[jZ] at pY;have sp:=qd pY;have mL:=qd jZ;clear sn bj oB aD bJ pX j0 j1 j2 j3 pY jZ aO;go_wp2_with fail;refine sp.out.mono ?_;rintro e w7 ⟨rfl,dA⟩;have iy:=de.trans (dA.mono de.size);have pZ:=pW.trans (dA.mono pW.size);have Dl:=so.below dA zA;have JD:=qL zA dA.size;have wX:=hM.below iy mN;have JE:=rT.below iy dH;have JF:zag w7 gj oj r:=QG.below pZ JA;have zB:=qd (wW.out w7 g5 c5 JE JF Dl);clear sp de pW dA so zA wW;by_cases hm:zaC K tx=0
    ·rw[if_pos hm] at pU;have Hm:=qd hm;clear hm zB;have nD:Hid (a+frS c d u K ((zaq c).drop (t+1))=frS c d u K (zaq c)):=by have h:=pU.out;rw[Int.zero_add] at h;exact h
     go_wp2_with (at_lookup;refine zgq rfl _ _ rfl tx 0 Hm.out pV.out Nk.out wX rfl (by rw[mL.out];rfl) ?_);go_roundw
     case rel=>exact⟨t+1,a,by omega,by go_num,rfl,nD,iy⟩
     case measure=>simp[intOf];omega
    ·rw[if_neg hm] at pU;have JG:k+1<=50:=sk.out hm;generalize nu:zaC K tx=m at*;have yz:=qd nu;clear nu;generalize pr3 d r x c.length=pr at*;have nD:Hid (a+m*pr+(zfH c d r u K (60-(k+1)) (k+1+1)+frS c d u K ((zaq c).drop (t+1)))=frS c d u K (zaq c)):=by have h:=pU.out;show _=_;omega
     have vt:(m==0)=false:=by simpa using hm
     have uI:¬m=0:=hm;have mE:wrap64 (wrap64 a+wrap64 (m*pr))=wrap64 (a+m*pr):=zuU _ _;clear hm pU;have JH:=qd mE;go_wp2_with (at_lookup;refine zgq rfl _ _ rfl tx m yz.out pV.out Nk.out wX rfl (by rw[mL.out];rfl) ?_);refine zB.out.mono ?_;rintro e w8 ⟨rfl,iU⟩;have kd:=zaf iy iU;have zC:=zaf pZ iU;have QH:=Dl.still iU;have ny:g5<w8.heap.size:=by obtain⟨q,rfl⟩:=iU;exact JD
     clear zB;go_wp2_with fail
     go_roundg (60-(k+1))
     case measure=>omega
     case rel=>exact⟨k+1,g5,c5,a+m*pr,by omega,qr _,by rw[JH.out],rfl,nD,by rw[BO.out];exact QH,ny,zC⟩
  ·obtain rfl:t=(zaq c).length:=by omega
   have hJ:=hA.out;have he:(zaq c).drop (zaq c).length=[]:=List.drop_length;rw[he] at hJ
   have nD:A=frS c d u K (zaq c):=by
    have e0:frS c d u K []=0:=rfl;omega
   subst nD;have oC:=H.out.hu.box;have bZ:=H.out.hS.small;have wY:=zjs H.out.hK H.out.hS H.out.hu;have Nl:=zpl H.out.hK H.out.hS H.out.hu H.out.ne H.out.hD.box;have Dm:=zhs gc oc _ cc gv ov cv gu ou cu c v u wr rfl jg.out eS.out H.out.hK aS (fun j hj=>by have:=bZ j hj;omega) (fun j hj=>by have:=oC j hj;omega) (qL ah hb.size) (qL wV hb.size) (qL eO hb.size) (hr.below hb ah) (iO.below hb wV) (nj.below hb eO)
   have wZ:Calls Tryz.prog 125 #[(qS (some ⟨gc,oc,none⟩) c.length cc),(qS (some ⟨gv,ov,none⟩) c.length cv),(qS (some ⟨gu,ou,none⟩) c.length cu)] wr (zbl wr (zaD c v u) true):=Dm.mono fun e w' hq=>by
    rcases hq with⟨-,h⟩|⟨h,-⟩
    ·exact h
    ·rw[wY.dif] at h;cases h
   have Mh:=znZ (d:=d) (r:=zaD c v u) (x:=zcX c v u) (n:=c.length) (fun j hj=>zcx (by have:=H.out.hD.box j hj;omega)) (fun j hj=>zcx (by have:=wY.box j hj;omega)) (fun j hj=>zcx (by rw[zfU hj];have:=bZ j hj;have:=oC j hj;omega)) c.length (qr _);have nC:=fun W g8 c8 g9 c9 h1 h2 h3=>zjW gd od cd g8 0 c8 g9 0 c9 c.length d (zaD c v u) (zcX c v u) W aR H.out.hD.len (zcY _ _ _) (zuM _ _ _) (fun j hj=>zcx (by have:=H.out.hD.box j hj;omega)) (fun j hj=>zcx (by have:=wY.box j hj;omega)) (fun j hj=>zcx (by rw[zfU hj];have:=bZ j hj;have:=oC j hj;omega)) h1 h2 h3
   have aE:=zAj (c:=c) (v:=v) (u:=u) (x:=addTo v u c.length) (fun j hj=>zsb (fun j hj=>by have:=bZ j hj;omega) (fun j hj=>by have:=oC j hj;omega) hj)
   have eC:∀j,j<c.length->0<=(addTo v u c.length).getD j 0/\(addTo v u c.length).getD j 0<=100:=fun j hj=>by
    rw[zsb (fun j hj=>by have:=bZ j hj;omega) (fun j hj=>by have:=oC j hj;omega) hj];have:=bZ j hj;have:=oC j hj;omega
   have gn:=zeb gv ov c.length cv gu ou cu v u;have Dn:=qd wZ;have wW:=qd nC;have gY:=qd aE;have dS:=qd gn;have Jj:=qd eC;have tZ:=qd (zcY c v u);have QI:=qd (zcP v u c.length);have H0:=qd (zyt (n:=c.length) (x:=addTo v u c.length) (zcP _ _ _));clear hJ he hA Dm wZ nC aE gn eC wY oC bZ;generalize frS c d u K (zaq c)=FS at*;generalize zaD c v u=dep at*;generalize addTo v u c.length=X at*;go_wp2_with fail;refine Dn.out.mono ?_;rintro e w3 ⟨g3,c3,rfl,al,ag⟩;have ap:=hb.trans (ag.mono hb.size);have Nm:=qd (dS.out w3 jg.out eS.out (by omega) (qL wV ap.size) (qL eO ap.size) (iO.below ap wV) (nj.below ap eO));rw[tZ.out];have vu:=al.mono (qz _);clear Dn hb ag al;go_wp2_with fail;refine Nm.out.mono ?_;rintro e w4 ⟨g4,c4,rfl,aw,aM⟩;have aG:=ap.trans (aM.mono ap.size);have Do:=vu.below aM vu.lt;have ao:g3≠g4:=by have:=vu.lt;have:=aw.base;omega
   have Dp:=aw.mono (qt ap.size (qr _));rw[QI.out];clear Nm ap aM vu aw;go_wp2_with fail;go_loopw [72] (fun kv wi=>∃k:Nat,k<=c.length/\kv= .int .i64 k/\Own wi w.heap.size g4 c4 (zec c.length X k)/\Own wi 0 g3 c3 dep/\Below w.heap.size w wi) (fun kv _=>c.length-(intOf kv).toNat)
   case atStart=>exact⟨0,qz _,rfl,by rw[H0.out];exact Dp,Do,aG⟩
   case round=>
    clear Dp Do aG;obtain⟨k,hk,rfl,aw,al,hb⟩:=hrel;by_cases ac:k<c.length
    ·have x0:=aw.cell k (by rw[zuW];exact ac);rw[zyu ac] at x0;have y0:=aw.frozen k;obtain⟨s1,s2⟩:=aw.set k (X.getD k 0+2);rw[zAi ac] at s1;have jx:=Jj.out k ac;have JI:=al.grown s2 (fun e=>ao (Option.some.inj e));have ae:=hb.grown s2 hb.size (by intro j hj;cases hj;exact aw.base);generalize X.getD k 0=z at*;have ew:IntKind.i64.wrap (z+2)=z+2:=IntWalk.i64_in _ ⟨by omega,by omega⟩;clear aw al hb s2;go_wp2_with fail;go_roundw
     case rel=>exact⟨k+1,by omega,by go_num,s1,JI,ae⟩
     case measure=>simp[intOf];omega
    ·obtain rfl:k=c.length:=by omega
     rw[gY.out] at aw;have xa:=qd (wW.out wr g3 c3 g4 c4 (rT.below hb dH) al.cells aw.cells);have tT:wrap64 (2*wrap64 FS)=wrap64 (2*FS):=zAh FS;have Nn:-9223372036854775808<=wrap64 (2*FS)/\wrap64 (2*FS)<=9223372036854775807:=by unfold wrap64;omega
     generalize pr3 d dep (zcX c v u) c.length=D at*;have JJ:¬D=0:=by omega
     have eV:=hb;clear wW gY al aw;go_wp2_with fail;refine xa.out.mono ?_;rintro e w8 ⟨rfl,iU⟩;have kd:=zaf eV iU;clear xa;go_wp2_with fail;go_ret;exact⟨rfl,kd⟩
end
section
open Go.RowKit
def znt(c:LL)(i:Nat)(s:LI × List Nat)(j:Nat):Option (LI × List Nat):=
 if s.1.getD j 0=0 then(if 1<=(s.1.getD i 0*ent c i j).tdiv (ent c j i)/\(s.1.getD i 0*ent c i j).tdiv (ent c j i)<=200/\s.2.length<4 then some (s.1.set j ((s.1.getD i 0*ent c i j).tdiv (ent c j i)),s.2++[j]) else none) else some s
def zhX(c:LL)(i:Nat):List Nat->LI × List Nat->Option (LI × List Nat)
 |[],s=>some s
 |j::l,s=>match znt c i s j with
  |none=>none
  |some s'=>zhX c i l s'
def zhg(c:LL)(tab:List (List Nat)):Nat->Nat->LI × List Nat->Option (LI × List Nat)
 |0,k,s=>if k<s.2.length then none else some s
 |f+1,k,s=>if k<s.2.length then(match zhX c (s.2.getD k 0) (tab.getD (s.2.getD k 0) []) s with
  |none=>none
  |some s'=>zhg c tab f (k+1) s') else some s
def zfy(out:LI)(p:List Nat):Nat:=p.foldl (fun g i=>Nat.gcd (out.getD i 0).toNat g) 0
def zhY(g:Nat)(p:List Nat)(out:LI):LI:=p.foldl (fun o i=>o.set i ((o.getD i 0).tdiv g)) out
def zqF(c:LL)(tab:List (List Nat))(p:List Nat)(out:LI):Option LI:=
 match zhg c tab 5 0 (out.set (p.getD 0 0) 36,[p.getD 0 0]) with
 |none=>none
 |some s=>if zfy s.1 p=0 then none else if(s.1.all fun x=>decide (0<=x)&&decide (x<=200))=true then some (zhY (zfy s.1 p) p s.1) else none
def znu(c:LL)(tab:List (List Nat)):List (List Nat)->LI->Option LI
 |[],out=>some out
 |p::l,out=>match zqF c tab p out with
  |none=>none
  |some out'=>znu c tab l out'
def scK(c:LL)(i k:Nat)(out:LI):Option LI:=
 if 0<out.getD i 0/\out.getD k 0=0/\i≠k/\ent c i k≠0/\(out.getD i 0*ent c i k).tmod (ent c k i)=0 then
  (if -1000<=(out.getD i 0*ent c i k).tdiv (ent c k i)/\(out.getD i 0*ent c i k).tdiv (ent c k i)<=1000 then some (out.set k ((out.getD i 0*ent c i k).tdiv (ent c k i))) else none) else some out
def zgr(c:LL)(i:Nat):Nat->LI->Option LI
 |0,out=>some out
 |t+1,out=>match zgr c i t out with
  |none=>none
  |some o=>scK c i t o
def zgs(c:LL):Nat->LI->Option LI
 |0,out=>some out
 |t+1,out=>match zgs c t out with
  |none=>none
  |some o=>zgr c t c.length o
def zhZ(c:LL):Nat->LI->Option LI
 |0,out=>some out
 |t+1,out=>match zhZ c t out with
  |none=>none
  |some o=>zgs c c.length o
def zoa(c:LL)(p:List Nat)(d:Int):Option LI:=zhZ c p.length ((List.replicate c.length 0).set (p.getD 0 0) d)
def zgn(l:LI)(p:List Nat):Bool:=p.all fun i=>decide (0<l.getD i 0)
def zia(l:LI)(p:List Nat)(out:LI):LI:=p.foldl (fun o i=>o.set i (l.getD i 0)) out
def ziJ(c:LL)(p:List Nat)(out:LI):Nat->Nat->Option LI
 |0,_=>some out
 |f+1,d=>match zoa c p d with
  |none=>none
  |some l=>if zgn l p=true then some (zia l p out) else ziJ c p out f (d+1)
def znv(c:LL):List (List Nat)->LI->Option LI
 |[],out=>some out
 |p::l,out=>match ziJ c p out 3 1 with
  |none=>none
  |some out'=>znv c l out'
def zqG(c:LL):List (List Nat):=(zcL (zbx c) c.length).getD []
def zyv(c:LL):Option LI:=znu c (zbx c) (zqG c) (List.replicate c.length 0)
def zuX(c:LL):Option LI:=znv c (zqG c) (List.replicate c.length 0)
def zbG(c:LL):Bool:=match zyv c,zuX c with
 |some a,some b=>decide (a=b)&&decide (a.length=c.length)&&(a.all fun x=>decide (1<=x)&&decide (x<=6))&&(List.range c.length).all fun i=>(List.range c.length).all fun j=>decide (a.getD i 0*ent c i j=a.getD j 0*ent c j i)
 |_,_=>false
end
section
open Go.RowKit
theorem zKD:zbG [[2]]=true:=by kernel_rfl
theorem zKE:ziY zbG=true:=by kernel_rfl
theorem zKF:ziZ zbG=true:=by kernel_rfl
theorem zFi:zad zbG (0,0) (0,0)=true:=by kernel_rfl
theorem zFj:zad zbG (0,0) (-1,-1)=true:=by kernel_rfl
theorem zFk:zad zbG (0,0) (-1,-2)=true:=by kernel_rfl
theorem zFl:zad zbG (0,0) (-2,-1)=true:=by kernel_rfl
theorem zFm:zad zbG (0,0) (-1,-3)=true:=by kernel_rfl
theorem zFn:zad zbG (0,0) (-3,-1)=true:=by kernel_rfl
theorem zFo:zad zbG (-1,-1) (0,0)=true:=by kernel_rfl
theorem zFp:zad zbG (-1,-1) (-1,-1)=true:=by kernel_rfl
theorem zFq:zad zbG (-1,-1) (-1,-2)=true:=by kernel_rfl
theorem zFr:zad zbG (-1,-1) (-2,-1)=true:=by kernel_rfl
theorem zFs:zad zbG (-1,-1) (-1,-3)=true:=by kernel_rfl
theorem zFt:zad zbG (-1,-1) (-3,-1)=true:=by kernel_rfl
theorem zFu:zad zbG (-1,-2) (0,0)=true:=by kernel_rfl
theorem zFv:zad zbG (-1,-2) (-1,-1)=true:=by kernel_rfl
theorem zFw:zad zbG (-1,-2) (-1,-2)=true:=by kernel_rfl
theorem zFx:zad zbG (-1,-2) (-2,-1)=true:=by kernel_rfl
theorem zFy:zad zbG (-1,-2) (-1,-3)=true:=by kernel_rfl
theorem zFz:zad zbG (-1,-2) (-3,-1)=true:=by kernel_rfl
theorem zFA:zad zbG (-2,-1) (0,0)=true:=by kernel_rfl
theorem zFB:zad zbG (-2,-1) (-1,-1)=true:=by kernel_rfl
theorem zFC:zad zbG (-2,-1) (-1,-2)=true:=by kernel_rfl
theorem zFD:zad zbG (-2,-1) (-2,-1)=true:=by kernel_rfl
theorem zFE:zad zbG (-2,-1) (-1,-3)=true:=by kernel_rfl
theorem zFF:zad zbG (-2,-1) (-3,-1)=true:=by kernel_rfl
theorem zFG:zad zbG (-1,-3) (0,0)=true:=by kernel_rfl
theorem zFH:zad zbG (-1,-3) (-1,-1)=true:=by kernel_rfl
theorem zFI:zad zbG (-1,-3) (-1,-2)=true:=by kernel_rfl
theorem zFJ:zad zbG (-1,-3) (-2,-1)=true:=by kernel_rfl
theorem zFK:zad zbG (-1,-3) (-1,-3)=true:=by kernel_rfl
theorem zFL:zad zbG (-1,-3) (-3,-1)=true:=by kernel_rfl
theorem zFM:zad zbG (-3,-1) (0,0)=true:=by kernel_rfl
theorem zFN:zad zbG (-3,-1) (-1,-1)=true:=by kernel_rfl
theorem zFO:zad zbG (-3,-1) (-1,-2)=true:=by kernel_rfl
theorem zFP:zad zbG (-3,-1) (-2,-1)=true:=by kernel_rfl
theorem zFQ:zad zbG (-3,-1) (-1,-3)=true:=by kernel_rfl
theorem zFR:zad zbG (-3,-1) (-3,-1)=true:=by kernel_rfl
theorem zKG:zip zbG=true:=by
 rw[zhy];simp only[L6,List.all_cons,List.all_nil,Bool.and_true,zFi,zFj,zFk,zFl,zFm,zFn,zFo,zFp,zFq,zFr,zFs,zFt,zFu,zFv,zFw,zFx,zFy,zFz,zFA,zFB,zFC,zFD,zFE,zFF,zFG,zFH,zFI,zFJ,zFK,zFL,zFM,zFN,zFO,zFP,zFQ,zFR]
def zbt(c:LL):LI:=(zuX c).getD []
structure zKH(c:LL):Prop where
 i:zyv c=some (zbt c)
 s:zuX c=some (zbt c)
 len:(zbt c).length=c.length
 box:∀j,j<c.length->1<=(zbt c).getD j 0/\(zbt c).getD j 0<=6
 sym:∀i j,i<c.length->j<c.length->(zbt c).getD i 0*ent c i j=(zbt c).getD j 0*ent c j i
theorem zob{c:LL}(hC:IsC c)(hf:zaN c=true):zKH c:=by
 have h:zbG c=true:=zgB zbG zKD zKE zKF zKG hC hf;unfold zbG at h
 cases hi:zyv c with
 |none=>rw[hi] at h;exact absurd h (by simp)
 |some a=>
  cases hs:zuX c with
  |none=>rw[hi,hs] at h;exact absurd h (by simp)
  |some b=>
   rw[hi,hs] at h;simp only[Bool.and_eq_true] at h;obtain⟨⟨⟨h1,h2⟩,h3⟩,h4⟩:=h;have e:a=b:=of_decide_eq_true h1;subst e;have el:zbt c=a:=by unfold zbt;rw[hs];rfl
   refine⟨by rw[el];exact hi,by rw[el];exact hs,by rw[el];exact of_decide_eq_true h2,fun j hj=>?_,fun i j vw hj=>?_⟩
   ·rw[el];have Gu:j<a.length:=by rw[of_decide_eq_true h2];exact hj
    have h5:=List.all_eq_true.1 h3 _ (List.getElem_mem Gu);rw[Bool.and_eq_true] at h5;simp only[List.getD,List.getElem?_eq_getElem Gu,Option.getD_some];exact⟨of_decide_eq_true h5.1,of_decide_eq_true h5.2⟩
   ·rw[el];exact of_decide_eq_true (List.all_eq_true.1 (List.all_eq_true.1 h4 i (List.mem_range.2 vw)) j (List.mem_range.2 hj))
end
end Go.Proofs.YtlgcmaoimpgedaaGreatDoor

/- Dif Dep Sbd Prd OwW Ctm Wtr Grt Put252 Rev -/
import Derived.Test.YtlgcmaoimpgedaaGreatDoorT21
import Derived.Maps.OwnSet
set_option maxHeartbeats 4000000
set_option maxRecDepth 100000
set_option linter.unusedSimpArgs false
namespace Go.Proofs.YtlgcmaoimpgedaaGreatDoor
open Go.Value renaming slice->qS
section
open Go.RowKit Game
theorem zrZ{x d:Int}(hd:0<d)(h:x.tmod d=0):0<=x.tdiv d↔0<=x:=by
 have e:=Int.mul_tdiv_add_tmod x d;rw[h,Int.add_zero] at e;generalize x.tdiv d=q at*;constructor
 ·intro hq;rw[<-e];exact Int.mul_nonneg (Int.le_of_lt hd) hq
 ·intro hx
  rcases Int.lt_or_le q 0 with h1|h1
  ·have:=Int.mul_neg_of_pos_of_neg hd h1;omega
  ·exact h1
theorem zIh{c:LL}(hK:zeT c){v:LI}(h:zhG c v=true):zgi c v=(zaG (qLd c v)).isNone:=by
 have h1:=zxh.1 h;have hq:∀j,j<c.length->(qLd c v).getD j 0=((crd c v).getD j 0).tdiv (dC c):=fun j hj=>by simp[qLd,List.getD,zcj,hj]
 cases hf:zaG (qLd c v) with
 |none=>
  have hn:=zfg hf;unfold zgi;show _=true;rw[List.all_eq_true];intro x hx;obtain⟨j,hj,rfl⟩:=List.mem_iff_getElem.1 hx;have fC:j<c.length:=by rw[zcj] at hj;exact hj
  have e:(crd c v)[j]=(crd c v).getD j 0:=by simp[List.getD,hj]
  rw[e,Bool.and_eq_true];have h2:=hn j (by rw[zfK];exact fC);rw[hq j fC] at h2;exact⟨decide_eq_true ((zrZ hK.pos (h1 j fC)).1 h2),decide_eq_true (h1 j fC)⟩
 |some i=>
  obtain⟨h2,h3,-⟩:=zdM hf;rw[zfK] at h2;rw[hq i h2] at h3;show _=false
  cases hd:zgi c v with
  |false=>rfl
  |true=>
   unfold zgi at hd;rw[List.all_eq_true] at hd;have h4:=hd ((crd c v).getD i 0) (by simp[List.getD,zcj,h2]);rw[Bool.and_eq_true] at h4;have h5:=(zrZ hK.pos (h1 i h2)).2 (of_decide_eq_true h4.1);omega
theorem zJy{c:LL}{v:LI}(h:zhG c v=false):zgi c v=false:=by
 cases hd:zgi c v with
 |false=>rfl
 |true=>
  have:zhG c v=true:=by
   unfold zgi at hd;unfold zhG;rw[List.all_eq_true] at hd ⊢;exact fun x hx=>(Bool.and_eq_true_iff.1 (hd x hx)).2
  rw[h] at this;exact absurd this (by decide)
def zzZ(w:World)(c:LL)(v:LI)(e:Ending)(w':World):Prop:=
 (zgi c v=true/\zbl w (qLd c v) true e w')∨(zgi c v=false/\(∃s,e= .returned (.tuple #[s,.bool false]))/\Below w.heap.size w w')
theorem zhs(gc oc n cc g1 o1 c1 g2 o2 c2:Nat)(c:LL)(b a:LI)(w:World)(hn:c.length=n)(hb:b.length=n)(ha:a.length=n)(hK:zeT c)(aS:n<=cc)
 (du:∀j,j<n→-900<=b.getD j 0/\b.getD j 0<=900) (eC:∀j,j<n→-1000<=a.getD j 0/\a.getD j 0<=1000)
 (ah:gc<w.heap.size) (bm:g1<w.heap.size) (aP:g2<w.heap.size) (hr:zal w gc oc c) (aI:zag w g1 o1 b) (aH:zag w g2 o2 a):
 Calls Tryz.prog 125 #[(qS (some ⟨gc,oc,none⟩) n cc),(qS (some ⟨g1,o1,none⟩) n c1),(qS (some ⟨g2,o2,none⟩) n c2)] w (zzZ w c (zaS b a (-1))):=by
 subst hn;have aR:=hK.hC.2.1
 have hV:SmW c.length (zaS b a (-1)):=⟨by rw[zcU];exact hb,fun j hj=>by
  rw[zhU _ _ _ (by rw[hb];exact hj)];have:=du j hj;have:=eC j hj;omega⟩
 have hU:∀W,Below w.heap.size w W->∀g3 c3,Own W w.heap.size g3 c3 (zaS b a (-1))->Calls Tryz.prog 168 #[(qS (some ⟨gc,oc,none⟩) c.length cc),(qS (some ⟨g3,0,none⟩) c.length c3)] W (znY W c (zaS b a (-1))):=fun W hW g3 c3 ho=>
  zqB gc oc _ cc g3 0 _ c3 c _ W rfl hV.1 hK aS hV (qL ah hW.size) ho.lt (hr.below hW ah) ho.cells
 have HU:=qd hU;have HA:=qd (zoQ b a (-1));have HS:=qd (znm b a (-1));have HT:=qd (zkP b a (-1));have HD:=qd (fun h=>zIh hK (v:=zaS b a (-1)) h);have HN:=qd (fun h=>zJy (c:=c) (v:=zaS b a (-1)) h);have wO:=qd (zfK c (zaS b a (-1)));have Qt:=qd du;have Jj:=qd eC;have Hb:=qd hb;have Ha:=qd ha;have hG:zzZ w c (zaS b a (-1))=fun e w'=>(zgi c (zaS b a (-1))=true/\zbl w (qLd c (zaS b a (-1))) true e w')∨(zgi c (zaS b a (-1))=false/\(∃s,e= .returned (.tuple #[s,.bool false]))/\Below w.heap.size w w'):=rfl
 rw[hG];clear hU hV du eC hb ha hG;generalize zaS b a (-1)=V at*;have HR:=qd (show∀W e W',znY W c V e W'->(zhG c V=true/\zbl W (qLd c V) true e W')∨(zhG c V=false/\e= .returned (.tuple #[.slice none 0 0,.bool false])/\Below W.heap.size W W') from fun _ _ _ h=>h)
 go_enter Tryz.func125,Tryz.ntmps125
 go_wp2_with fail;go_loopw [8,15] (fun s kv wr=>∃t g' c':Nat,t<=c.length/\kv= .int .i64 t/\s=(qS (some ⟨g',0,none⟩) t c')/\Own wr w.heap.size g' c' (zfn b a (-1) t)/\Below w.heap.size w wr) (fun _ kv _=>c.length-(intOf kv).toNat)
 case atStart=>exact⟨0,w.heap.size,0,qz _,rfl,rfl,Own.empty (qr _),(Below.refl _ _).alloc (qr _) _⟩
 case round=>
  obtain⟨t,g',c',ht,rfl,rfl,ho,dM⟩:=hrel;by_cases ac:t<c.length
  ·have k1:=(dM.cell (p:=⟨g1,o1+t,none⟩) bm).trans (aI t (by rw[Hb.out];exact ac));have k2:=(dM.cell (p:=⟨g2,o2+t,none⟩) aP).trans (aH t (by rw[Ha.out];exact ac));have bw:=HS.out t;have hl:=HT.out t;have b1:=Qt.out t ac;have b2:=Jj.out t ac;have lZ:=ho.base;have ne1:some g1≠some g':=by intro e;cases e;omega
   have ne2:some g2≠some g':=by intro e;cases e;omega
   generalize b.getD t 0=x at*;generalize a.getD t 0=y at*;have tT:IntKind.i64.wrap (x-y)=x-y:=IntWalk.i64_in _ ⟨by omega,by omega⟩;rw[show x+(-1)*y=x-y by omega] at bw;generalize zfn b a (-1) t=ys at*;have Hs:=qd bw;clear bw;go_wp2_with fail
   go_region_held3 (fun W=>W.cell? ⟨g1,o1+t,none⟩=some (.int .i64 x)/\W.cell? ⟨g2,o2+t,none⟩=some (.int .i64 y))
    (first|go_keep|exact⟨aK.cell (a:=⟨g1,o1+t,none⟩) k1 ne1,aK.cell (a:=⟨g2,o2+t,none⟩) k2 ne2⟩)
    ((refine zcH (w:=wr.drew) (by rfl) _ _ (by rfl) w.heap.size g' c' t wr.heap.size ys _ _ hl (by rfl) (by rfl) ho.drew (by rfl) (by rfl) (by omega) ?_;intro g3 c3 w3 al aK aY))
   go_wp2_with fail;go_roundw
   case rel=>
    rw[<-Hs.out] at al;exact⟨t+1,g3,c3,by omega,by go_num,rfl,al,(Below.drew dM).grown aK dM.size (by intro j hj;cases hj;exact ho.base)⟩
   case measure=>simp[intOf];omega
  ·obtain rfl:t=c.length:=by omega
   have ln:Own wr w.heap.size g' c' V:=by
    have e:=HA.out;rw[Hb.out] at e;rw[<-e];exact ho
   have aa:=HU.out wr dM g' c' ln;have ab:=qd aa;clear aa ln;go_wp2_with fail;refine ab.out.mono ?_;intro e w2 dT
   rcases HR.out wr e w2 dT with⟨CQ,g3,c3,rfl,al,ag⟩|⟨CQ,rfl,ag⟩
   ·have ap:=dM.trans (ag.mono dM.size);have CR:=HD.out CQ;have aa:=zhq g3 0 _ c3 (qLd c V) w2 rfl (by rw[wO.out];omega) al.cells;rw[<-CR] at aa;have fq:=wO.out;obtain⟨Q,hQ⟩:∃Q,Q=qLd c V:=⟨_,rfl⟩;rw[<-hQ] at aa al fq;rw[fq] at aa;have FX:=qd hQ;rw[wO.out];clear hQ;have lz:=qd aa;have Jk:=qd fq;clear aa CQ dT CR fq;have cn:=al.mono dM.size
    cases qN:zgi c V with
    |true=>
     rw[qN] at lz;have we:=qd qN;clear qN;go_wp2_with fail;refine lz.out.mono ?_;rintro e w3 ⟨rfl,hs⟩;have aG:=zaf ap hs;have aw:=cn.still hs;clear hs;go_wp2_with fail;go_ret2;exact .inl ⟨we.out,g3,c3,by rw[wO.out];rfl,by rw[<-FX.out];exact aw,aG⟩
    |false=>
     rw[qN] at lz;have we:=qd qN;clear qN;go_wp2_with fail;refine lz.out.mono ?_;rintro e w3 ⟨rfl,hs⟩;have aG:=zaf ap hs;clear hs;go_wp2_with fail;go_ret2;exact .inr ⟨we.out,⟨_,rfl⟩,aG⟩
   ·have ap:=dM.trans (ag.mono dM.size);have CR:=HN.out CQ;have Qu:=qd CR;clear CQ dT CR;go_wp2_with fail;go_ret2;exact .inr ⟨Qu.out,⟨_,rfl⟩,ap⟩
end
section
open Go.RowKit Game
variable {c:LL}
theorem zxi(hK:zeT c)(q:Nat->Int){j:Nat}(hj:j<c.length):∀m,m<=c.length->crF c j (fun r=>sg m fun i=>ent c r i*q i)=if j<m then dC c*q j else 0
 |0,_=>by
  have:=zpi c.length (ent c) j (fun _=>0) (fun _=>0) 0 0 hj;simp only[Int.zero_mul,Int.add_zero] at this;rw[if_neg (by omega)];exact this
 |m+1,hm=>by
  have ih:=zxi hK q hj m (by omega)
  have hl:crF c j (fun r=>sg (m+1) fun i=>ent c r i*q i)=crF c j (fun r=>sg m fun i=>ent c r i*q i)+q m*crF c j (fun r=>ent c r m):=by
   have:=zpi c.length (ent c) j (fun r=>sg m fun i=>ent c r i*q i) (fun r=>ent c r m) 1 (q m) hj;simp only[Int.one_mul] at this
   have e:(fun r=>sg (m+1) fun i=>ent c r i*q i)=fun r=>(sg m fun i=>ent c r i*q i)+q m*ent c r m:=by
    funext r;rw[zch,Int.mul_comm (q m)]
   rw[e];exact this
  rw[hl,ih];by_cases e:m=j
  ·subst e;rw[zDE,if_neg (by omega),if_pos (by omega),Int.zero_add,Int.mul_comm]
  ·rw[hK.zero m j (by omega) hj e,Int.mul_zero,Int.add_zero];by_cases h:j<m
   ·rw[if_pos h,if_pos (by omega)]
   ·rw[if_neg h,if_neg (by omega)]
def zaD(c:LL)(v u:LI):LI:=qLd c (zaS v u (-1))
theorem zcY(c:LL)(v u:LI):(zaD c v u).length=c.length:=zfK _ _
theorem zqC(hK:zeT c){v u:LI}(hv:v.length=c.length)(hu:u.length=c.length){q:Nat->Int}(h:zge c (toV v) (toV u) q):(∀j,j<c.length->(zaD c v u).getD j 0=q j)/\zgi c (zaS v u (-1))=true:=by
 have hl:(zaS v u (-1)).length=c.length:=by rw[zcU];exact hv
 have e:toV (zaS v u (-1))=fun r=>sg c.length fun i=>ent c r i*q i:=by
  rw[zzX hv hu];funext r;by_cases hr:r<c.length
  ·exact h.2 r hr
  ·rw[zfo (by omega),zfo (by omega)];have:(sg c.length fun i=>ent c r i*q i)=sg c.length fun _=>0:=zcw fun i _=>by rw[zqW (Nat.not_lt.1 hr),Int.zero_mul]
   rw[this,zhC];rfl
 have hc:∀j,j<c.length->crF c j (toV (zaS v u (-1)))=dC c*q j:=fun j hj=>by
  rw[e,zxi hK q hj _ (qr _),if_pos hj]
 refine⟨fun j hj=>?_,(zDF hK.hC hl).2 fun j hj=>by
  rw[hc j hj];exact⟨Int.mul_nonneg (Int.le_of_lt hK.pos) (h.1 j hj),Int.dvd_mul_right _ _⟩⟩
 have e2:(zaD c v u).getD j 0=((crd c (zaS v u (-1))).getD j 0).tdiv (dC c):=by simp[zaD,qLd,List.getD,zcj,hj]
 rw[e2,zpk hK.hC hl hj,hc j hj];exact Int.mul_tdiv_cancel_left _ (by have:=hK.pos;omega)
structure zKu(c:LL)(v u:LI):Prop where
 dif:zgi c (zaS v u (-1))=true
 box:∀j,j<c.length->0<=(zaD c v u).getD j 0/\(zaD c v u).getD j 0<=200
theorem zjs(hK:zeT c){v u:LI}(h:zbi c v)(hu:zbw c v u):zKu c v u:=by
 obtain⟨q,hq⟩:=hu.low;obtain⟨h1,h2⟩:=zqC hK h.len hu.len hq;exact⟨h2,fun j hj=>by rw[h1 j hj];exact⟨hq.1 j hj,(hq.le (zfT h.hC h.fin) (fun k hk=>(h.small k hk).2) (fun k hk=>(hu.box k hk).1) hj).2⟩⟩
theorem zuM(c:LL)(v u:LI):(zcX c v u).length=c.length:=by simp[zcX]
theorem zfU{v u:LI}{j:Nat}(hj:j<c.length):(zcX c v u).getD j 0=v.getD j 0+u.getD j 0+2:=by simp[zcX,List.getD,hj]
theorem zpl(hK:zeT c){d v u:LI}(h:zbi c v)(hu:zbw c v u)(ao:u≠v)(hd:∀j,j<c.length->1<=d.getD j 0/\d.getD j 0<=6):1<=pr3 d (zaD c v u) (zcX c v u) c.length:=by
 obtain⟨q,hq⟩:=hu.low;obtain⟨h1,-⟩:=zqC hK h.len hu.len hq
 have hex:∃i,i<c.length/\1<=q i:=by
  refine Classical.byContradiction fun aJ=>ao ?_
  have h0:∀i,i<c.length->q i=0:=fun i hi=>by
   have:=hq.1 i hi;have:¬1<=q i:=fun h=>aJ ⟨i,hi,h⟩
   omega
  refine zgC (by rw[hu.len,h.len]) ?_;funext k;by_cases hk:k<c.length
  ·have h2:=hq.2 k hk;have:(sg c.length fun i=>ent c k i*q i)=sg c.length fun _=>0:=zcw fun i hi=>by rw[h0 i hi,Int.mul_zero]
   rw[this,zhC] at h2;omega
  ·rw[zfo (by have:=hu.len;omega),zfo (by have:=h.len;omega)]
 obtain⟨i,hi,CS⟩:=hex
 have cE:∀k,k<c.length->0<=(zaD c v u).getD k 0*d.getD k 0*(zcX c v u).getD k 0:=fun k hk=>by
  rw[h1 k hk,zfU hk];have a1:=hq.1 k hk;have a2:=hd k hk;have a3:=h.small k hk;have a4:=hu.box k hk;exact Int.mul_nonneg (Int.mul_nonneg a1 (by omega)) (by omega)
 have iX:=zjP (f:=fun k=>(zaD c v u).getD k 0*d.getD k 0*(zcX c v u).getD k 0) cE hi
 have Jl:1<=(zaD c v u).getD i 0*d.getD i 0*(zcX c v u).getD i 0:=by
  rw[h1 i hi,zfU hi];have a2:=hd i hi;have a3:=h.small i hi;have a4:=hu.box i hi;have b1:(1:Int)*1<=q i*d.getD i 0:=Int.mul_le_mul CS a2.1 (by omega) (by omega);have b2:(1:Int)*1<=(q i*d.getD i 0)*(v.getD i 0+u.getD i 0+2):=Int.mul_le_mul (by omega) (by omega) (by omega) (by omega);omega
 exact Int.le_trans Jl iX
end
section
open Go.RowKit Game
def zhV(x p:LI)(n:Nat):LI:=(List.range n).map fun j=>wrap64 (x.getD j 0-p.getD j 0)
theorem zuN(x p:LI)(n:Nat):(zhV x p n).length=n:=by simp[zhV]
theorem zyh(x p:LI)(n:Nat):zhV x p (n+1)=zhV x p n++[wrap64 (x.getD n 0-p.getD n 0)]:=by simp[zhV,List.range_succ]
theorem zAa(x p:LI):zhV x p x.length=zcN x p:=rfl
def zdI(x p:LI)(k:Nat):LI:=(List.range x.length).map fun j=>if j<k then wrap64 (x.getD j 0-p.getD j 0) else x.getD j 0
theorem zuO(x p:LI)(k:Nat):(zdI x p k).length=x.length:=by simp[zdI]
theorem zyi(x p:LI):zdI x p 0=x:=by
 apply List.ext_getElem (by simp[zdI]);intro i h1 h2;simp[zdI,List.getD,h2]
theorem zyj{x p:LI}{k:Nat}(hk:k<x.length):(zdI x p k).getD k 0=x.getD k 0:=by simp[zdI,List.getD,hk]
theorem zAb{x p:LI}{k:Nat}(_hk:k<x.length):(zdI x p k).set k (wrap64 (x.getD k 0-p.getD k 0))=zdI x p (k+1):=by
 apply List.ext_getElem (by simp[zdI]);intro i h1 h2;have hi:i<x.length:=by simpa [zdI] using h2
 rw[List.getElem_set];by_cases e:k=i
 ·subst e;rw[if_pos rfl];simp[zdI]
 ·rw[if_neg e];simp only[zdI,List.getElem_map,List.getElem_range];by_cases h:i<k
  ·rw[if_pos h,if_pos (by omega)]
  ·rw[if_neg h,if_neg (by omega)]
theorem zAc(x p:LI):zdI x p x.length=zcN x p:=by
 apply List.ext_getElem (by simp[zdI,zcN]);intro i h1 h2;have hi:i<x.length:=by simpa [zdI] using h1
 simp[zdI,zcN,hi]
theorem zDH(x p:LI):WfV (zcN x p):=fun j _=>by
 by_cases h:j<x.length
 ·rw[zrO h];have:-9223372036854775808<=wrap64 (x.getD j 0-p.getD j 0)/\wrap64 (x.getD j 0-p.getD j 0)<=9223372036854775807:=by unfold wrap64;omega
  generalize wrap64 (x.getD j 0-p.getD j 0)=z at*;simp[Lit.wf,IntKind.min,IntKind.max,IntKind.signed,IntKind.bits];omega
 ·have e:(zcN x p).getD j 0=0:=by simp[zcN,List.getD,h]
  rw[e];decide
end
section
open Go.RowKit Game
theorem zlB(d r x:LI)(n:Nat):pr3 d r x (n+1)=pr3 d r x n+r.getD n 0*d.getD n 0*x.getD n 0:=zch _ _
theorem zhH{a b:Int}{A B:Nat}(ha:a.natAbs<=A)(hb:b.natAbs<=B):(a*b).natAbs<=A*B:=by
 rw[Int.natAbs_mul];exact Nat.mul_le_mul ha hb
theorem znZ{d r x:LI}{n:Nat}(hd:∀j,j<n->(d.getD j 0).natAbs<=6)(hr:∀j,j<n->(r.getD j 0).natAbs<=1000)(hx:∀j,j<n->(x.getD j 0).natAbs<=1000):∀k,k<=n->(pr3 d r x k).natAbs<=6000000*k
 |0,_=>by simp[pr3,sg]
 |k+1,h=>by
  have h1:=znZ hd hr hx k (by omega);have h2:=zhH (zhH (hr k (by omega)) (hd k (by omega))) (hx k (by omega));rw[zlB];omega
theorem zjW(g1 o1 c1 g2 o2 c2 g3 o3 c3 n:Nat)(d r x:LI)(w:World)(hn:n<=4)(mI:d.length=n)(an:r.length=n)(dF:x.length=n)(hd:∀j,j<n->(d.getD j 0).natAbs<=6)(hr:∀j,j<n->(r.getD j 0).natAbs<=1000)(hx:∀j,j<n->(x.getD j 0).natAbs<=1000)
 (h1:zag w g1 o1 d) (h2:zag w g2 o2 r) (h3:zag w g3 o3 x):
 Calls Tryz.prog 170 #[(qS (some ⟨g1,o1,none⟩) n c1),(qS (some ⟨g2,o2,none⟩) n c2),(qS (some ⟨g3,o3,none⟩) n c3)] w (zap w (.int .i64 (pr3 d r x n))):=by
 have HB:=qd (znZ hd hr hx);have HS:=qd (fun k=>zlB d r x k);have H0:Hid (pr3 d r x 0=0):=rfl;have Hd:=qd hd;have Hr:=qd hr;have Hx:=qd hx;have tZ:=qd mI;have nl:=qd an;have eo:=qd dF;clear hd hr hx mI an dF
 go_enter Tryz.func170,Tryz.ntmps170
 go_wp2;go_loopw [7,12] (fun sv kv wr=>∃k:Nat,k<=n/\kv= .int .i64 k/\sv= .int .i64 (pr3 d r x k)/\∃q,wr=w.drewN q) (fun _ kv _=>n-(intOf kv).toNat)
 case atStart=>exact⟨0,qz _,rfl,by rw[H0.out],0,rfl⟩
 case round=>
  obtain⟨k,hk,rfl,rfl,hs⟩:=hrel;by_cases ac:k<n
  ·have k1:=(zau hs _).trans (h1 k (by rw[tZ.out];exact ac));have k2:=(zau hs _).trans (h2 k (by rw[nl.out];exact ac));have k3:=(zau hs _).trans (h3 k (by rw[eo.out];exact ac));have b1:=HB.out k (by omega);have b2:=zhH (Hr.out k ac) (Hd.out k ac);have b3:=zhH b2 (Hx.out k ac);have MN:=HS.out k;generalize d.getD k 0=dk at*;generalize r.getD k 0=rk at*;generalize x.getD k 0=xk at*;generalize pr3 d r x k=S at*;have e1:wrap64 (rk*dk)=rk*dk:=IntWalk.wrap64_in _ ⟨by omega,by omega⟩;have e2:wrap64 (rk*dk*xk)=rk*dk*xk:=IntWalk.wrap64_in _ ⟨by omega,by omega⟩;have e3:wrap64 (S+rk*dk*xk)=S+rk*dk*xk:=IntWalk.wrap64_in _ ⟨by omega,by omega⟩;have f1:IntKind.i64.wrap (rk*dk)=rk*dk:=IntWalk.i64_in _ ⟨by omega,by omega⟩;have f2:IntKind.i64.wrap (rk*dk*xk)=rk*dk*xk:=IntWalk.i64_in _ ⟨by omega,by omega⟩;have f3:IntKind.i64.wrap (S+rk*dk*xk)=S+rk*dk*xk:=IntWalk.i64_in _ ⟨by omega,by omega⟩;have Hs:=qd MN;clear MN b1 b2 b3;go_wp2_with fail;go_quiet (fail)
   go_wp2_with fail;go_roundw
   case rel=>exact⟨k+1,by omega,by go_num,by rw[Hs.out],zbg hs ⟨nq,rfl⟩⟩
   case measure=>simp[intOf];omega
  ·obtain rfl:k=n:=by omega
   go_wp2_with fail;go_ret;exact⟨rfl,hs⟩
theorem zuP(c:LL):∀(f:Nat) (x:LI),WfV x->WfV (zdb c f x).1
 |0,x,h=>h
 |f+1,x,h=>by
  unfold zdb
  split
  ·exact h
  ·rename_i i e
   exact zuP c f _ (ztS c i x)
theorem zIi(c:LL){x:LI}(h:WfV x):WfV (zbd c x):=zuP c 30 x h
end
section
open Go.RowKit
theorem zJz:(Tryz.prog.info? 36).map (fun i=>(i.zero,i.size,i.bytes))=some (some (.agg #[.slice none 0 0,.int .i64 0]),2,32):=by kernel_rfl
section
variable {w w':World} {B g cap:Nat} {rs:List WRef}
theorem zas.empty(hB:B<=w.heap.size):zas (w.alloc (.cells #[] 36)) B w.heap.size 0 []:=
 ⟨World.ownsRow_lit w #[] 0 hB (by decide) rfl,by simp[zcS]⟩
theorem zas.still(h:zas w B g cap rs)(hs:∃n,w'=w.drewN n):zas w' B g cap rs:=by obtain⟨n,rfl⟩:=hs;exact h
theorem zas.ne(h:zas w B g cap rs){B2 g2 c2:Nat}{xs:LI}(ho:Own w B2 g2 c2 xs):g≠g2:=zaE.neV h.1 ho.toV (by decide)
theorem zas.ofMem(h:zas w B g cap rs){r:WRef}(hr:r∈rs):Own w B r.1.1 r.1.2.1 r.1.2.2:=h.2.1 _ (List.mem_map_of_mem hr)
theorem zas.grown{k:Nat}(h:zas w B g cap rs)(hg:w.grownBy w' (some k))(h1:g≠k)(h2:∀r∈rs,r.1.1≠k):zas w' B g cap rs:=
 ⟨zaE.grown h.1 hg (fun e=>h1 (Option.some.inj e)),fun r hr=>by
  obtain⟨s,hs,rfl⟩:=List.mem_map.1 hr;exact(h.2.1 _ hr).grown hg (fun e=>h2 s hs (Option.some.inj e)),h.2.2⟩
theorem zas.cells(h:zas w B g cap rs){j:Nat}(hj:j<rs.length):w.cell? ⟨g,j*2,none⟩=some (zah rs[j].1)/\w.cell? ⟨g,j*2+1,none⟩=some (.int .i64 rs[j].2):=by
 have hl:=zdS rs;have hf:=ziW rs [] j hj;rw[List.append_nil] at hf;have h1:j*2<(zby rs).length:=by omega
 have h2:j*2+1<(zby rs).length:=by omega
 rw[h.1.cell _ h1,h.1.cell _ h2,<-hf.1,<-hf.2,List.getElem?_eq_getElem h1,List.getElem?_eq_getElem h2];exact⟨rfl,rfl⟩
theorem zas.frozen(h:zas w B g cap rs)(j:Nat):w.frozen? ⟨g,j,none⟩=false:=zaE.frozen h.1 j
theorem zas.setLast{A:List WRef}{u:WRef}{n:Nat}(h:zas w B g cap (A++[u]))(hn:A.length=n)(z:Int):
 zas (w.setCell ⟨g,n*2+1,none⟩ (.int .i64 z)) B g cap (A++[(u.1,z)])/\w.grownBy (w.setCell ⟨g,n*2+1,none⟩ (.int .i64 z)) (some g):=by
 subst hn;have h1:=zaE.set h.1 (A.length*2+1) (.int .i64 z)
 have e:(zby (A++[u])).set (A.length*2+1) (.int .i64 z)=zby (A++[(u.1,z)]):=by
  rw[zfB,zfB,List.set_append_right _ _ (by rw[zdS];omega),zdS,show A.length*2+1-A.length*2=1 by omega];rfl
 rw[e] at h1;have hl:(A++[u]).length=(A++[(u.1,z)]).length:=by simp
 rw[hl] at h1;refine⟨⟨h1.1,fun r hr=>?_,by simpa using h.2.2⟩,h1.2⟩;have df:r∈(A++[u]).map (·.1):=by simpa using hr
 exact(h.2.1 r df).grown h1.2 (fun e2=>h.ne (h.2.1 r df) (Option.some.inj e2).symm)
theorem zmh(ai:zas w B g cap rs)(r:RowRef)(ct:Int)(hr:Own w B r.1 r.2.1 r.2.2)(ao:∀s∈rs,s.1.1≠r.1)(am:rs.length+1<=1048576)(ty:TypeId):
 ∃g' cap' w',(Builtin.append_ #[28,28] ty #[(qS (some ⟨g,0,none⟩) rs.length cap),(qS (some ⟨w.heap.size,0,none⟩) 1 1)]).run Tryz.prog (w.alloc (.cells #[zah r,.int .i64 ct] 36))= .ok (qS (some ⟨g',0,none⟩) (rs.length+1) cap') w'/\
  zas w' B g' cap' (rs++[(r,ct)])/\w.grownBy w' (some g)/\(g'=g∨w.heap.size<g'):=by
 have db:zaE (w.alloc (.cells #[zah r,.int .i64 ct] 36)) B 36 2 w.heap.size 1 1 [zah r,.int .i64 ct]:=
  World.ownsRow_lit w #[zah r,.int .i64 ct] 1 (by have:=ai.base;have:=ai.lt;omega) (by decide) rfl
 obtain⟨g',cap',w',cz,h2,h3,h4⟩:=ziU zJz Tryz.underlying28 rfl (by decide) (by decide) (zaE.alloc ai.1 (.cells #[zah r,.int .i64 ct] 36)) w.heap.size 0 1 1 [zah r,.int .i64 ct] rfl
  (fun j u hu=>by
    have hj:j<2:=by have:=(List.getElem?_eq_some_iff.1 hu).1;simpa using this
    have:=db.cell j (by simpa using hj);rw[Nat.zero_add,this,<-hu];simp[hj])
  (fun u hu=>by simp at hu;rcases hu with rfl|rfl <;> rfl) am ty
 have hg:w.grownBy w' (some g):=⟨h3.os,h3.tape,h3.output,qt (by simp) h3.size,fun k hk ao=>(h3.block k (by simp;omega) ao).trans (Below.heap_alloc _ _ _ hk)⟩;refine⟨g',cap',w',cz,⟨?_,fun t ht=>?_,?_⟩,hg,h4.imp id (by simp;omega)⟩
 ·rw[zfB,qA];exact h2
 ·rw[List.map_append,List.mem_append] at ht
  rcases ht with q|q
  ·exact(ai.2.1 t q).grown hg (fun e=>ai.ne (ai.2.1 t q) (Option.some.inj e).symm)
  ·simp at q;subst q;exact hr.grown hg (fun e=>ai.ne hr (Option.some.inj e).symm)
 ·rw[List.map_append,List.map_append,List.nodup_append];refine⟨ai.2.2,by simp,fun x hx y hy=>?_⟩;obtain⟨s,hs,rfl⟩:=List.mem_map.1 hx;obtain⟨t,ht,rfl⟩:=List.mem_map.1 hs;simp at hy;subst hy;exact ao t ht
theorem zbj{ops:Array Oper}{rest:List Oper}{o:Oper}{a:Act}{Q:Exit->Act->World->Prop}(dH:o.guard=none)(s x:Operand)
 (ho:o.op= .call {callee:= .builtin .append,args:=#[s,x],argTypes:=#[28,28]})
 (B g cap n H gr cr nr:Nat) (rs:List WRef) (xs:LI) (ct:Int) (w W:World) (hn:rs.length=n) (AU:xs.length=nr) (hW:W=w.alloc (.cells #[(qS (some ⟨gr,0,none⟩) nr cr),.int .i64 ct] 36)) (hH:w.heap.size=H) (ai:zas w B g cap rs) (hr:Own w B gr cr xs) (ao:∀s∈rs,s.1.1≠gr)
 (hs:a.eval s=(qS (some ⟨g,0,none⟩) n cap)) (hx:a.eval x=(qS (some ⟨H,0,none⟩) 1 1)) (am:n+1<=1048576)
 (h:∀g' cap' w',zas w' B g' cap' (rs++[((gr,cr,xs),ct)])->w.grownBy w' (some g)->(g'=g∨w.heap.size<g')->wpList Tryz.prog ops Q rest (a.put o.dst (qS (some ⟨g',0,none⟩) (n+1) cap')) w'):
 wpList Tryz.prog ops Q (o::rest) a W:=by
 subst hn;subst hW;subst hH;subst AU;obtain⟨g',cap',w',cz,h2,h3,h4⟩:=zmh ai (gr,cr,xs) ct hr ao am o.type;have rR:(Builtin.append_ #[28,28] o.type #[(qS (some ⟨g,0,none⟩) rs.length cap),(qS (some ⟨w.heap.size,0,none⟩) 1 1)]).run Tryz.prog (w.alloc (.cells #[(qS (some ⟨gr,0,none⟩) xs.length cr),.int .i64 ct] 36))= .ok (qS (some ⟨g',0,none⟩) (rs.length+1) cap') w':=cz;refine wpList_plain dH fun K hK=>?_
 unfold Oper.wp execOp;simp only[ho,resolve,invoke,builtin,Sem.run_bind,Sem.run_pure,Result.andThen_ok,List.map_toArray,List.map_cons,List.map_nil,hs,hx,rR];exact hK _ _ (h g' cap' w' h2 h3 h4)
theorem zhI{ops:Array Oper}{o:Oper}{a:Act}{K:Act->World->Prop}{Q:Exit->Act->World->Prop}{E:Prop}(dH:o.guard=none)(s x:Operand)
 (ho:o.op= .call {callee:= .builtin .append,args:=#[s,x],argTypes:=#[28,28]})
 (B g cap n H gr cr nr:Nat) (rs:List WRef) (xs:LI) (ct:Int) (w W:World) (hn:rs.length=n) (AU:xs.length=nr) (hW:W=w.alloc (.cells #[(qS (some ⟨gr,0,none⟩) nr cr),.int .i64 ct] 36)) (hH:w.heap.size=H) (ai:zas w B g cap rs) (hr:Own w B gr cr xs) (ao:∀s∈rs,s.1.1≠gr)
 (hs:a.eval s=(qS (some ⟨g,0,none⟩) n cap)) (hx:a.eval x=(qS (some ⟨H,0,none⟩) 1 1)) (am:n+1<=1048576)
 (h:∀g' cap' w',zas w' B g' cap' (rs++[((gr,cr,xs),ct)])->w.grownBy w' (some g)->(g'=g∨w.heap.size<g')->K (a.put o.dst (qS (some ⟨g',0,none⟩) (n+1) cap')) w'):
 if Region.wanted o (yielded ops a.tmps)=true then Oper.wp Tryz.prog o a W K Q else E:=by
 subst hn;subst hW;subst hH;subst AU;have hw:Region.wanted o (yielded ops a.tmps)=true:=by simp[Region.wanted,dH]
 rw[if_pos hw];obtain⟨g',cap',w',cz,h2,h3,h4⟩:=zmh ai (gr,cr,xs) ct hr ao am o.type;have rR:(Builtin.append_ #[28,28] o.type #[(qS (some ⟨g,0,none⟩) rs.length cap),(qS (some ⟨w.heap.size,0,none⟩) 1 1)]).run Tryz.prog (w.alloc (.cells #[(qS (some ⟨gr,0,none⟩) xs.length cr),.int .i64 ct] 36))= .ok (qS (some ⟨g',0,none⟩) (rs.length+1) cap') w':=cz;unfold Oper.wp execOp;simp only[ho,resolve,invoke,builtin,Sem.run_bind,Sem.run_pure,Result.andThen_ok,List.map_toArray,List.map_cons,List.map_nil,hs,hx,rR];exact h g' cap' w' h2 h3 h4
end
end
section
open Go.RowKit Game
open Go.Maps (Keyed IsMap has)
theorem zDI(w:World):(zeroValue 3).run Tryz.prog w= .ok (.int .i64 0) w:=by kernel_rfl
theorem zAd{x:Int}(h:-9223372036854775808<=x/\x<=9223372036854775807):(Lit.int .i64 x).wf=true:=by
 simp[Lit.wf,IntKind.min,IntKind.max,IntKind.signed,IntKind.bits];omega
def zcl(w:World)(b n m:Nat)(out:List Wt):Prop:=
 ∃D:DataW Unit,w.ownsMap Tryz.prog 105 (plainElem Tryz.prog 3) b n D/\IsMap D/\∀v:LI,v.length=m->WfV v->D.atKey (zgf v) (.lit (.int .i64 0))= .lit (.int .i64 (zaC out v))
section
variable {w w':World} {b n m:Nat} {out:List Wt}
theorem zcl.start(w:World)(m:Nat):zcl (w.alloc (.map #[] 0)) w.heap.size 0 m []:=
 ⟨.map [],World.ownsMap_made _ _ _ _,⟨[],rfl⟩,fun v _ _=>by rfl⟩
theorem zcl.lt(h:zcl w b n m out):b<w.heap.size:=by obtain⟨D,h,-⟩:=h;exact h.lt
theorem zcl.same(h:zcl w b n m out)(hs:w'.heap[b]? =w.heap[b]?):zcl w' b n m out:=by
 obtain⟨D,⟨es,clock,hh,r⟩,h2⟩:=h;exact⟨D,⟨es,clock,hs.trans hh,r⟩,h2⟩
theorem zcl.below{B:Nat}(h:zcl w b n m out)(hb:Below B w w')(hB:b<B):zcl w' b n m out:=h.same (hb.block b hB)
theorem zcl.grown{row:Option Nat}(h:zcl w b n m out)(hg:w.grownBy w' row)(ao:some b≠row):zcl w' b n m out:=h.same (hg.block b h.lt ao)
theorem zcl.block(h:zcl w b n m out):∃es clock,w.heap[b]? =some (.map es clock):=by
 obtain⟨D,⟨es,clock,hh,r⟩,h2⟩:=h;exact⟨es,clock,hh⟩
theorem zcl.neV{g cap B:Nat}{E:TypeId}{xs:List Value}(h:zcl w b n m out)(ho:zaI w B E g cap xs):b≠g:=by
 rintro rfl;obtain⟨es,clock,hh⟩:=h.block;obtain⟨cur,h2,-⟩:=ho.row;rw[hh] at h2;simp at h2
theorem zcl.neOwn{g cap B:Nat}{xs:LI}(h:zcl w b n m out)(ho:Own w B g cap xs):b≠g:=h.neV ho.toV
theorem zcl.neW{g cap B:Nat}{rs:List WRef}(h:zcl w b n m out)(ho:zas w B g cap rs):b≠g:=by
 rintro rfl;obtain⟨es,clock,hh⟩:=h.block;obtain⟨cur,h2,-⟩:=ho.1.row;rw[hh] at h2;simp at h2
theorem zcl.rows{g cap B:Nat}{rs:List RowRef}(h:zcl w b n m out)(ho:zab w B g cap rs)(hg:w.grownBy w' (some b)):zab w' B g cap rs:=
 ⟨ho.1.grown hg (fun e=>h.neV ho.1 (Option.some.inj e).symm),fun r hr=>(ho.2.1 r hr).grown hg (fun e=>h.neOwn (ho.2.1 r hr) (Option.some.inj e).symm),ho.2.2⟩
theorem zcl.wts{g cap B:Nat}{rs:List WRef}(h:zcl w b n m out)(ho:zas w B g cap rs)(hg:w.grownBy w' (some b)):zas w' B g cap rs:=
 ⟨ho.1.grown hg (fun e=>h.neW ho (Option.some.inj e).symm),fun r hr=>(ho.2.1 r hr).grown hg (fun e=>h.neOwn (ho.2.1 r hr) (Option.some.inj e).symm),ho.2.2⟩
theorem zrj{ops:Array Oper}{rest:List Oper}{o:Oper}{a:Act}{Q:Exit->Act->World->Prop}
 (hg:o.guard=none) (x y:Operand) (cS:o.op=Op.lookup 107 x y false) (b n m:Nat) (out:List Wt) (v:LI) (hv:v.length=m) (hw:WfV v)
 (ai:zcl w b n m out) (hx:a.eval x= .map (some b)) (hy:a.eval y=zbo v)
 (hK:wpList Tryz.prog ops Q rest (a.put o.dst (.int .i64 (zaC out v))) w):
 wpList Tryz.prog ops Q (o::rest) a w:=by
 obtain⟨D,hD,-,lP⟩:=ai;refine wpList_lookup_own_int w hg x y _ cS _ _ .i64 zdW Tryz.underlying107 Tryz.underlying3 (zDI w) b n D hx hD (zbo v) (zgf v) hy (zdh hw) ?_;intro z hz _;have h3:=lP v hv hw;rw[hz] at h3;have e:z=zaC out v:=by simpa using h3
 rw[e];exact hK
end
end
section
open Go.RowKit
def zjt(c:LL)(r:LI)(k:Nat):LI:=(List.range k).map fun k=>zfu (c.getD k []) r
theorem zhW(c:LL)(r:LI)(k:Nat):(zjt c r k).length=k:=by simp[zjt]
theorem zsa(c:LL)(r:LI)(k:Nat):zjt c r (k+1)=zjt c r k++[zfu (c.getD k []) r]:=by simp[zjt,List.range_succ]
theorem zuQ(c:LL)(r:LI):zjt c r c.length=wtR c r:=rfl
theorem zhc(gc oc n cc g o m cr:Nat)(c:LL)(r:LI)(w:World)(hn:c.length=n)(hm:r.length=m)(hC:IsC c)(hl:r.length=c.length)(ah:gc<w.heap.size)(hg:g<w.heap.size)(hr:zal w gc oc c)(hc:zag w g o r):
 Calls Tryz.prog 158 #[(qS (some ⟨gc,oc,none⟩) n cc),(qS (some ⟨g,o,none⟩) m cr)] w (zav w (wtR c r)):=by
 subst hn;obtain rfl:c.length=m:=by omega
 have aR:=hC.2.1;have bD:=hC.2.2.1;have aN:Below w.heap.size w (w.alloc (.cells #[] 3)):=(Below.refl _ _).alloc (qr _) _;have aa:=zcz gc oc _ cc c (w.alloc (.cells #[] 3)) rfl (by omega) (fun j hj=>by have:=bD j hj;omega) (hr.below aN ah);rw[decide_eq_true hC] at aa;have ab:=qd aa;have HA:=qd (zuQ c r);have dY:=qd bD;rw[<-HA.out];clear aa hC HA bD
 go_enter Tryz.func158,Tryz.ntmps158
 go_wp2_with fail;refine ab.out.mono ?_;rintro e w1 ⟨rfl,bh⟩;have dc:=zaf aN bh;have au:Own w1 w.heap.size w.heap.size 0 (zjt c r 0):=(Own.empty (qr _)).still bh;clear aN bh ab;go_wp2_with fail;go_loopw [5,22] (fun s kv wr=>∃t g' c':Nat,t<=c.length/\kv= .int .i64 t/\s=(qS (some ⟨g',0,none⟩) t c')/\Own wr w.heap.size g' c' (zjt c r t)/\Below w.heap.size w wr) (fun _ kv _=>c.length-(intOf kv).toNat)
 case atStart=>exact⟨0,w.heap.size,0,qz _,rfl,rfl,au,dc⟩
 case round=>
  clear au dc;obtain⟨t,g',c',ht,rfl,rfl,ho,hb⟩:=hrel;by_cases ac:t<c.length
  ·obtain⟨gj,oj,cj,q1,q2,q3,q4⟩:=(hr.below hb ah) t ac;have an:=dY.out t ac;have aa:=zjb gj oj _ cj g o _ cr (c.getD t []) r wr rfl hl (by omega) (by omega) q4 (hc.below hb hg);have hs:=zsa c r t;have am:=zhW c r t;rw[an] at q1 aa;generalize zfu (c.getD t []) r=z at*;generalize zjt c r t=ys at*;have ab:=qd aa;have Hs:=qd hs;clear aa hs q4;go_wp2_with fail;refine ab.out.mono ?_;rintro e w2 ⟨rfl,aB⟩;have ar:=ho.still aB;have ae:=zaf hb aB;clear ho hb aB ab;go_wp2_with (at_builtin;refine zay (w:=w2) rfl _ _ rfl w.heap.size g' c' t ys z am ar rfl rfl (by omega) ?_);intro g3 c3 w3 al aK _;go_wp2;go_roundw
   case rel=>
    rw[<-Hs.out] at al;exact⟨t+1,g3,c3,by omega,by go_num,rfl,al,ae.grown aK ae.size (by intro j hj;cases hj;exact ar.base)⟩
   case measure=>simp[intOf];omega
  ·obtain rfl:t=c.length:=by omega
   go_wp2_with fail;go_ret;exact zav.mk' g' c' (zhW _ _ _) ho hb
theorem zhd(gc oc n cc g o m cr:Nat)(c:LL)(r:LI)(w:World)(hn:c.length=n)(hm:r.length=m)(hC:IsC c)(hl:r.length=c.length)(ah:gc<w.heap.size)(hg:g<w.heap.size)(hr:zal w gc oc c)(hc:zag w g o r):
 Calls Tryz.prog 175 #[(qS (some ⟨gc,oc,none⟩) n cc),(qS (some ⟨g,o,none⟩) m cr)] w (zav w (wtR c r)):=by
 subst hn;obtain rfl:c.length=m:=by omega
 have aR:=hC.2.1;have bD:=hC.2.2.1
 have aa:∀W,Below w.heap.size w W->Calls Tryz.prog 96 #[(qS (some ⟨gc,oc,none⟩) c.length cc)] W (zap W (.bool true)):=fun W hW=>by
  have:=zbD gc oc _ cc c W rfl (by omega) (fun j hj=>by have:=bD j hj;omega) (hr.below hW ah)
  rwa [decide_eq_true hC] at this
 have ab:=qd aa;have HA:=qd (zuQ c r);have dY:=qd bD;rw[<-HA.out];clear aa hC HA bD
 go_enter Tryz.func175,Tryz.ntmps175
 go_wp2;go_loopw [5,6] (fun s kv wr=>∃t g' c':Nat,t<=c.length/\kv= .int .i64 t/\s=(qS (some ⟨g',0,none⟩) t c')/\Own wr w.heap.size g' c' (zjt c r t)/\Below w.heap.size w wr) (fun _ kv _=>c.length-(intOf kv).toNat)
 case atStart=>exact⟨0,w.heap.size,0,qz _,rfl,rfl,Own.empty (qr _),(Below.refl _ _).alloc (qr _) _⟩
 case round=>
  obtain⟨t,g',c',ht,rfl,rfl,ho,hb⟩:=hrel;by_cases ac:t<c.length
  ·obtain⟨gj,oj,cj,q1,q2,q3,q4⟩:=(hr.below hb ah) t ac;have an:=dY.out t ac;have MO:=hc.below hb hg;have aa:=ab.out wr hb;have hs:=zsa c r t;have am:=zhW c r t;rw[an] at q1;have hp:Hid (zfu (c.getD t []) r=zdG (c.getD t []) r c.length):=by show zfu _ _=_;unfold zfu;rw[hl]
   generalize zjt c r t=ys at*;generalize c.getD t []=row at*;have rS:=qd aa;have Hs:=qd hs;clear aa hs;go_wp2_with fail;refine rS.out.mono ?_;rintro e w2 ⟨rfl,aB⟩;have ar:=ho.still aB;have ae:=zaf hb aB;have q1':=(zau aB _).trans q1;have q4':=q4.still aB;have Jm:=MO.still aB;clear ho hb aB rS q1 q4 MO;go_wp2_with fail;go_loopw [7,8] (fun sv iv wi=>∃i:Nat,i<=c.length/\iv= .int .i64 i/\sv= .int .i64 (zdG row r i)/\∃k,wi=w2.drewN k) (fun _ iv _=>c.length-(intOf iv).toNat)
   case atStart=>exact⟨0,qz _,rfl,rfl,0,rfl⟩
   case round=>
    obtain⟨i,hi,rfl,rfl,jX⟩:=hrel;have q1'':=(zau jX _).trans q1';by_cases bG:i<c.length
    ·have k1:=(zau jX _).trans (q4' i (by omega));have k2:=(zau jX _).trans (Jm i (by omega));have hd:Hid (zdG row r (i+1)=wrap64 (zdG row r i+wrap64 (row.getD i 0*r.getD i 0))):=rfl;generalize row.getD i 0=x at*;generalize r.getD i 0=y at*;generalize zdG row r i=d at*;have e1:IntKind.i64.wrap (x*y)=wrap64 (x*y):=by simp only[wrap64,IntKind.wrap_i64]
     have e2:IntKind.i64.wrap (d+wrap64 (x*y))=wrap64 (d+wrap64 (x*y)):=by simp only[wrap64,IntKind.wrap_i64]
     generalize wrap64 (x*y)=p at*;generalize wrap64 (d+p)=s at*;go_wp2_with fail;go_quiet (fail)
     go_wp2_with fail;go_roundw
     case rel=>exact⟨i+1,by omega,by go_num,by rw[hd.out],zbg jX ⟨nq,rfl⟩⟩
     case measure=>simp[intOf];omega
    ·obtain rfl:i=c.length:=by omega
     have al:=ar.still jX;have ag:=zaf ae jX;rw[<-hp.out];rw[<-hp.out] at*;generalize zfu row r=z at*;go_wp2_with (at_builtin;refine zay rfl _ _ rfl w.heap.size g' c' t ys z am al rfl rfl (by omega) ?_);intro g3 c3 w3 aw aT _;go_wp2;go_roundw
     case rel=>
      rw[<-Hs.out] at aw;exact⟨t+1,g3,c3,by omega,by go_num,rfl,aw,ag.grown aT ag.size (by intro j hj;cases hj;exact al.base)⟩
     case measure=>simp[intOf];omega
  ·obtain rfl:t=c.length:=by omega
   go_wp2_with fail;go_ret;exact zav.mk' g' c' (zhW _ _ _) ho hb
end
section
open Go.RowKit
theorem zht(g1 o1 n1 c1 g2 o2 n2 c2:Nat)(xs ys:LI)(w:World)(dL:xs.length=n1)(da:ys.length=n2)(hl:xs.length=ys.length)(hx:xs.length<=1099511627776)
 (fh:zag w g1 o1 xs) (gS:zag w g2 o2 ys):
 Calls Tryz.prog 92 #[(qS (some ⟨g1,o1,none⟩) n1 c1),(qS (some ⟨g2,o2,none⟩) n2 c2)] w (zap w (.bool (decide (0<zaU xs ys)))):=by
 subst dL;subst da;have e:zaU xs ys=zbK xs ys:=by unfold zaU;rw[if_neg (by omega),if_neg (by omega)]
 rw[e];clear e;have jV:ys.length=xs.length:=hl.symm;have Hl:=qd jV;clear jV hl
 go_enter Tryz.func92,Tryz.ntmps92
 go_wp2;go_loopw [5] (fun i wr=>∃k:Nat,k<=xs.length/\i= .int .i64 k/\Hid (zbK xs ys=zbK (xs.drop k) (ys.drop k))/\∃n,wr=w.drewN n) (fun i _=>xs.length-(intOf i).toNat)
 case atStart=>exact⟨0,qz _,rfl,rfl,0,rfl⟩
 case round=>
  obtain⟨k,hk,rfl,he,n,rfl⟩:=hrel;by_cases ac:k<xs.length
  ·have fc:k<ys.length:=by rw[Hl.out];exact ac
   have h1:=fh k ac;have h2:=gS k fc;have hd:=zkj ac fc;have Hd:=qd hd;clear hd;go_wp2;go_quiet (fail)
   go_wp2
   ·have ht:(xs[k] != ys[k])=true:=by assumption
    go_quiet (fail)
    go_wp2;go_ret;refine⟨zaK ?_,(by first|exact⟨_,rfl⟩|exact⟨0,rfl⟩|exact zam _ _ _|exact zan _ _ _ _)⟩;rw[he.out,Hd.out];have ao:xs[k]≠ys[k]:=by simpa using ht
    by_cases h:xs[k]<ys[k]
    ·rw[if_pos h];simp;omega
    ·rw[if_neg h,if_pos (by omega)];simp;omega
   ·have ht:(xs[k] != ys[k])=false:=by assumption
    have dI:xs[k]=ys[k]:=by simpa using ht
    go_roundw
    case rel=>exact⟨k+1,by omega,by go_num,by show _=_;rw[he.out,Hd.out,if_neg (by omega),if_neg (by omega)],(by first|exact⟨_,rfl⟩|exact⟨0,rfl⟩|exact zam _ _ _|exact zan _ _ _ _)⟩
    case measure=>simp[intOf];omega
  ·obtain rfl:k=xs.length:=by omega
   go_wp2;go_ret;refine⟨zaK ?_,n,rfl⟩;rw[he.out,List.drop_length];rfl
end
section
open Go.RowKit Game
theorem zIj{x word:LI}{l:LL}(h:x=word):zcD (x::l) word=x::l:=by simp[zcD,h]
theorem zIk{x word:LI}{l:LL}(hx:¬x=word)(h:0<zaU word x):zcD (x::l) word=word::x::l:=by simp[zcD,hx,h]
theorem zIl{x word:LI}{l:LL}(hx:¬x=word)(h:zaU word x<=0):zcD (x::l) word=x::zcD l word:=by simp only[zcD];rw[if_neg hx,if_neg (by omega)]
theorem zhe(B0 g cap n g1 o1 n1 c1:Nat)(rs:List RowRef)(word:LI)(w:World)(hn:rs.length=n)(dL:word.length=n1)(hl:rs.length<=1000000)(ry:word.length<=1048576)
 (bI:∀r∈rs,r.2.2.length=word.length) (ho:zab w B0 g cap rs) (bm:g1<w.heap.size) (aI:zag w g1 o1 word):
 Calls Tryz.prog 137 #[(qS (some ⟨g,0,none⟩) n cap),(qS (some ⟨g1,o1,none⟩) n1 c1)] w (zie w B0 (zcD (zaa rs) word)):=by
 subst hn;subst dL;have pM:B0<=w.heap.size:=by have:=ho.base;have:=ho.lt;omega
 have hg:=ho.lt;have mJ:=qd bI;clear bI
 go_enter Tryz.func137,Tryz.ntmps137
 go_wp2;go_loopw [5,6,7] (fun ov pv iv wr=>∃(i p g' c':Nat) (acc:List RowRef) (pl:Bool),i<=rs.length/\iv= .int .i64 i/\pv= .bool pl/\ov=(qS (some ⟨g',0,none⟩) p c')/\Hid (acc.length=p)/\p<=i+1/\Hid (zcT (fun l=>zcD l word) w.heap.size rs i acc pl)/\zab wr B0 g' c' acc/\w.heap.size<=g'/\Below w.heap.size w wr) (fun _ _ iv _=>rs.length-(intOf iv).toNat)
 case atStart=>
  exact⟨0,0,w.heap.size,0,[],false,qz _,rfl,rfl,rfl,rfl,by omega,zcT.start,zab.empty pM,qr _,(Below.refl _ _).alloc (qr _) _⟩
 case round=>
  obtain⟨i,p,g',c',acc,pl,hi,rfl,rfl,rfl,hp,jy,aL,hO,jb,hb⟩:=hrel;by_cases ac:i<rs.length
  ·have hm:rs[i]∈rs:=List.getElem_mem ac;have iS:=ho.2.1 _ hm;have mK:=aL.out.ne ho.2.2 ac iS.lt;have dF:=mJ.out _ hm
   have hq:wr.cell? ⟨g,i,none⟩=some (zah rs[i]):=by
    rw[hb.cell (p:=⟨g,i,none⟩) hg,ho.1.cell i (by simpa using ac)];simp
   have HS:∀(new:List RowRef) (pl':Bool),(∀s∈new,w.heap.size<=s.1)->acc.length+new.length<=i+1->(pl'=false->pl=false/\new=[])->(if pl then zaa (rs.drop i) else zcD (zaa (rs.drop i)) word)=zaa new++rs[i].2.2::(if pl' then zaa (rs.drop (i+1)) else zcD (zaa (rs.drop (i+1))) word)->zcT (fun l=>zcD l word) w.heap.size rs (i+1) (acc++new++[rs[i]]) pl':=
    fun new pl' h1 h2 h3 h4=>aL.out.step ac new pl' h1 h2 h3 h4
   have vd:=qd HS;have rT:=zlY rs ac;have np:=qd rT;have am:=aL.out.lenF;have cg:=qd am;clear HS rT am;generalize rs[i]=r at*;obtain⟨bi,ci,xi⟩:=r;have eK:wr.cell? ⟨g,i,none⟩=some (qS (some ⟨bi,0,none⟩) xi.length ci):=hq;have aU:Own wr B0 bi ci xi:=iS.below hb iS.lt;have fM:xi.length=word.length:=dF;have lT:=aI.below hb bm;have Bo:=aU.cells;have dj:=zcK bi 0 xi.length ci g1 o1 word.length c1 xi word wr rfl rfl (by omega) Bo lT
   have dB:∀w2,(∃n,w2=wr.drewN n)->Calls Tryz.prog 92 #[(qS (some ⟨g1,o1,none⟩) word.length c1),(qS (some ⟨bi,0,none⟩) xi.length ci)] w2 (zap w2 (.bool (decide (0<zaU word xi)))):=fun w2 hs=>
    zht g1 o1 _ c1 bi 0 _ ci word xi w2 rfl rfl fM.symm (by omega) (lT.still hs) (Bo.still hs)
   have gf:=qd mK;have bX:bi<w.heap.size:=iS.lt;have bP:p<=i+1:=jy;have Ho:=qd ho;have gI:=qd aL;clear hq iS hm mK ho aL lT Bo dF fM;by_cases ns:xi=word
   ·rw[decide_eq_true ns] at dj;have aX:=qd dj;have qY:=qd ns;clear dj ns
    cases pl with
    |false=>
     have jy:p<=i:=by have:=cg.out rfl;have:=hp.out;omega
     clear cg;go_wp2_with fail;refine aX.out.mono ?_;rintro e w2 ⟨rfl,aB⟩;have pN:w2.cell? ⟨g,i,none⟩=some (qS (some ⟨bi,0,none⟩) xi.length ci):=(zau aB _).trans eK;have bk:=zaf hb aB;have dG:=hO.still aB;have bz:=aU.still aB;have eX:=jb;clear hb hO aU eK aX aB;have ft:=gf.out;go_wp2_with (at_builtin;refine zao rfl _ _ rfl B0 g' _ (p) w2.heap.size (acc) (bi,ci,xi) _ hp.out rfl rfl dG bz ft rfl rfl (by omega) ?_);intro g5 c5 w5 eW eF cY;have bj:Below w.heap.size w w5:=bk.grown eF bk.size (by intro j hj;cases hj;exact eX)
     have fu:w.heap.size<=g5:=by
      rcases cY with h|h
      ·omega
      ·have:=bk.size;omega
     go_wp2;go_roundw
     case rel=>
      refine⟨i+1,p+1,g5,c5,acc++[(bi,ci,xi)],true,by omega,by go_num,by first|rfl|trivial,by first|rfl|trivial,?_,by omega,?_,eW,fu,bj⟩
      ·show _=_;have:=hp.out;simp at this ⊢;omega
      ·show zcT _ _ _ _ _ _;have:=vd.out [] true (by simp) (by rw[hp.out];simpa using bP) (by simp) (by simp only[if_true];rw[np.out];exact(zIj qY.out));simpa using this
     case measure=>simp[intOf];omega
    |true=>
     clear cg;go_wp2_with fail;refine aX.out.mono ?_;rintro e w2 ⟨rfl,aB⟩;have pN:w2.cell? ⟨g,i,none⟩=some (qS (some ⟨bi,0,none⟩) xi.length ci):=(zau aB _).trans eK;have bk:=zaf hb aB;have dG:=hO.still aB;have bz:=aU.still aB;have eX:=jb;clear hb hO aU eK aX aB;have ft:=gf.out;go_wp2_with (at_builtin;refine zao rfl _ _ rfl B0 g' _ (p) w2.heap.size (acc) (bi,ci,xi) _ hp.out rfl rfl dG bz ft rfl rfl (by omega) ?_);intro g5 c5 w5 eW eF cY;have bj:Below w.heap.size w w5:=bk.grown eF bk.size (by intro j hj;cases hj;exact eX)
     have fu:w.heap.size<=g5:=by
      rcases cY with h|h
      ·omega
      ·have:=bk.size;omega
     go_wp2;go_roundw
     case rel=>
      refine⟨i+1,p+1,g5,c5,acc++[(bi,ci,xi)],true,by omega,by go_num,by first|rfl|trivial,by first|rfl|trivial,?_,by omega,?_,eW,fu,bj⟩
      ·show _=_;have:=hp.out;simp at this ⊢;omega
      ·show zcT _ _ _ _ _ _;have:=vd.out [] true (by simp) (by rw[hp.out];simpa using bP) (by simp) (by simp only[if_true];rw[np.out];rfl);simpa using this
     case measure=>simp[intOf];omega
   ·rw[decide_eq_false ns] at dj;have aX:=qd dj;have qY:=qd ns;clear dj ns
    cases pl with
    |true=>
     clear cg;go_wp2_with fail;refine aX.out.mono ?_;rintro e w2 ⟨rfl,aB⟩;have pN:w2.cell? ⟨g,i,none⟩=some (qS (some ⟨bi,0,none⟩) xi.length ci):=(zau aB _).trans eK;have bk:=zaf hb aB;have dG:=hO.still aB;have bz:=aU.still aB;have eX:=jb;clear hb hO aU eK aX aB;have ft:=gf.out;go_wp2_with (at_builtin;refine zao rfl _ _ rfl B0 g' _ (p) w2.heap.size (acc) (bi,ci,xi) _ hp.out rfl rfl dG bz ft rfl rfl (by omega) ?_);intro g5 c5 w5 eW eF cY;have bj:Below w.heap.size w w5:=bk.grown eF bk.size (by intro j hj;cases hj;exact eX)
     have fu:w.heap.size<=g5:=by
      rcases cY with h|h
      ·omega
      ·have:=bk.size;omega
     go_wp2;go_roundw
     case rel=>
      refine⟨i+1,p+1,g5,c5,acc++[(bi,ci,xi)],true,by omega,by go_num,by first|rfl|trivial,by first|rfl|trivial,?_,by omega,?_,eW,fu,bj⟩
      ·show _=_;have:=hp.out;simp at this ⊢;omega
      ·show zcT _ _ _ _ _ _;have:=vd.out [] true (by simp) (by rw[hp.out];simpa using bP) (by simp) (by simp only[if_true];rw[np.out];rfl);simpa using this
     case measure=>simp[intOf];omega
    |false=>
     by_cases hv:0<zaU word xi
     ·have HG:Hid (∀w2,(∃n,w2=wr.drewN n)->Calls Tryz.prog 92 #[(qS (some ⟨g1,o1,none⟩) word.length c1),(qS (some ⟨bi,0,none⟩) xi.length ci)] w2 (zap w2 (.bool true))):=fun w2 hs=>by have:=dB w2 hs;rwa [decide_eq_true hv] at this
      have Hv:=qd hv;clear hv dB;have jy:p<=i:=by have:=cg.out rfl;have:=hp.out;omega
      clear cg;go_wp2_with fail;refine aX.out.mono ?_;rintro e w2 ⟨rfl,aB⟩;have bB:=qd (HG.out w2 aB);have ve:w2.cell? ⟨g,i,none⟩=some (qS (some ⟨bi,0,none⟩) xi.length ci):=(zau aB _).trans eK;go_wp2_with fail;refine bB.out.mono ?_;rintro e w6 ⟨rfl,fX⟩
      replace aB:=zbg aB fX
      clear fX bB ve;have pN:w6.cell? ⟨g,i,none⟩=some (qS (some ⟨bi,0,none⟩) xi.length ci):=(zau aB _).trans eK;have bk:=zaf hb aB;have dG:=hO.still aB;have bz:=aU.still aB;have eX:=jb;clear hb hO aU eK aX aB HG;go_wp2_with (at_builtin;refine zaV (w:=w6) rfl _ _ rfl g1 o1 _ c1 word rfl (qL bm bk.size) (aI.below bk bm) rfl rfl (by omega) ?_);intro g3 c3 w3 al ag;have ap:Below w.heap.size w w3:=bk.trans (ag.mono bk.size);have bg:zab w3 B0 g' c' acc:=dG.below ag
      have dz:∀s∈acc,s.1≠g3:=fun s hs e=>by
       have h1:=(dG.2.1 s hs).lt;have h2:=al.base;omega
      have aK:w.heap.size<=g3:=by have:=al.base;have:=bk.size;omega
      have cn:Own w3 B0 g3 c3 word:=al.mono (by have:=bk.size;omega);have iu:Own w3 B0 bi ci xi:=bz.below ag bz.lt;have ua:w3.cell? ⟨g,i,none⟩=some (qS (some ⟨bi,0,none⟩) xi.length ci):=(ag.cell (p:=⟨g,i,none⟩) (qL hg bk.size)).trans pN;clear pN bz dG bk ag;go_wp2_with (at_builtin;refine zao rfl _ _ rfl B0 g' c' p w3.heap.size acc (g3,c3,word) _ hp.out rfl rfl bg cn dz rfl rfl (by omega) ?_);intro g4 c4 w4 dG aT bq;have bk:Below w.heap.size w w4:=ap.grown aT ap.size (by intro j hj;cases hj;exact jb);have bz:Own w4 B0 bi ci xi:=iu.grown aT (fun e=>bg.1.ne iu.toV (by decide) (Option.some.inj e).symm)
      have eX:w.heap.size<=g4:=by
       rcases bq with h|h
       ·omega
       ·have:=ap.size;omega
      have pN:w4.cell? ⟨g,i,none⟩=some (qS (some ⟨bi,0,none⟩) xi.length ci):=aT.cell (a:=⟨g,i,none⟩) ua (by simp;omega)
      have ft:∀s∈acc++[(g3,c3,word)],s.1≠bi:=fun s hs=>by
       rcases List.mem_append.1 hs with h|h
       ·exact gf.out s h
       ·simp at h;subst h;show g3≠bi;omega
      have wP:(acc++[(g3,c3,word)]).length=p+1:=by rw[qA,hp.out];rfl
      have yM:=qd wP;clear ua iu bg ap aT bq al cn dz wP;go_wp2_with (at_builtin;refine zao rfl _ _ rfl B0 g4 _ (p+1) w4.heap.size (acc++[(g3,c3,word)]) (bi,ci,xi) _ yM.out rfl rfl dG bz ft rfl rfl (by omega) ?_);intro g5 c5 w5 eW eF cY;have bj:Below w.heap.size w w5:=bk.grown eF bk.size (by intro j hj;cases hj;exact eX)
      have fu:w.heap.size<=g5:=by
       rcases cY with h|h
       ·omega
       ·have:=bk.size;omega
      go_wp2;go_roundw
      case rel=>
       refine⟨i+1,p+1+1,g5,c5,acc++[(g3,c3,word),(bi,ci,xi)],true,by omega,by go_num,by first|rfl|trivial,by first|rfl|trivial,?_,by omega,?_,eW,fu,bj⟩
       ·show _=_;have:=yM.out;simp at this ⊢;omega
       ·show zcT _ _ _ _ _ _;have:=vd.out [(g3,c3,word)] true (by intro s hs;simp at hs;subst hs;exact aK) (by rw[hp.out];simpa using jy) (by intro e;simp at e) (by simp only[if_true];rw[np.out];exact(zIk qY.out Hv.out));simpa using this
      case measure=>simp[intOf];omega
     ·have HG:Hid (∀w2,(∃n,w2=wr.drewN n)->Calls Tryz.prog 92 #[(qS (some ⟨g1,o1,none⟩) word.length c1),(qS (some ⟨bi,0,none⟩) xi.length ci)] w2 (zap w2 (.bool false))):=fun w2 hs=>by have:=dB w2 hs;rwa [decide_eq_false hv] at this
      have Hv:=qd hv;clear hv dB;have jy:p<=i:=by have:=cg.out rfl;have:=hp.out;omega
      clear cg;go_wp2_with fail;refine aX.out.mono ?_;rintro e w2 ⟨rfl,aB⟩;have bB:=qd (HG.out w2 aB);have ve:w2.cell? ⟨g,i,none⟩=some (qS (some ⟨bi,0,none⟩) xi.length ci):=(zau aB _).trans eK;go_wp2_with fail;refine bB.out.mono ?_;rintro e w6 ⟨rfl,fX⟩
      replace aB:=zbg aB fX
      clear fX bB ve;have pN:w6.cell? ⟨g,i,none⟩=some (qS (some ⟨bi,0,none⟩) xi.length ci):=(zau aB _).trans eK;have bk:=zaf hb aB;have dG:=hO.still aB;have bz:=aU.still aB;have eX:=jb;clear hb hO aU eK aX aB HG;have ft:=gf.out;go_wp2_with (at_builtin;refine zao rfl _ _ rfl B0 g' _ (p) w6.heap.size (acc) (bi,ci,xi) _ hp.out rfl rfl dG bz ft rfl rfl (by omega) ?_);intro g5 c5 w5 eW eF cY;have bj:Below w.heap.size w w5:=bk.grown eF bk.size (by intro j hj;cases hj;exact eX)
      have fu:w.heap.size<=g5:=by
       rcases cY with h|h
       ·omega
       ·have:=bk.size;omega
      go_wp2;go_roundw
      case rel=>
       refine⟨i+1,p+1,g5,c5,acc++[(bi,ci,xi)],false,by omega,by go_num,by first|rfl|trivial,by first|rfl|trivial,?_,by omega,?_,eW,fu,bj⟩
       ·show _=_;have:=hp.out;simp at this ⊢;omega
       ·show zcT _ _ _ _ _ _;have:=vd.out [] false (by simp) (by rw[hp.out];simpa using bP) (by simp) (by rw[np.out];exact(zIl qY.out Hv.out));simpa using this
      case measure=>simp[intOf];omega
  ·obtain rfl:i=rs.length:=by omega
   cases pl with
   |true=>
    go_wp2_with fail;go_ret;have hd:=aL.out.done;exact zie.mk' g' c' acc hp.out hd hO jb hb
   |false=>
    go_wp2_with (at_builtin;refine zaV (w:=wr) rfl _ _ rfl g1 o1 _ c1 word rfl (qL bm hb.size) (aI.below hb bm) rfl rfl (by omega) ?_);intro g3 c3 w3 al ag;have ap:Below w.heap.size w w3:=hb.trans (ag.mono hb.size);have bg:zab w3 B0 g' c' acc:=hO.below ag
    have dz:∀s∈acc,s.1≠g3:=fun s hs e=>by
     have h1:=(hO.2.1 s hs).lt;have h2:=al.base;omega
    have cn:Own w3 B0 g3 c3 word:=al.mono (by have:=hb.size;omega);go_wp2_with (at_builtin;refine zao rfl _ _ rfl B0 g' c' p w3.heap.size acc (g3,c3,word) _ hp.out rfl rfl bg cn dz rfl rfl (by omega) ?_);intro g4 c4 w4 cV aT bq;have aG:Below w.heap.size w w4:=ap.grown aT ap.size (by intro j hj;cases hj;exact jb)
    have rU:w.heap.size<=g4:=by
     rcases bq with h|h
     ·omega
     ·have:=ap.size;omega
    go_wp2_with fail;go_ret;have hd:=aL.out.last (g3,c3,word) rfl;exact zie.mk' g4 c4 (acc++[(g3,c3,word)]) (by rw[qA,hp.out];rfl) hd cV rU aG
end
section
open Go.RowKit
def zbW(xs:LI)(k:Nat):LI:=(List.range xs.length).map fun t=>if t<k∨xs.length-k<=t then xs.getD (xs.length-1-t) 0 else xs.getD t 0
theorem zcb(xs:LI)(k:Nat):(zbW xs k).length=xs.length:=by simp[zbW]
theorem zfV(xs:LI)(k t:Nat)(ht:t<xs.length):(zbW xs k).getD t 0=if t<k∨xs.length-k<=t then xs.getD (xs.length-1-t) 0 else xs.getD t 0:=by
 simp[zbW,List.getD,ht]
theorem zyk(xs:LI):zbW xs 0=xs:=by
 apply List.ext_getElem (zcb _ _);intro t h1 h2;have:=zfV xs 0 t h2;rw[if_neg (by omega)] at this;simpa [List.getD,h1,h2] using this
theorem zyl(xs:LI)(k:Nat)(h:xs.length<=2*k+1):zbW xs k=xs.reverse:=by
 apply List.ext_getElem (by simp[zcb]);intro t h1 h2;have ht:t<xs.length:=by rw[zcb] at h1;exact h1
 have e:=zfV xs k t ht;have h3:(zbW xs k)[t]=(zbW xs k).getD t 0:=by simp[List.getD,h1]
 rw[h3,e,List.getElem_reverse]
 split
 ·simp[List.getD,show xs.length-1-t<xs.length by omega]
 ·have:xs.length-1-t=t:=by omega
  simp[List.getD,ht,this]
theorem zym(xs:LI)(k:Nat)(h:2*k+1<xs.length):
 ((zbW xs k).set k ((zbW xs k).getD (xs.length-1-k) 0)).set (xs.length-1-k) ((zbW xs k).getD k 0)=zbW xs (k+1):=by
 rw[zfV _ _ _ (by omega),zfV _ _ _ (by omega)];apply List.ext_getElem (by simp[zcb]);intro t h1 h2;have ht:t<xs.length:=by rw[zcb] at h2;exact h2
 have h3:(zbW xs (k+1))[t]=(zbW xs (k+1)).getD t 0:=by simp[List.getD,h2]
 rw[h3,zfV _ _ _ ht,List.getElem_set,List.getElem_set];have h4:t<(zbW xs k).length:=by rw[zcb];exact ht
 have h5:(zbW xs k)[t]=(zbW xs k).getD t 0:=by simp[List.getD,h4]
 rw[h5,zfV _ _ _ ht];by_cases a:xs.length-1-k=t
 ·rw[if_pos a,if_neg (by omega),if_pos (by omega),show xs.length-1-t=k by omega]
 ·rw[if_neg a];by_cases b:k=t
  ·subst b;rw[if_pos rfl,if_neg (by omega),if_pos (by omega)]
  ·rw[if_neg b];by_cases c:t<k∨xs.length-k<=t
   ·rw[if_pos c,if_pos (by omega)]
   ·rw[if_neg c,if_neg (by omega)]
theorem zIm{xs:LI}{k:Nat}(h:2*k+1<xs.length):
 ((zbW xs k).set k ((zbW xs k)[xs.length-1-k]'(by rw[zcb];omega))).set (xs.length-1-k) ((zbW xs k)[k]'(by rw[zcb];omega))=zbW xs (k+1):=by
 rw[<-zym xs k h];have l1:k<(zbW xs k).length:=by rw[zcb];omega
 have l2:xs.length-1-k<(zbW xs k).length:=by rw[zcb];omega
 have e1:(zbW xs k).getD k 0=(zbW xs k)[k]:=by simp[List.getD,l1]
 have e2:(zbW xs k).getD (xs.length-1-k) 0=(zbW xs k)[xs.length-1-k]:=by simp[List.getD,l2]
 rw[e1,e2]
theorem znp(B g n c:Nat)(xs:LI)(w:World)(hn:xs.length=n)(hx:xs.length<=1099511627776)(ai:Own w B g c xs):
 Calls Tryz.prog 172 #[(qS (some ⟨g,0,none⟩) n c)] w fun e w'=>e= .returned (.tuple #[])/\Own w' B g c xs.reverse/\w.grownBy w' (some g):=by
 subst hn;have e0:IntKind.i64.wrap ((xs.length:Int)-1)=(xs.length:Int)-1:=IntWalk.i64_in _ (by omega)
 go_enter Tryz.func172,Tryz.ntmps172
 go_wp2;go_loopw [2,3] (fun i j wr=>∃k:Nat,2*k<=xs.length/\i= .int .i64 k/\j= .int .i64 ((xs.length:Int)-1-k)/\Own wr B g c (zbW xs k)/\w.grownBy wr (some g)) (fun i _ _=>xs.length-(intOf i).toNat)
 case atStart=>exact⟨0,qz _,rfl,by simp,by rw[zyk];exact ai,World.grownBy.refl _ _⟩
 case round=>
  obtain⟨k,hk,rfl,rfl,ho,hg⟩:=hrel;by_cases ac:2*k+1<xs.length
  ·have l1:k<(zbW xs k).length:=by rw[zcb];omega
   have l2:xs.length-1-k<(zbW xs k).length:=by rw[zcb];omega
   have h1:=ho.cell k l1;have h2:=ho.cell (xs.length-1-k) l2;have f1:=ho.frozen k;have f2:=ho.frozen (xs.length-1-k);have i1:((xs.length:Int)-1-k).toNat=xs.length-1-k:=by omega
   have i2:(0:Int)<=(xs.length:Int)-1-k:=by omega
   have ao:k≠xs.length-1-k:=by omega
   go_wp2
   go_region
   all_goals go_wp2
   all_goals
    go_roundw
    case rel=>
     have hs:=ho.set2 k (xs.length-1-k) ((zbW xs k)[xs.length-1-k]) ((zbW xs k)[k]);rw[zIm ac] at hs;exact⟨k+1,by omega,by go_num,by go_num,hs.1.drew,zpL (World.grownBy.trans' hg hs.2)⟩
    case measure=>simp[intOf];omega
  ·go_wp2
   go_end0
   rw[zyl xs k (by omega)] at ho;exact⟨rfl,ho,hg⟩
theorem zlC(g o n c:Nat)(xs:LI)(w:World)(hn:xs.length=n)(hx:xs.length<=1099511627776)(hg:g<w.heap.size)(hc:zag w g o xs):
 Calls Tryz.prog 130 #[(qS (some ⟨g,o,none⟩) n c)] w (zav w xs.reverse):=by
 subst hn
 go_enter Tryz.func130,Tryz.ntmps130
 go_wp2_with (at_builtin;refine zaV rfl _ _ rfl g o _ c xs rfl hg hc rfl rfl hx ?_);intro g1 c1 w1 ho hb;go_wp2_with fail;refine(znp _ g1 _ c1 xs _ rfl hx ho).mono ?_;rintro e w2 ⟨rfl,ar,aP⟩;go_wp2;go_ret;exact zav.mk' g1 c1 (by simp) ar (hb.grown aP hb.size (by intro k hk;cases hk;exact ho.base))
end
end Go.Proofs.YtlgcmaoimpgedaaGreatDoor

/- Nf2 Parts Game -/
import Derived.Test.YtlgcmaoimpgedaaGreatDoorT06
set_option maxHeartbeats 2000000
set_option maxRecDepth 100000
set_option linter.unusedSimpArgs false
namespace Go.Proofs.YtlgcmaoimpgedaaGreatDoor
open Go.Value renaming slice->qS
section
open Go.RowKit
def zLj:Value->Nat| .slice _ n _=>n|_=>0
def nz(v:LI):Bool:=v.all fun x=>x != 0
def zbJ(c:LL):Nat->LI->Option LI
 |0,v=>if nz v&&(zaG v).isNone then some [] else none
 |f+1,v=>if nz v then match zaG v with
   |none=>some []
   |some i=>(zbJ c f (refl c i v)).map fun l=>(i:Int)::l
  else none
theorem ziB{c:LL}{f:Nat}{v rest:LI}(h:zbJ c f v=some rest)(hf:zaG v=none):rest=[]:=by
 cases f with
 |zero=>simp only[zbJ] at h;split at h <;> simp_all
 |succ f=>simp only[zbJ,hf] at h;split at h <;> simp_all
theorem ziC{c:LL}{f:Nat}{v rest:LI}{i:Nat}(h:zbJ c f v=some rest)(hf:zaG v=some i):
 ∃f' rest',f=f'+1/\rest=(i:Int)::rest'/\zbJ c f' (refl c i v)=some rest':=by
 cases f with
 |zero=>simp only[zbJ,hf] at h;simp at h
 |succ f=>
  simp only[zbJ,hf] at h
  split at h
  ·cases hr:zbJ c f (refl c i v) with
   |none=>rw[hr] at h;simp at h
   |some l=>rw[hr] at h;simp at h;exact⟨f,l,rfl,h.symm,hr⟩
  ·simp at h
theorem zty{c:LL}{f:Nat}{v rest:LI}(h:zbJ c f v=some rest):∀j,j<v.length->v.getD j 0≠0:=by
 have hz:nz v=true:=by
  cases f with
  |zero=>simp only[zbJ] at h;split at h <;> simp_all
  |succ f=>simp only[zbJ] at h;split at h <;> simp_all
 intro j hj;have:=List.all_eq_true.1 hz v[j] (List.getElem_mem hj);simpa [List.getD,hj] using this
theorem zmK{c:LL}:∀{f:Nat} {v rest:LI},zbJ c f v=some rest->rest.length<=f:=by
 intro f
 induction f with
 |zero=>intro v rest h;simp only[zbJ] at h;split at h <;> simp_all
 |succ f ih=>
  intro v rest h
  cases hf:zaG v with
  |none=>rw[ziB h hf];simp
  |some i=>
   obtain⟨f',rest',e,rfl,h'⟩:=ziC h hf;have:=ih (by rw[show f=f' by omega];exact h');simp;omega
theorem zCu{c:LL}:∀{f:Nat} {v rest:LI},zbJ c f v=some rest->∀k,k<rest.length->0<=rest.getD k 0/\rest.getD k 0<v.length:=by
 intro f
 induction f with
 |zero=>intro v rest h;simp only[zbJ] at h;split at h <;> simp_all
 |succ f ih=>
  intro v rest h
  cases hf:zaG v with
  |none=>rw[ziB h hf];simp
  |some i=>
   obtain⟨f',rest',e,rfl,h'⟩:=ziC h hf;intro k hk
   cases k with
   |zero=>have:=(zdM hf).1;simp[List.getD];omega
   |succ k=>
    have:=ih (by rw[show f=f' by omega];exact h') k (by simpa using hk);rw[zcf] at this;simpa [List.getD] using this
def zax(n:Nat):LI:=List.replicate n 1
theorem zmc(n:Nat)(w:World)(hn:n<=1048576):Calls Tryz.prog 77 #[.int .i64 n] w (zav w (zax n)):=by
 go_enter Tryz.func77,Tryz.ntmps77
 go_wp2;go_loopw [3,6] (fun s i wr=>∃t g' c':Nat,t<=n/\i= .int .i64 t/\s=(qS (some ⟨g',0,none⟩) t c')/\Own wr w.heap.size g' c' (zax t)/\Below w.heap.size w wr) (fun _ i _=>n-(intOf i).toNat)
 case atStart=>exact⟨0,w.heap.size,0,qz _,rfl,rfl,Own.empty (w:=w) (qr _),(Below.refl _ _).alloc (qr _) _⟩
 case round=>
  obtain⟨t,g',c',ht,rfl,rfl,ho,hb⟩:=hrel;by_cases ac:t<n
  ·have hI:(t:Int)<n:=by omega
   go_wp2_with (at_builtin;refine zay rfl _ _ rfl w.heap.size g' c' t (zax t) 1 (by simp[zax]) ho rfl rfl (by omega) ?_);intro g3 c3 w3 al aK _;go_wp2;go_roundw
   case rel=>
    have e:zax t++[1]=zax (t+1):=by unfold zax;rw[List.replicate_succ']
    rw[e] at al;exact⟨t+1,g3,c3,by omega,by go_num,rfl,al,hb.grown aK hb.size (by intro j hj;cases hj;exact ho.base)⟩
   case measure=>simp[intOf];omega
  ·obtain rfl:n=t:=by omega
   go_wp2;go_ret;exact zav.mk' g' c' (by simp[zax]) ho hb
theorem zqb(gc oc n cc g2 o2 n2 c2 f:Nat)(c:LL)(v word:LI)(w:World)(hn:c.length=n)(da:v.length=n2)(hC:IsC c)(hv:v.length=c.length)(hf:f<=1000)(mq:zbJ c f v=some word)
 (ah:gc<w.heap.size) (aP:g2<w.heap.size) (hr:zal w gc oc c) (aH:zag w g2 o2 v):
 Calls Tryz.prog 131 #[(qS (some ⟨gc,oc,none⟩) n cc),(qS (some ⟨g2,o2,none⟩) n2 c2)] w (zav w word):=by
 subst hn;subst da;have aR:=hC.2.1;have uC:v.length<=4:=by omega
 have Hv:=qd hv;clear hv;have ry:=zmK mq
 go_enter Tryz.func131,Tryz.ntmps131
 go_wp2_with (at_builtin;refine zaV rfl _ _ rfl g2 o2 _ c2 v rfl aP aH rfl rfl (by omega) ?_);intro gv cv w1 au ad;go_wp2;go_loopw [5,6] (fun s _ wr=>∃(p g' c' f':Nat) (u pre rest:LI),s=(qS (some ⟨g',0,none⟩) p c')/\Hid (pre.length=p)/\p+rest.length<=1000/\u.length=v.length/\Hid (zbJ c f' u=some rest)/\Hid (word=pre++rest)/\Own wr w.heap.size gv cv u/\Own wr w.heap.size g' c' pre/\gv≠g'/\Below w.heap.size w wr) (fun s _ _=>1001-zLj s)
 case atStart=>
  refine⟨0,w1.heap.size,0,f,v,[],word,rfl,rfl,by omega,rfl,mq,rfl,au.alloc _,Own.empty (w:=w1) ad.size,by have:=au.lt;omega,ad.alloc ad.size _⟩
 case round=>
  obtain⟨p,g',c',f',u,pre,rest,rfl,hp,bP,fp,ei,hw,lm,cS,ao,hb⟩:=hrel;have oX:=zeN gv 0 v.length cv u wr fp (by omega) lm.cells;have eS:=qd fp
  cases fF:zaG u with
  |none=>
   have hI:zcs u=-1:=by unfold zcs;rw[fF]
   rw[hI] at oX;have gV:=ziB ei.out fF;have xZ:=qd oX;have rA:=qd gV;clear oX hI fF fp gV;go_wp2_with fail;refine xZ.out.mono ?_;rintro e w2 ⟨rfl,m2,rfl⟩;go_wp2_with fail;go_ret;rw[hw.out,rA.out,List.append_nil];exact zav.mk' g' c' hp.out (cS.drewN m2) (below_drewN hb m2)
  |some i=>
   have hI:zcs u=i:=by unfold zcs;rw[fF]
   rw[hI] at oX;obtain⟨f2,rest2,-,gV,da⟩:=ziC ei.out fF;have bG:=(zdM fF).1;rw[fp] at bG;have nL:i<c.length:=by have:=Hv.out;omega
   have BV:¬((i:Int)<0):=by omega
   subst gV;have ya:p+rest2.length+1<=1000:=by simp at bP;omega
   have xZ:=qd oX;have qO:=qd da;clear oX hI fF fp da ei bP;go_wp2_with fail;refine xZ.out.mono ?_;rintro e w2 ⟨rfl,m2,rfl⟩;go_wp2_with (at_builtin;refine zay (w:=wr.drewN m2) rfl _ _ rfl w.heap.size g' c' p pre (i:Int) hp.out (cS.drewN m2) rfl rfl (by omega) ?_);intro g3 c3 w3 al aK aY;have ag:Below w.heap.size w w3:=(below_drewN hb m2).grown aK hb.size (by intro j hj;cases hj;exact cS.base);have nV:Own w3 w.heap.size gv cv u:=(lm.drewN m2).grown aK (by intro e;cases e;exact ao rfl)
   have dz:gv≠g3:=by
    rcases aY with h|h
    ·rw[h];exact ao
    ·have h1:=lm.lt;have h2:wr.heap.size<g3:=h;omega
   have aa:=zej w gc oc _ cc gv cv i v.length c u w3 rfl eS.out (by rw[eS.out];exact Hv.out) aR hC.2.2.1 nL ah hr ag nV;have ab:=qd aa;clear aa;go_wp2_with fail;refine ab.out.mono ?_;rintro e w4 ⟨rfl,aw,aT⟩;go_wp2_with fail;go_roundw
   case rel=>
    refine⟨p+1,g3,c3,f2,refl c i u,pre++[(i:Int)],rest2,rfl,?_,by omega,by rw[zcf];exact eS.out,qO.out,?_,aw,al.grown aT (by intro e;cases e;exact dz rfl),dz,ag.grown aT ag.size (by intro j hj;cases hj;exact lm.base)⟩
    ·show _=_;rw[qA,hp.out];rfl
    ·show _=_;rw[hw.out,List.append_assoc];rfl
   case measure=>simp[zLj];omega
end
section
def zae(l:List Nat):LI:=l.map fun i:Nat=>(i:Int)
theorem zai(l:List Nat):(zae l).length=l.length:=by simp[zae]
theorem zdN(l:List Nat)(k:Nat):zae (l++[k])=zae l++[(k:Int)]:=by simp[zae]
theorem zbB(l:List Nat)(k:Nat)(hk:k<l.length):(zae l).getD k 0=((l.getD k 0:Nat):Int):=by simp[zae,List.getD,hk]
def nbL(c:LL)(i:Nat):List Nat:=(List.range c.length).filter fun j=>j != i&&(ent c i j != 0)
def zbx(c:LL):List (List Nat):=(List.range c.length).map (nbL c)
abbrev Bst:=List Bool × List Nat
def zfG(s:Bst)(j:Nat):Bst:=if s.1.getD j false then s else(s.1.set j true,s.2++[j])
def zdB(s:Bst)(l:List Nat):Bst:=l.foldl zfG s
def zgP(tab:List (List Nat)):Nat->Nat->Bst->Option Bst
 |0,k,s=>if k<s.2.length then none else some s
 |f+1,k,s=>if k<s.2.length then zgP tab f (k+1) (zdB s (tab.getD (s.2.getD k 0) [])) else some s
def zzo(seen:List Bool):List Nat:=(List.range seen.length).filter fun k=>seen.getD k false
def ztb(tab:List (List Nat))(seen:List Bool)(i:Nat):Option Bst:=zgP tab 5 0 (seen.set i true,[i])
def ztz(x:Nat):List Nat->List Nat
 |[]=>[x]
 |y::l=>if x<y then x::y::l else y::ztz x l
def zjI(l:List Nat):List Nat:=l.foldl (fun a x=>ztz x a) []
def zbA(tab:List (List Nat)):Nat->Option (List Bool × List (List Nat))
 |0=>some (List.replicate tab.length false,[])
 |i+1=>match zbA tab i with
  |none=>none
  |some (seen,out)=>if seen.getD i false then some (seen,out) else match ztb tab seen i with
   |none=>none
   |some (seen',q)=>some (seen',out++[zjI q])
def ziD(tab:List (List Nat))(i:Nat):Option (List Nat):=(ztb tab (List.replicate tab.length false) i).map fun s=>zzo s.1
def zcL(tab:List (List Nat)):Nat->Option (List (List Nat))
 |0=>some []
 |i+1=>match zcL tab i,ziD tab i with
  |some out,some p=>some (if p.getD 0 0==i then out++[p] else out)
  |_,_=>none
def zxK:List Nat->Bool
 |x::y::l=>decide (x<y)&&zxK (y::l)
 |_=>true
def znL(n:Nat)(p:List Nat):Bool:=zxK p&&(decide (1<=p.length)&&(decide (p.length<=4)&&p.all fun x=>decide (x<n)))
def zln(c:LL):Bool:=
 match zbA (zbx c) c.length,zcL (zbx c) c.length with
 |some (_,a),some b=>((a==b)&&a.all (znL c.length))&&(List.range c.length).all fun i=>match ziD (zbx c) i with|some p=>decide (1<=p.length)&&decide (p.length<=4)|none=>false
 |_,_=>false
def zo(c:LL):LL:=c.map fun r=>r.map fun x=>if x=0 then 0 else 1
theorem zjJ(c:LL):(zo c).length=c.length:=by simp[zo]
theorem zzp(c:LL)(i j:Nat):ent (zo c) i j=if ent c i j=0 then 0 else 1:=by
 have key:∀o:Option LI,((o.map fun r=>r.map fun x:Int=>if x=0 then(0:Int) else 1).getD [])[j]?.getD 0=(fun x:Int=>if x=0 then(0:Int) else 1) ((o.getD [])[j]?.getD 0):=by
  intro o
  cases o with
  |none=>simp
  |some r=>
   simp only[Option.map_some,Option.getD_some,List.getElem?_map]
   have k2:∀o:Option Int,(o.map fun x:Int=>if x=0 then(0:Int) else 1).getD 0=(fun x:Int=>if x=0 then(0:Int) else 1) (o.getD 0):=by
    intro o
    cases o <;> simp
   exact k2 _
 unfold ent zo;simp only[List.getD,List.getElem?_map];exact key _
theorem ztA(c:LL):zbx (zo c)=zbx c:=by
 unfold zbx;rw[zjJ];apply List.map_congr_left;intro i _;unfold nbL;rw[zjJ];apply List.filter_congr;intro j _;rw[zzp];by_cases h:ent c i j=0
 ·simp[h]
 ·simp[h]
def zm2(a:Int):LL:=[[1,a],[a,1]]
def zm3(a b e:Int):LL:=[[1,a,b],[a,1,e],[b,e,1]]
def zm4(a b d e f g:Int):LL:=[[1,a,b,d],[a,1,e,f],[b,e,1,g],[d,f,g,1]]
def Z2:LI:=[0,1]
theorem zKe:zln [[1]]=true:=by kernel_rfl
theorem zKf:(Z2.all fun a=>zln (zm2 a))=true:=by kernel_rfl
theorem zKg:(Z2.all fun a=>Z2.all fun b=>Z2.all fun e=>zln (zm3 a b e))=true:=by kernel_rfl
theorem zKh:(Z2.all fun a=>Z2.all fun b=>Z2.all fun d=>Z2.all fun e=>Z2.all fun f=>Z2.all fun g=>zln (zm4 a b d e f g))=true:=by kernel_rfl
theorem zxL{α:Type}{l:List α}(h:l.length=1):∃a,l=[a]:=by
 match l,h with
 |[a],_=>exact⟨a,rfl⟩
theorem zqV{α:Type}{l:List α}(h:l.length=2):∃a b,l=[a,b]:=by
 match l,h with
 |[a,b],_=>exact⟨a,b,rfl⟩
theorem zmL{α:Type}{l:List α}(h:l.length=3):∃a b c,l=[a,b,c]:=by
 match l,h with
 |[a,b,c],_=>exact⟨a,b,c,rfl⟩
theorem zkl{α:Type}{l:List α}(h:l.length=4):∃a b c d,l=[a,b,c,d]:=by
 match l,h with
 |[a,b,c,d],_=>exact⟨a,b,c,d,rfl⟩
theorem zGQ(c:LL)(h:zln (zo c)=true):zln c=true:=by
 unfold zln at h ⊢;rw[ztA,zjJ] at h;exact h
theorem zeO(x:Int):(if x=0 then(0:Int) else 1)∈Z2:=by split <;> simp[Z2]
theorem dg{c:LL}(hC:IsC c){i:Nat}(hi:i<c.length):ent c i i=2:=by
 have:=hC.2.2.2 i hi i hi;unfold zcG at this
 rwa [if_pos rfl] at this
theorem zeP{c:LL}(hC:IsC c){i j:Nat}(hi:i<c.length)(hj:j<c.length)(ao:i≠j):(if ent c i j=0 then(0:Int) else 1)=if ent c j i=0 then 0 else 1:=by
 have:=hC.2.2.2 i hi j hj;unfold zcG at this;rw[if_neg ao] at this;have h:=this.2.2;by_cases e:ent c i j=0
 ·have:ent c j i=0:=by simpa [e] using h.symm
  simp[e,this]
 ·have:¬ent c j i=0:=by intro e2;apply e;simpa [e2] using h
  simp[e,this]
theorem zCv{c:LL}(hC:IsC c):zln c=true:=by
 apply zGQ;have:c.length=1∨c.length=2∨c.length=3∨c.length=4:=by have:=hC.1;have:=hC.2.1;omega
 rcases this with hn|hn|hn|hn
 ·obtain⟨r0,rfl⟩:=zxL hn;obtain⟨x00,rfl⟩:=zxL (hC.2.2.1 0 (by simp));have d0:x00=2:=dg hC (i:=0) (by simp);subst d0;exact zKe
 ·obtain⟨r0,r1,rfl⟩:=zqV hn;obtain⟨x00,x01,rfl⟩:=zqV (hC.2.2.1 0 (by simp));obtain⟨x10,x11,rfl⟩:=zqV (hC.2.2.1 1 (by simp));have d0:x00=2:=dg hC (i:=0) (by simp);have d1:x11=2:=dg hC (i:=1) (by simp);subst d0;subst d1;have s10:(if x10=0 then(0:Int) else 1)=if x01=0 then 0 else 1:=zeP hC (i:=1) (j:=0) (by simp) (by simp) (by decide);have e:zo [[2,x01],[x10,2]]=zm2 (if x01=0 then 0 else 1):=by simp[zo,zm2,s10]
  rw[e];exact List.all_eq_true.1 zKf _ (zeO x01)
 ·obtain⟨r0,r1,r2,rfl⟩:=zmL hn;obtain⟨x00,x01,x02,rfl⟩:=zmL (hC.2.2.1 0 (by simp));obtain⟨x10,x11,x12,rfl⟩:=zmL (hC.2.2.1 1 (by simp));obtain⟨x20,x21,x22,rfl⟩:=zmL (hC.2.2.1 2 (by simp));have d0:x00=2:=dg hC (i:=0) (by simp);have d1:x11=2:=dg hC (i:=1) (by simp);have d2:x22=2:=dg hC (i:=2) (by simp);subst d0;subst d1;subst d2;have s10:(if x10=0 then(0:Int) else 1)=if x01=0 then 0 else 1:=zeP hC (i:=1) (j:=0) (by simp) (by simp) (by decide);have s20:(if x20=0 then(0:Int) else 1)=if x02=0 then 0 else 1:=zeP hC (i:=2) (j:=0) (by simp) (by simp) (by decide);have s21:(if x21=0 then(0:Int) else 1)=if x12=0 then 0 else 1:=zeP hC (i:=2) (j:=1) (by simp) (by simp) (by decide);have e:zo [[2,x01,x02],[x10,2,x12],[x20,x21,2]]=zm3 (if x01=0 then 0 else 1) (if x02=0 then 0 else 1) (if x12=0 then 0 else 1):=by simp[zo,zm3,s10,s20,s21]
  rw[e];exact List.all_eq_true.1 (List.all_eq_true.1 (List.all_eq_true.1 zKg _ (zeO x01)) _ (zeO x02)) _ (zeO x12)
 ·obtain⟨r0,r1,r2,r3,rfl⟩:=zkl hn;obtain⟨x00,x01,x02,x03,rfl⟩:=zkl (hC.2.2.1 0 (by simp));obtain⟨x10,x11,x12,x13,rfl⟩:=zkl (hC.2.2.1 1 (by simp));obtain⟨x20,x21,x22,x23,rfl⟩:=zkl (hC.2.2.1 2 (by simp));obtain⟨x30,x31,x32,x33,rfl⟩:=zkl (hC.2.2.1 3 (by simp));have d0:x00=2:=dg hC (i:=0) (by simp);have d1:x11=2:=dg hC (i:=1) (by simp);have d2:x22=2:=dg hC (i:=2) (by simp);have d3:x33=2:=dg hC (i:=3) (by simp);subst d0;subst d1;subst d2;subst d3;have s10:(if x10=0 then(0:Int) else 1)=if x01=0 then 0 else 1:=zeP hC (i:=1) (j:=0) (by simp) (by simp) (by decide);have s20:(if x20=0 then(0:Int) else 1)=if x02=0 then 0 else 1:=zeP hC (i:=2) (j:=0) (by simp) (by simp) (by decide);have s30:(if x30=0 then(0:Int) else 1)=if x03=0 then 0 else 1:=zeP hC (i:=3) (j:=0) (by simp) (by simp) (by decide);have s21:(if x21=0 then(0:Int) else 1)=if x12=0 then 0 else 1:=zeP hC (i:=2) (j:=1) (by simp) (by simp) (by decide);have s31:(if x31=0 then(0:Int) else 1)=if x13=0 then 0 else 1:=zeP hC (i:=3) (j:=1) (by simp) (by simp) (by decide);have s32:(if x32=0 then(0:Int) else 1)=if x23=0 then 0 else 1:=zeP hC (i:=3) (j:=2) (by simp) (by simp) (by decide);have e:zo [[2,x01,x02,x03],[x10,2,x12,x13],[x20,x21,2,x23],[x30,x31,x32,2]]=zm4 (if x01=0 then 0 else 1) (if x02=0 then 0 else 1) (if x03=0 then 0 else 1) (if x12=0 then 0 else 1) (if x13=0 then 0 else 1) (if x23=0 then 0 else 1):=by simp[zo,zm4,s10,s20,s30,s21,s31,s32]
  rw[e];exact List.all_eq_true.1 (List.all_eq_true.1 (List.all_eq_true.1 (List.all_eq_true.1 (List.all_eq_true.1 (List.all_eq_true.1 zKh _ (zeO x01)) _ (zeO x02)) _ (zeO x03)) _ (zeO x12)) _ (zeO x13)) _ (zeO x23)
theorem zpa{c:LL}(hC:IsC c):∃seen P,zbA (zbx c) c.length=some (seen,P)/\zcL (zbx c) c.length=some P/\(∀p∈P,znL c.length p=true)/\∀i,i<c.length->∃p,ziD (zbx c) i=some p/\1<=p.length/\p.length<=4:=by
 have h:=zCv hC;unfold zln at h
 split at h
 ·rename_i seen a b h1 h2
  rw[Bool.and_eq_true,Bool.and_eq_true] at h;have e:a=b:=by simpa using h.1.1
  subst e;refine⟨seen,a,h1,h2,fun p hp=>List.all_eq_true.1 h.1.2 p hp,fun i hi=>?_⟩;have h3:=List.all_eq_true.1 h.2 i (List.mem_range.2 hi)
  split at h3
  ·rename_i p hp
   rw[Bool.and_eq_true,decide_eq_true_eq,decide_eq_true_eq] at h3;exact⟨p,hp,h3⟩
  ·simp at h3
 ·simp at h
end
section
namespace Game
abbrev Vec:=Nat->Int
abbrev Mat:=Nat->Nat->Int
structure Car(A:Mat)(n:Nat):Prop where
 two:∀i,i<n->A i i=2
 off:∀i j,i<n->j<n->i≠j→-3<=A i j/\A i j<=0/\(A i j=0↔A j i=0)
def s(A:Mat)(i:Nat)(v:Vec):Vec:=fun k=>v k-v i*A k i
def run(A:Mat):List Nat->Vec->Vec
 |[],v=>v
 |i::l,v=>run A l (s A i v)
def act(A:Mat):List Nat->Vec->Vec
 |[],v=>v
 |i::l,v=>s A i (act A l v)
def zbE(A:Mat)(n:Nat):List Nat->Vec->Prop
 |[],_=>True
 |i::l,v=>i<n/\v i<0/\zbE A n l (s A i v)
def zaF(A:Mat)(n:Nat)(l:List Nat)(v d:Vec):Prop:=zbE A n l v/\run A l v=d
def Dom(n:Nat)(d:Vec):Prop:=∀i,i<n->0<=d i
variable {A:Mat} {n:Nat}
theorem zaF.cons{i:Nat}{l:List Nat}{v d:Vec}:zaF A n (i::l) v d↔i<n/\v i<0/\zaF A n l (s A i v) d:=by
 unfold zaF;constructor
 ·rintro ⟨⟨h1,h2,h3⟩,h4⟩;exact⟨h1,h2,h3,h4⟩
 ·rintro ⟨h1,h2,h3,h4⟩;exact⟨⟨h1,h2,h3⟩,h4⟩
theorem ziE(l1 l2:List Nat)(v:Vec):run A (l1++l2) v=run A l2 (run A l1 v):=by
 induction l1 generalizing v with
 |nil=>rfl
 |cons i l ih=>exact ih _
theorem zfa(l1 l2:List Nat)(v:Vec):act A (l1++l2) v=act A l1 (act A l2 v):=by
 induction l1 with
 |nil=>rfl
 |cons i l ih=>simp only[List.cons_append,act,ih]
theorem zbE.append{l1 l2:List Nat}{v:Vec}(h1:zbE A n l1 v)(h2:zbE A n l2 (run A l1 v)):zbE A n (l1++l2) v:=by
 induction l1 generalizing v with
 |nil=>exact h2
 |cons i l ih=>exact⟨h1.1,h1.2.1,ih h1.2.2 h2⟩
theorem zaF.append{l1 l2:List Nat}{v d:Vec}(h1:zbE A n l1 v)(h2:zaF A n l2 (run A l1 v) d):zaF A n (l1++l2) v d:=
 ⟨h1.append h2.1,by rw[ziE];exact h2.2⟩
theorem s_s(hC:Car A n){i:Nat}(hi:i<n)(v:Vec):s A i (s A i v)=v:=by
 funext k;simp only[s,hC.two i hi];rw[show v i-v i*2=-(v i) by omega,Int.neg_mul];omega
theorem zGR(hC:Car A n):∀{l:List Nat} {v:Vec},(∀i∈l,i<n)->act A l (run A l v)=v:=by
 intro l
 induction l with
 |nil=>intro v _;rfl
 |cons i l ih=>
  intro v h;simp only[run,act];rw[ih (fun j hj=>h j (List.mem_cons_of_mem _ hj)),s_s hC (h i (by simp))]
theorem zbE.lt{l:List Nat}{v:Vec}(h:zbE A n l v):∀i∈l,i<n:=by
 induction l generalizing v with
 |nil=>intro i hi;simp at hi
 |cons i l ih=>
  intro j hj
  rcases List.mem_cons.1 hj with e|e
  ·rw[e];exact h.1
  ·exact ih h.2.2 j e
theorem zaF.eq_act(hC:Car A n){l:List Nat}{v d:Vec}(h:zaF A n l v d):v=act A l d:=by
 rw[<-h.2,zGR hC h.1.lt]
def st(A:Mat)(i j:Nat)(v:Vec)(X Y:Int):Vec:=fun k=>v k-X*A k i-Y*A k j
theorem znM(i j:Nat)(v:Vec):st A i j v 0 0=v:=by funext k;simp[st]
theorem zeo(hC:Car A n){i j:Nat}(hi:i<n)(v:Vec)(X Y:Int):s A i (st A i j v X Y)=st A i j v (v i-X-Y*A i j) Y:=by
 funext k;simp only[s,st,hC.two i hi];rw[show v i-X*2-Y*A i j=(v i-X-Y*A i j)-X by omega];generalize v i-X-Y*A i j=z;rw[Int.sub_mul];omega
theorem zep(hC:Car A n){i j:Nat}(hj:j<n)(v:Vec)(X Y:Int):s A j (st A i j v X Y)=st A i j v X (v j-Y-X*A j i):=by
 funext k;simp only[s,st,hC.two j hj];rw[show v j-X*A j i-Y*2=(v j-Y-X*A j i)-Y by omega];generalize v j-Y-X*A j i=z;rw[Int.sub_mul];omega
theorem zgQ(hC:Car A n){i j:Nat}(hi:i<n)(v:Vec)(X Y:Int):st A i j v X Y i=v i-X*2-Y*A i j:=by simp[st,hC.two i hi]
theorem zgR(hC:Car A n){i j:Nat}(hj:j<n)(v:Vec)(X Y:Int):st A i j v X Y j=v j-X*A j i-Y*2:=by simp[st,hC.two j hj]
theorem zjK{i j:Nat}{v:Vec}{X Y X' Y':Int}(h1:X=X')(h2:Y=Y'):st A i j v X Y=st A i j v X' Y':=by rw[h1,h2]
def alt(i j:Nat):Nat->List Nat
 |0=>[]
 |m+1=>i::alt j i m
theorem zqc(i j m:Nat):(alt i j m).length=m:=by
 induction m generalizing i j with
 |zero=>rfl
 |succ m ih=>simp[alt,ih]
structure zmM(A:Mat)(n i j m:Nat):Prop where
 legal:∀v:Vec,v i<0->v j<0->zbE A n (alt i j (m+1)) v/\zbE A n (alt j i (m+1)) v
 runs:∀v:Vec,run A (alt i j (m+1)) v=run A (alt j i (m+1)) v
 acts:∀v:Vec,act A (alt i j (m+1)) v=act A (alt j i (m+1)) v
theorem zKi(hC:Car A n){i j:Nat}(hi:i<n)(hj:j<n)(h1:A i j=0)(h2:A j i=0):zmM A n i j 1:=by
 refine⟨fun v ha hb=>?_,fun v=>?_,fun v=>?_⟩
 all_goals (rw[<-znM (A:=A) i j v])
 all_goals (simp only[alt,zbE,run,act,zeo hC hi,zep hC hj,zgQ hC hi,zgR hC hj,h1,h2,and_true])
 ·omega
 ·exact zjK (by omega) (by omega)
 ·exact zjK (by omega) (by omega)
theorem zKj(hC:Car A n){i j:Nat}(hi:i<n)(hj:j<n)(h1:A i j=-1)(h2:A j i=-1):zmM A n i j 2:=by
 refine⟨fun v ha hb=>?_,fun v=>?_,fun v=>?_⟩
 all_goals (rw[<-znM (A:=A) i j v])
 all_goals (simp only[alt,zbE,run,act,zeo hC hi,zep hC hj,zgQ hC hi,zgR hC hj,h1,h2,and_true])
 ·omega
 ·exact zjK (by omega) (by omega)
 ·exact zjK (by omega) (by omega)
theorem zGz(hC:Car A n){i j:Nat}(hi:i<n)(hj:j<n)(h1:A i j=-1)(h2:A j i=-2):zmM A n i j 3:=by
 refine⟨fun v ha hb=>?_,fun v=>?_,fun v=>?_⟩
 all_goals (rw[<-znM (A:=A) i j v])
 all_goals (simp only[alt,zbE,run,act,zeo hC hi,zep hC hj,zgQ hC hi,zgR hC hj,h1,h2,and_true])
 ·omega
 ·exact zjK (by omega) (by omega)
 ·exact zjK (by omega) (by omega)
theorem zGA(hC:Car A n){i j:Nat}(hi:i<n)(hj:j<n)(h1:A i j=-1)(h2:A j i=-3):zmM A n i j 5:=by
 refine⟨fun v ha hb=>?_,fun v=>?_,fun v=>?_⟩
 all_goals (rw[<-znM (A:=A) i j v])
 all_goals (simp only[alt,zbE,run,act,zeo hC hi,zep hC hj,zgQ hC hi,zgR hC hj,h1,h2,and_true])
 ·omega
 ·exact zjK (by omega) (by omega)
 ·exact zjK (by omega) (by omega)
theorem zmM.symm{i j m:Nat}(h:zmM A n i j m):zmM A n j i m:=
 ⟨fun v ha hb=>(h.legal v hb ha).symm,fun v=>(h.runs v).symm,fun v=>(h.acts v).symm⟩
theorem zGS(hC:Car A n){i j:Nat}(hi:i<n)(hj:j<n)(ao:i≠j):(∃m,zmM A n i j m)∨(A i j≤-2/\A j i≤-2):=by
 have h1:=hC.off i j hi hj ao;have h2:=hC.off j i hj hi (Ne.symm ao);by_cases z:A i j=0
 ·exact .inl ⟨1,zKi hC hi hj z (h1.2.2.1 z)⟩
 by_cases z2:A j i=0
 ·exact absurd (h1.2.2.2 z2) z
 have e1:A i j=-1∨A i j=-2∨A i j=-3:=by omega
 have e2:A j i=-1∨A j i=-2∨A j i=-3:=by omega
 rcases e1 with e1|e1|e1 <;> rcases e2 with e2|e2|e2
 ·exact .inl ⟨2,zKj hC hi hj e1 e2⟩
 ·exact .inl ⟨3,zGz hC hi hj e1 e2⟩
 ·exact .inl ⟨5,zGA hC hi hj e1 e2⟩
 ·exact .inl ⟨3,(zGz hC hj hi e2 e1).symm⟩
 ·right;omega
 ·right;omega
 ·exact .inl ⟨5,(zGA hC hj hi e2 e1).symm⟩
 ·right;omega
 ·right;omega
def zCw(A:Mat)(n:Nat)(d:Vec)(k:Nat):Prop:=
 ∀(v:Vec) (l:List Nat),zaF A n l v d->l.length=k->∀j,j<n->v j<0->∃l',zaF A n (j::l') v d/\l'.length+1=k/\∀u,act A l u=act A (j::l') u
theorem zxM{d:Vec}:∀(ch:List Nat) {K:Nat},(∀k,k<=K->zCw A n d k)->∀(v:Vec) (l:List Nat),zaF A n l v d->l.length<=K->zbE A n ch v->
 ∃l',zaF A n l' (run A ch v) d/\l'.length+ch.length=l.length/\∀u,act A l u=act A (ch++l') u:=by
 intro ch
 induction ch with
 |nil=>intro K _ v l h _ _;exact⟨l,h,rfl,fun u=>rfl⟩
 |cons j ch ih=>
  intro K hK v l h hl BW;obtain⟨l1,h1,h2,h3⟩:=hK l.length hl v l h rfl j BW.1 BW.2.1;obtain⟨l2,g1,g2,g3⟩:=ih hK (s A j v) l1 (zaF.cons.1 h1).2.2 (by omega) BW.2.2;refine⟨l2,g1,by simp;omega,fun u=>?_⟩;rw[h3];simp only[List.cons_append,act];rw[g3]
theorem zwV{d:Vec}(hC:Car A n)(hd:Dom n d):∀(K:Nat),(∀k,k<=K->zCw A n d k)->∀(i j:Nat),i<n->j<n->A i j≤-2->A j i≤-2->∀(v:Vec) (l:List Nat),zaF A n l v d->l.length<=K->0<=v i->v i+v j<0->False:=by
 intro K
 induction K with
 |zero=>
  intro _ i j hi hj _ _ v l h hl h1 h2;have:l=[]:=List.eq_nil_of_length_eq_zero (by omega);subst this;have:=hd j hj;rw[<-h.2] at this;simp[run] at this;omega
 |succ K ih=>
  intro hK i j hi hj pD Po v l h hl h1 h2;obtain⟨l1,g1,g2,_⟩:=hK l.length hl v l h rfl j hj (by omega);refine ih (fun k hk=>hK k (by omega)) j i hj hi Po pD (s A j v) l1 (zaF.cons.1 g1).2.2 (by omega) ?_ ?_
  ·simp only[s,hC.two j hj];omega
  ·simp only[s,hC.two j hj];have hm:v j*A i j>=v j*(-2):=Int.mul_le_mul_of_nonpos_left (by omega) pD;omega
theorem zxN(hC:Car A n){d:Vec}(hd:Dom n d):∀k,zCw A n d k:=by
 intro k
 induction k using Nat.strongRecOn with
 |ind k ih=>
  intro v l h hl j hj Mj
  cases l with
  |nil=>
   have:=hd j hj;rw[<-h.2] at this;simp[run] at this;omega
  |cons i l1=>
   simp only[List.length_cons] at hl;obtain⟨hi,FU,h1⟩:=zaF.cons.1 h;by_cases ao:i=j
   ·subst ao;exact⟨l1,h,hl,fun u=>rfl⟩
   rcases zGS hC hi hj ao with⟨m,hm⟩|⟨e1,e2⟩
   ·obtain⟨g1,g2⟩:=hm.legal v FU Mj;have gr:=hm.runs v;have ga:=hm.acts;have g1':zbE A n (alt j i m) (s A i v):=g1.2.2;have g2':zbE A n (alt i j m) (s A j v):=g2.2.2;have gr':run A (alt j i m) (s A i v)=run A (alt i j m) (s A j v):=gr;obtain⟨l2,p1,p2,p3⟩:=zxM (alt j i m) (K:=k-1) (fun k' qI=>ih k' (by omega)) (s A i v) l1 h1 (by omega) g1';rw[zqc] at p2;rw[gr'] at p1;refine⟨alt i j m++l2,?_,?_,fun u=>?_⟩
    ·exact zaF.cons.2 ⟨hj,Mj,zaF.append g2' p1⟩
    ·rw[qA,zqc];omega
    ·simp only[act];rw[p3,zfa,zfa];exact ga _
   ·exfalso;refine zwV hC hd (k-1) (fun k' qI=>ih k' (by omega)) i j hi hj e1 e2 (s A i v) l1 h1 (by omega) ?_ ?_
    ·simp only[s,hC.two i hi];omega
    ·simp only[s,hC.two i hi];have hm:v i*A j i>=v i*(-2):=Int.mul_le_mul_of_nonpos_left (by omega) e2;omega
end Game
end
section
namespace Game
variable {A:Mat} {n:Nat}
theorem Dom.stuck{d d':Vec}{l:List Nat}(hd:Dom n d)(h:zaF A n l d d'):l=[]:=by
 cases l with
 |nil=>rfl
 |cons i l=>have:=(zaF.cons.1 h);have h2:=hd i this.1;omega
theorem zaF.any(hC:Car A n){d:Vec}(hd:Dom n d){v:Vec}{l l':List Nat}(h:zaF A n l v d)(h':zbE A n l' v):
 ∃l'',zaF A n (l'++l'') v d/\l'.length+l''.length=l.length/\∀u,act A l u=act A (l'++l'') u:=by
 obtain⟨l2,h1,h2,h3⟩:=zxM l' (K:=l.length) (fun k _=>zxN hC hd k) v l h (qr _) h';exact⟨l2,zaF.append h' h1,by omega,h3⟩
theorem zaF.unique(hC:Car A n){d:Vec}(hd:Dom n d){v:Vec}{l l':List Nat}(h:zaF A n l v d)(h':zaF A n l' v d):l'.length=l.length/\∀u,act A l u=act A l' u:=by
 obtain⟨l2,h1,h2,h3⟩:=h.any hC hd h'.1
 have e:l2=[]:=by
  refine Dom.stuck (A:=A) (d':=d) hd ?_
  have h4:zbE A n l2 (run A l' v)/\run A l2 (run A l' v)=d:=by
   have:=h1.2;rw[ziE] at this;refine⟨?_,this⟩;have hl:=h1.1;clear h1 h2 h3 this h h'
   induction l' generalizing v with
   |nil=>exact hl
   |cons i l' ih=>exact ih hl.2.2
  rw[h'.2] at h4;exact h4
 subst e;rw[List.append_nil] at h3;exact⟨by simpa using h2,h3⟩
theorem zaF.first(hC:Car A n){d:Vec}(hd:Dom n d){v:Vec}{l:List Nat}(h:zaF A n l v d){j:Nat}(hj:j<n)(hv:v j<0):∃l',zaF A n (j::l') v d/\l'.length+1=l.length/\∀u,act A l u=act A (j::l') u:=
 zxN hC hd l.length v l h rfl j hj hv
theorem zGT(hC:Car A n){d:Vec}(hd:∀i,i<n->0<d i):∀(k:Nat) (v:Vec) (l:List Nat),zaF A n l v d->l.length=k->∀j,j<n->v j≠0:=by
 have rB:Dom n d:=fun i hi=>by have:=hd i hi;omega
 intro k
 induction k using Nat.strongRecOn with
 |ind k ih=>
  intro v l h hl j hj hz
  cases l with
  |nil=>
   have:=hd j hj;rw[<-h.2] at this;simp[run] at this;omega
  |cons i l1=>
   simp only[List.length_cons] at hl;obtain⟨hi,FU,h1⟩:=zaF.cons.1 h;have ao:i≠j:=by intro e;subst e;omega
   have g1:=hC.off i j hi hj ao;have g2:=hC.off j i hj hi (Ne.symm ao);by_cases z:A j i=0
   ·refine ih (k-1) (by omega) (s A i v) l1 h1 (by omega) j hj ?_;simp[s,hz,z]
   have z2:A i j≠0:=fun e=>z (g1.2.2.1 e)
   have go:∀(ch:List Nat) (t:Nat),zbE A n ch (s A i v)->t<n->run A ch (s A i v) t=0->False:=by
    intro ch t BW ht h0;obtain⟨l2,p1,p2,_⟩:=zxM ch (K:=l1.length) (fun k' _=>zxN hC rB k') (s A i v) l1 h1 (qr _) BW;exact ih l2.length (by omega) _ l2 p1 rfl t ht h0
   have e1:A i j=-1∨(A i j≤-2/\(A i j=-2∨A i j=-3)):=by omega
   have e2:A j i=-1∨(A j i≤-2/\(A j i=-2∨A j i=-3)):=by omega
   have nW:s A i v=st A i j v (v i) 0:=by funext k;simp[s,st]
   rw[nW] at go
   rcases e1 with e1|⟨e1,e1'⟩ <;> rcases e2 with e2|⟨e2,e2'⟩
   ·refine go [j] i ?_ hi ?_
    ·simp only[zbE,run,zeo hC hi,zep hC hj,zgQ hC hi,zgR hC hj,e1,e2,hz,and_true];omega
    ·simp only[zbE,run,zeo hC hi,zep hC hj,zgQ hC hi,zgR hC hj,e1,e2,hz,and_true];omega
   ·rcases e2' with e2'|e2'
    ·refine go [j,i] j ?_ hj ?_
     ·simp only[zbE,run,zeo hC hi,zep hC hj,zgQ hC hi,zgR hC hj,e1,e2',hz,and_true];omega
     ·simp only[zbE,run,zeo hC hi,zep hC hj,zgQ hC hi,zgR hC hj,e1,e2',hz,and_true];omega
    ·refine go [j,i,j,i] j ?_ hj ?_
     ·simp only[zbE,run,zeo hC hi,zep hC hj,zgQ hC hi,zgR hC hj,e1,e2',hz,and_true];omega
     ·simp only[zbE,run,zeo hC hi,zep hC hj,zgQ hC hi,zgR hC hj,e1,e2',hz,and_true];omega
   ·rcases e1' with e1'|e1'
    ·refine go [j,i] j ?_ hj ?_
     ·simp only[zbE,run,zeo hC hi,zep hC hj,zgQ hC hi,zgR hC hj,e1',e2,hz,and_true];omega
     ·simp only[zbE,run,zeo hC hi,zep hC hj,zgQ hC hi,zgR hC hj,e1',e2,hz,and_true];omega
    ·refine go [j,i,j,i] j ?_ hj ?_
     ·simp only[zbE,run,zeo hC hi,zep hC hj,zgQ hC hi,zgR hC hj,e1',e2,hz,and_true];omega
     ·simp only[zbE,run,zeo hC hi,zep hC hj,zgQ hC hi,zgR hC hj,e1',e2,hz,and_true];omega
   ·refine zwV hC rB l1.length (fun k' _=>zxN hC rB k') i j hi hj e1 e2 (s A i v) l1 h1 (qr _) ?_ ?_
    ·simp only[s,hC.two i hi];omega
    ·simp only[s,hC.two i hi];have hm:v i*A j i>=v i*(-2):=Int.mul_le_mul_of_nonpos_left (by omega) e2;omega
theorem zaF.ne(hC:Car A n){d:Vec}(hd:∀i,i<n->0<d i){v:Vec}{l:List Nat}(h:zaF A n l v d){j:Nat}(hj:j<n):v j≠0:=zGT hC hd l.length v l h rfl j hj
theorem zKk{v:Vec}{i:Nat}(h:v i=0):s A i v=v:=by funext k;simp[s,h]
theorem zdg(hC:Car A n){d:Vec}(hd:Dom n d):∀(w:List Nat),(∀i∈w,i<n)->∃l,zaF A n l (act A w d) d/\l.length<=w.length:=by
 intro w
 induction w with
 |nil=>intro _;exact⟨[],⟨trivial,rfl⟩,qr _⟩
 |cons i w ih=>
  intro hw;obtain⟨l,h1,h2⟩:=ih (fun j hj=>hw j (List.mem_cons_of_mem _ hj));have hi:=hw i (by simp);simp only[act,List.length_cons];generalize act A w d=u at*
  rcases Int.lt_trichotomy (u i) 0 with h|h|h
  ·obtain⟨l',g1,g2,_⟩:=h1.first hC hd hi h;exact⟨l',(zaF.cons.1 g1).2.2,by omega⟩
  ·rw[zKk h];exact⟨l,h1,by omega⟩
  ·refine⟨i::l,zaF.cons.2 ⟨hi,?_,?_⟩,by simp;omega⟩
   ·simp only[s,hC.two i hi];omega
   ·rw[s_s hC hi];exact h1
theorem ztB(hC:Car A n){d:Vec}(hd:∀i,i<n->0<d i):∀(w:List Nat),(∀i∈w,i<n)->∀l,zaF A n l (act A w d) d->∀u,act A w u=act A l u:=by
 have rB:Dom n d:=fun i hi=>by have:=hd i hi;omega
 intro w
 induction w with
 |nil=>
  intro _ l h u;have:=Dom.stuck rB h;rw[this]
 |cons i w ih=>
  intro hw l h u;have hi:=hw i (by simp);obtain⟨l0,h1,h2⟩:=zdg hC rB w (fun j hj=>hw j (List.mem_cons_of_mem _ hj));have iY:=ih (fun j hj=>hw j (List.mem_cons_of_mem _ hj)) l0 h1;simp only[act] at h ⊢;rw[iY];generalize act A w d=x at*
  rcases Int.lt_trichotomy (x i) 0 with g|g|g
  ·obtain⟨l',g1,g2,g3⟩:=h1.first hC rB hi g;rw[g3];simp only[act];rw[s_s hC hi];exact((zaF.unique hC rB (zaF.cons.1 g1).2.2 h).2 u)
  ·exact absurd g (h1.ne hC hd hi)
  ·have hp:zaF A n (i::l0) (s A i x) d:=zaF.cons.2 ⟨hi,by simp only[s,hC.two i hi];omega,by rw[s_s hC hi];exact h1⟩;exact(zaF.unique hC rB hp h).2 u
def Bd(n:Nat)(M:Int)(v:Vec):Prop:=∀k,k<n→-M<=v k/\v k<=M
theorem zJh{x a M:Int}(hx:-M<=x/\x<=M)(ha:-3<=a/\a<=3):-(3*M)<=x*a/\x*a<=3*M:=by
 have:a=-3∨a=-2∨a=-1∨a=0∨a=1∨a=2∨a=3:=by omega
 rcases this with e|e|e|e|e|e|e <;> subst e <;> omega
theorem Car.small(hC:Car A n){i j:Nat}(hi:i<n)(hj:j<n):-3<=A i j/\A i j<=3:=by
 by_cases e:i=j
 ·subst e;rw[hC.two i hi];omega
 ·have:=hC.off i j hi hj e;omega
theorem Bd.step(hC:Car A n){M:Int}{v:Vec}{i:Nat}(hi:i<n)(h:Bd n M v):Bd n (4*M) (s A i v):=by
 intro k hk;have h1:=h k hk;have h2:=zJh (h i hi) (hC.small hk hi);simp only[Game.s];omega
theorem Bd.word(hC:Car A n){M:Int}{d:Vec}(h:Bd n M d):∀(w:List Nat),(∀i∈w,i<n)->Bd n (4 ^ w.length*M) (act A w d):=by
 intro w
 induction w with
 |nil=>intro _;simpa [Game.act] using h
 |cons i w ih=>
  intro hw;have:=(ih (fun j hj=>hw j (List.mem_cons_of_mem _ hj))).step hC (hw i (by simp));simp only[Game.act,List.length_cons];rw[Int.pow_succ,Int.mul_comm (4 ^ w.length) 4,Int.mul_assoc];exact this
end Game
end
section
open Go.RowKit
namespace Game
def toV(v:LI):Vec:=fun k=>v.getD k 0
theorem zbS{c:LL}(hC:IsC c):Car (ent c) c.length:=by
 refine⟨fun i hi=>dg hC hi,fun i j hi hj ao=>?_⟩;have h:=hC.2.2.2 i hi j hj;unfold zcG at h;rw[if_neg ao] at h;refine⟨h.1,h.2.1,?_⟩;have h2:=h.2.2;constructor
 ·intro e;simpa [e] using h2.symm
 ·intro e;simpa [e] using h2
theorem zqW{c:LL}{i j:Nat}(h:c.length<=i):ent c i j=0:=by
 unfold ent;simp only[List.getD];rw[List.getElem?_eq_none h];rfl
theorem toV_refl{c:LL}(hC:IsC c){v:LI}(hv:v.length=c.length){i:Nat}(hi:i<c.length){M:Int}(hM:M<=1152921504606846976)(hb:Bd c.length M (toV v)):toV (refl c i v)=s (ent c) i (toV v):=by
 funext k;by_cases hk:k<c.length
 ·have h1:=hb k hk;have h2:=zJh (hb i hi) ((zbS hC).small hk hi);have e:toV (refl c i v) k=zdT c i v k:=by simp[toV,refl,List.getD,hv,hk]
  rw[e]
  change wrap64 (toV v k-wrap64 (toV v i*ent c k i))=toV v k-toV v i*ent c k i
  generalize toV v i*ent c k i=p at*;have w1:wrap64 p=p:=IntWalk.wrap64_in _ ⟨by omega,by omega⟩;rw[w1];exact IntWalk.wrap64_in _ ⟨by omega,by omega⟩
 ·have h1:toV (refl c i v) k=0:=by
   simp only[toV,List.getD];rw[List.getElem?_eq_none (by rw[zcf];omega)];rfl
  have h2:toV v k=0:=by
   simp only[toV,List.getD];rw[List.getElem?_eq_none (by omega)];rfl
  rw[h1];simp only[s,h2,zqW (c:=c) (j:=i) (show c.length<=k by omega)];omega
theorem zwW{k:Nat}(h:k<=30):(4:Int) ^ k<=1152921504606846976:=by
 have h1:(4:Nat) ^ k<=4 ^ 30:=Nat.pow_le_pow_right (by decide) h;have h2:((4 ^ k:Nat):Int)=(4:Int) ^ k:=by simp
 rw[<-h2];have h3:(4:Nat) ^ 30=1152921504606846976:=by decide
 omega
theorem zCx{c:LL}(hC:IsC c){d:LI}(hd:d.length=c.length){M:Int}(hb:Bd c.length M (toV d)):∀(w:List Nat),(∀i∈w,i<c.length)->(∀k,k<=w.length->4 ^ k*M<=1152921504606846976)->toV (zct c (zae w) d)=act (ent c) w (toV d):=by
 intro w
 induction w with
 |nil=>intro _ _;rfl
 |cons i w ih=>
  intro hw hM;have ic:∀j∈w,j<c.length:=fun j hj=>hw j (List.mem_cons_of_mem _ hj)
  have h1:=ih ic (fun k hk=>hM k (by simp;omega));have h2:=(hb.word (zbS hC) w ic);rw[<-h1] at h2;have h3:=toV_refl hC (v:=zct c (zae w) d) (by rw[zdo];exact hd) (hw i (by simp)) (hM w.length (by simp)) h2;show toV (refl c ((i:Int)).toNat (zct c (zae w) d))=_;rw[Int.toNat_natCast,h3,h1];rfl
theorem zgv(n:Nat)(k:Nat)(hk:k<n):toV (zax n) k=1:=by simp[toV,zax,List.getD,hk]
theorem zwX(n:Nat):Bd n 1 (toV (zax n)):=fun k hk=>by rw[zgv n k hk];omega
theorem zjd(n:Nat):∀i,i<n->0<toV (zax n) i:=fun i hi=>by rw[zgv n i hi];omega
theorem zgw(n:Nat):Dom n (toV (zax n)):=fun i hi=>by rw[zgv n i hi];omega
theorem zmN(n:Nat):(zax n).length=n:=by simp[zax]
theorem zeZ{c:LL}(hC:IsC c){w:List Nat}(hw:∀i∈w,i<c.length)(hl:w.length<=30):toV (zct c (zae w) (zax c.length))=act (ent c) w (toV (zax c.length)):=
 zCx hC (zmN _) (zwX _) w hw (fun k hk=>by rw[Int.mul_one];exact zwW (by omega))
theorem zgC{v u:LI}(hl:v.length=u.length)(h:toV v=toV u):v=u:=by
 apply List.ext_getElem hl;intro k h1 h2;have:=congrFun h k;simpa [toV,List.getD,h1,h2] using this
theorem zGB{v:LI}(h:∀j,j<v.length->v.getD j 0≠0):nz v=true:=by
 unfold nz;apply List.all_eq_true.2;intro x hx;obtain⟨j,hj,rfl⟩:=List.getElem_of_mem hx;have:=h j hj;simpa [List.getD,hj] using this
theorem zCy{c:LL}(hC:IsC c):∀(f:Nat) (v:LI),v.length=c.length->∀l,zaF (ent c) c.length l (toV v) (toV (zax c.length))->l.length<=f->l.length<=30->
 ∃W,zbJ c f v=some (zae W)/\zaF (ent c) c.length W (toV v) (toV (zax c.length)):=by
 have hA:=zbS hC;intro f
 induction f with
 |zero=>
  intro v hv l h hf _;have e:l=[]:=List.eq_nil_of_length_eq_zero (by omega);subst e;have hz:nz v=true:=zGB (fun j hj=>h.ne hA (zjd _) (j:=j) (by omega))
  have hn:zaG v=none:=zfF (fun j hj=>by
   have:toV v j=1:=by rw[show toV v=_ from h.2];exact zgv _ _ (by omega)
   show 0<=toV v j;omega)
  refine⟨[],?_,h⟩;unfold zbJ;rw[hz,hn];rfl
 |succ f ih=>
  intro v hv l h hf BX;have hz:nz v=true:=zGB (fun j hj=>h.ne hA (zjd _) (j:=j) (by omega));unfold zbJ;rw[if_pos hz]
  cases hn:zaG v with
  |none=>
   have nT:=zfg hn;have e:l=[]:=Dom.stuck (A:=ent c) (n:=c.length) (fun i hi=>nT i (by omega)) h;subst e;exact⟨[],rfl,h⟩
  |some i=>
   obtain⟨hi,dw,_⟩:=zdM hn;have kl:i<c.length:=by omega
   obtain⟨l',g1,g2,_⟩:=h.first hA (zgw _) kl dw
   have AS:Bd c.length (4 ^ l.length*1) (toV v):=by
    rw[h.eq_act hA];exact(zwX c.length).word hA l h.1.lt
   have hr:=toV_refl hC hv kl (by rw[Int.mul_one];exact zwW BX) AS;obtain⟨W,p1,p2⟩:=ih (refl c i v) (by rw[zcf];exact hv) l' (by rw[hr];exact(zaF.cons.1 g1).2.2) (by omega) (by omega);refine⟨i::W,?_,zaF.cons.2 ⟨kl,dw,by rw[<-hr];exact p2⟩⟩;show(zbJ c f (refl c i v)).map _=_;rw[p1];rfl
structure zje(c:LL)(w W:List Nat):Prop where
 norm:zbJ c 30 (zct c (zae w) (zax c.length))=some (zae W)
 plays:zaF (ent c) c.length W (act (ent c) w (toV (zax c.length))) (toV (zax c.length))
 len:W.length<=w.length
 act:∀u,act (ent c) w u=act (ent c) W u
 lt:∀i∈W,i<c.length
 img:zct c (zae W) (zax c.length)=zct c (zae w) (zax c.length)
theorem zjL{c:LL}(hC:IsC c){w:List Nat}(hw:∀i∈w,i<c.length)(hl:w.length<=30):∃W,zje c w W:=by
 have hA:=zbS hC;obtain⟨l,h1,h2⟩:=zdg hA (zgw c.length) w hw;have hi:=zeZ hC hw hl;obtain⟨W,g1,g2⟩:=zCy hC 30 (zct c (zae w) (zax c.length)) (by rw[zdo];exact zmN _) l (by rw[hi];exact h1) (by omega) (by omega);rw[hi] at g2;have hu:=zaF.unique hA (zgw _) h1 g2;have wg:W.length<=w.length:=by omega
 have iY:=ztB hA (zjd c.length) w hw W g2;refine⟨W,g1,g2,wg,iY,g2.1.lt,?_⟩;apply zgC
 ·rw[zdo,zdo]
 ·rw[zeZ hC g2.1.lt (by omega),hi,iY]
end Game
end
end Go.Proofs.YtlgcmaoimpgedaaGreatDoor
